/- Several texts in one, made short by a program of mine. -/
import Derived.Test.YtknejlcijdngoaaGreatTQ3
import Derived.Deep.DeepCutAuto
import Derived.ProofKit
import Derived.OpenShut
import Derived.SizedLaws
import Derived.Deep.Slices
import Derived.StillTailTactics
import Derived.BigQuiet
import Derived.Conc.LeavingOf
import Derived.Conc.WgGenN3
import Derived.Test.YtknejlcijdngoaaGreatRows
import Derived.Maps.AppendAt
import Derived.Laws.OwnMore
import Derived.WalkSmall
import Derived.Deep.RegionHeld3
import Derived.Deep.RegionWith
import Derived.Orders
import Derived.Conc.Holds
import Derived.Deep.RegionLawGrows
import Derived.Laws.AppendOwnNone
import Derived.Shelf.SlSortCmp.NoneTotal
set_option linter.defProp false
set_option linter.unusedVariables false
set_option linter.unusedSimpArgs false
set_option linter.unusedSectionVars false
set_option maxHeartbeats 16000000
set_option maxRecDepth 100000
open Array renaming all_eq_true→eY,empty_append→kU,ext'→oz,getD_eq_getD_getElem?→bH,getElem?_eq_getElem→aX,getElem?_eq_some_iff→aI,getElem?_map→gM,getElem?_modify→bq,getElem?_setIfInBounds_ne→aK,getElem?_setIfInBounds_self_of_lt→aU,mem_append→o4,mem_of_getElem?→ug,replicate→eG,replicate_succ→dD,replicate_zero→dE
open Bool renaming and_eq_true→aG,eq_iff_iff→l8,false_eq_true→dP,not_eq_true'→iT,or_eq_true→gi,false→ay,true→aw
open Go renaming Frame→bp,FuncId→bK,Goroutine→au,Operand→cG,Program→aS,TypeId→aA,Value→ao,World→ah
open Go.Act renaming eval→bX
open Go.Conc renaming mem_ofEvents→bj
open Go.ConcR renaming mk→iJ
open Go.Frame renaming enter→fG,finish_at→nL
open Go.Instr renaming loadAt→eh,storeAt→eZ
open Go.Lib renaming hid→af
open Go.MemAct renaming ofEvent→cX,touch?→sU
open Go.MemOp renaming ofEvents→ca
open Go.Proofs.Tryz renaming prog→aj
open Go.Region renaming ready→ig,wanted→bu
open Go.Result renaming andThen→dQ,andThen_ok→ij
open Go.Sem renaming runT→gw,run_bind→eH
open Go.Value renaming cells→iQ,int→aF,ownBlock→fx,slice→eA
open Go.World renaming block_lt_of_cell?→rX,cell?→c8,ownsRow_nil→oh,setCell→dJ,setChan→qj,size_alloc→dw
open Go.World.ownsRow renaming lt→gJ
open Go.stepG renaming exec→ji
open List renaming any_eq_true→qc,append_nil→ew,append_toArray→dT,cons_append→dF,drop_append→qd,drop_of_length_le→iU,drop_succ_cons→mZ,eq_nil_of_length_eq_zero→ft,ext_getElem?→mf,flatMap_cons→bN,foldl_cons→l9,getD→bB,getD_eq_getElem?_getD→aY,getElem?_cons_succ→e8,getElem?_eq_getElem→aq,getElem?_eq_none→jz,getElem?_eq_some_iff→bz,getElem?_map→dN,getElem?_set→fh,getElem?_take→ie,getElem_mem→bg,length_append→aZ,length_cons→aD,length_map→aL,length_nil→aP,length_set→de,length_take→cK,map_congr_left→dx,mem_cons→cj,mem_filter→cm,mem_iff_getElem→dK,mem_map→aH,mem_of_getElem?→pM,mem_of_mem_take→pN,mem_range→ng,mem_singleton→eO,mem_toArray→qi,nil_append→cy,not_mem_nil→jH,pairwise_iff_getElem→lO,push_toArray→ez,range→bP,set_append_right→oA,size_toArray→aV,take_length→dm,take_of_length_le→ck,take_succ_eq_append_getElem→bh
open List.Perm renaming append_left→dy,refl→qK
open List.range renaming loop→cu
open Nat renaming add_assoc→sZ,add_comm→dA,add_mul→gY,add_sub_cancel_left→iL,add_zero→lC,eq_zero_or_pos→lQ,le_refl→ax,le_trans→bM,lt_of_lt_of_le→cc,mul_le_mul_right→fC,one_mul→jE,strongRecOn→mQ,zero_add→bS,zero_le→cE
open Option renaming getD_some→bT,map_eq_some_iff→aJ,map_some→fS,none→ai,some→ae
open Option.some renaming inj→be,injEq→dS
open Or renaming inl→bm,inr→bO
namespace Go.Proofs.YtknejlcijdngoaaGreat
section
open Go.RowKit
end
namespace Rel
open Go.Conc Go.ConcN
def Ends (P:aS)(Post:ao->ah->Prop)(m:Machine)(t:Trace):Prop:= ∃N last o w' t',runNT P (N+1) m t=(.ended o w',t')/\runN P N m=.next last/\step P last=.ended o w'/\Go.Conc.Good P Post last o w' t'
section
variable {P:aS} {Post:ao->ah->Prop} {Shun:Nat->Prop} {B:Nat} {gs:Array au} {q:Nat->Nat} {t u:Trace} {w:ah} {sl:Option (Nat×Nat)} {a:au}
def Ends.step {m m':Machine}{ops:Trace}(h:stepT P m=(.next m',ops))(k:Ends P Post m' (t++ops)):Ends P Post m t:=by obtain⟨N,last,o,w',t',h1,h2,h3,h4⟩:=k;exact⟨N+1,last,o,w',t',by rw[runNT_succ_next h];exact h1,by rw[runN_succ_next h];exact h2,h3,h4⟩
def Ends.now {m:Machine}{o:Outcome}{w':ah}{ops:Trace}(h:stepT P m=(.ended o w',ops))(k:Go.Conc.Good P Post m o w' (t++ops)):Ends P Post m t:=⟨0,m,o,w',t++ops,by simp[runNT,h],rfl,by simp[Go.step,h],k⟩
def Ends.runs {N:Nat}{m m':Machine}{t':Trace}(h:runNT P N m t=(.next m',t'))(k:Ends P Post m' t'):Ends P Post m t:=by
 obtain⟨N',last,o,w',t'',h1,h2,h3,h4⟩:=k;refine⟨N+N',last,o,w',t'',?_,?_,h3,h4⟩
 ·rw[sZ,runNT_add,h];exact h1
 ·rw[runN_add,<-runNT_fst P _ _ t,h];exact h2
def xR.mono {lo B':Nat}(h:xR Shun B lo t)(hB:B<=B'):xR Shun B' lo t:=⟨h.clean,h.known,h.over,h.hears,λop hop x hx=>Loc.low_mono hB (h.seen op hop x hx),h.gs⟩
def xR.app0 {lo:Nat}(h:xR Shun B lo t)(LR:0<lo)(hu: ∀op∈u,op.g=0)(hs: ∀op∈u,∀x,op.act.touch? =ae x-> ¬ShL Shun x.loc)(hd:Deaf (t++u) 0=Deaf t 0)(hl: ∀op∈u,∀x,op.act.touch? =ae x->x.loc.low B):xR Shun B lo (t++u):=by
 refine⟨λsaid=>noRace_append (h.clean said) hu λi a ha op hop b hb hc=> ?_,λi a ha hm=> ?_,handedOver_app h.over λop hop=>.inl (hu op hop),hd.trans h.hears,λop hop x hx=>(o4.1 hop).elim (λy=>h.seen op y x hx) λy=>hl op y x hx,λi op hi=> ?_⟩
 ·rcases h.known i a ha hc.2.1 with hk|⟨hsa,hka⟩
  ·exact hk
  ·exact absurd (hc.1▸hsa) (hs op hop b hb)
 ·obtain⟨x,hx,Wx⟩:=touch_of ha;rcases getElem?_append_cases hx with⟨_,Pk⟩|⟨_,hxu⟩
  ·exact(h.known i a (by rw[touchAt_of Pk];exact Wx) hm).imp (·.app u) id
  ·have:=knows_own hx;rw[hu x hxu]at this;exact .inl this
 ·rcases getElem?_append_cases hi with⟨_,gK⟩|⟨_,Wn⟩
  ·exact h.gs i op gK
  ·rw[hu op Wn];exact LR
def xR.mute {lo g:Nat}(h:xR Shun B lo t)(hg:g≠0)(LR:g<lo)(hu: ∀op∈u,op.g=g)(hn: ∀op∈u,op.act.touch? =ai):xR Shun B lo (t++u):=by
 refine⟨λsaid=>noRace_append (h.clean said) hu λi a _ op hop b hb _=>(by rw[hn op hop]at hb;cases hb),λi a ha hm=> ?_,handedOver_app h.over λop hop=>.inr (hn op hop),(Deaf_other t hg u hu).trans h.hears,λop hop x hx=>(o4.1 hop).elim (λy=>h.seen op y x hx) λy=>(by rw[hn op y]at hx;cases hx),λi op hi=> ?_⟩
 ·obtain⟨x,hx,Wx⟩:=touch_of ha;rcases getElem?_append_cases hx with⟨_,Pk⟩|⟨_,hxu⟩
  ·exact(h.known i a (by rw[touchAt_of Pk];exact Wx) hm).imp (·.app u) id
  ·rw[hn x hxu]at Wx;cases Wx
 ·rcases getElem?_append_cases hi with⟨_,gK⟩|⟨_,Wn⟩
  ·exact h.gs i op gK
  ·rw[hu op Wn];exact LR
def Co.mono {B':Nat}(h:Co P Shun B gs q t)(hB:B<=B'):Co P Shun B' gs q t:=⟨h.old,h.past.mono hB,h.pos,λb hb=>cc (h.Vu b hb) hB⟩
def Co.own (h:Co P Shun B gs q t){B':Nat}(hB:B<=B'){a':au}(f:au->au)(hf: ∀o,o.status=.running\/o.status=.finished->f o=o)(hu: ∀op∈u,op.g=0)(hs: ∀op∈u,∀x,op.act.touch? =ae x-> ¬ShL Shun x.loc/\x.loc.low B')(hd:Deaf (t++u) 0=Deaf t 0):Co P Shun B' ((gs.map f).setIfInBounds 0 a') q (t++u):=by
 refine⟨λi x hi hx=> ?_,?_,by simp[h.pos],λb hb=>cc (h.Vu b hb) hB⟩
 ·rw[aK (by omega),gM]at hx;obtain⟨y,hy,rfl⟩:=aJ.1 hx;have hq:=h.old i y hi hy;rw[hf y hq.status,Deaf_other t (g':=0) (by omega) _ hu];exact hq
 ·have:=(h.past.mono hB).app0 h.pos hu (λop hop x hx=>(hs op hop x hx).1) hd (λop hop x hx=>(hs op hop x hx).2);simpa using this
def EvX (Shun:Nat->Prop)(B:Nat)(e:Event):Prop:=(e.loc≠ .mark .disable/\e.loc≠ .mark .enable)/\ ∀x,(cX e).touch? =ae x-> ¬ShL Shun x.loc/\x.loc.low B
def Co.SX (h:Co P Shun B gs q t){B':Nat}(hB:B<=B'){a':au}{es:Array Event}(ui: ∀e∈es,EvX Shun B' e)(fn:bK)(pos:String)(f:au->au)(hf: ∀o,o.status=.running\/o.status=.finished->f o=o):Co P Shun B' ((gs.map f).setIfInBounds 0 a') q (t++ca 0 fn pos es):=by refine h.own hB f hf (λop hop=>by obtain⟨e,_,rfl⟩:=bj hop;rfl) (λop hop x hx=>by obtain⟨e,he,rfl⟩:=bj hop;exact(ui e he).2 x hx) ?_;rw[Deaf_own];exact deafBehind_still (λe he=>(ui e he).1) _
def mm (ha:gs[0]? =ae a)(cT:a.status=.running)(h:Co P Shun B gs q t)(K: ∀(tA:Array au) (q':Nat->Nat) (t':Trace) (y6:Option (Nat×Nat)) (d:Nat),tA.size=gs.size->tA[0]? =ae a->Co P Shun B tA q' t'->(∃o fu ops,runT P (crowd tA (w.at d) y6) 0=(.ended o fu,ops)/\ ∀ag' adi,Go.Conc.Good P Post (crowd tA ag' adi) o fu (t'++ops))\/ ∃m' ops,runT P (crowd tA (w.at d) y6) 0=(.next m',ops)/\Ends P Post m' (t'++ops)):Ends P Post (crowd gs w sl) t:=by
 obtain⟨M,hM⟩: ∃M,sumTo gs.size q=M:=⟨_,rfl⟩
 induction M using mQ generalizing gs q t w sl with
 |_ M ih=>
  have haw: ∀g∈gs,awake g:=by
   intro g hg;obtain⟨i,hi,rfl⟩:=Array.mem_iff_getElem.1 hg;rcases lQ i with rfl|yz
   ·have:gs[0]=a:=by simpa[aX hi]using ha
    rw[this];exact awake_of (.inl cT)
   ·exact awake_of ((h.old i _ yz (aX hi)).status.elim .inl λx=>.inr (.inr x))
  obtain⟨i,g,d,y6,hi,hg,gI⟩:=crowd_pick (P:=P) (w:=w) (sl:=sl) haw ⟨0,a,ha,cT⟩;rcases lQ i with rfl|yz
  ·rcases K gs q t y6 d rfl ha h with⟨o,fu,ops,h1,h2⟩|⟨m',ops,h1,h2⟩
   ·exact .now (gI.trans h1) (h2 _ _)
   ·exact .step (gI.trans h1) h2
  ·have hq:=h.old i g yz hi;have qE:(i==0)=ay:=by simp;omega
   have bJ:i<gs.size:=(aI.1 hi).1;cases hqi:q i with
   |zero=>rw[hqi]at hq;rw[hq.1]at hg;cases hg
   |succ k=>
    rw[hqi]at hq;rcases hq with⟨hf,_⟩|⟨_,g',es,hm,aih,vm⟩
    ·rw[hf]at hg;cases hg
    have zL:=runT_crowd_go (P:=P) (sl:=y6) (i:=i) hi (by rw[qE];exact aih (w.at d));have Nn:sumTo gs.size (upd q i k)<sumTo gs.size q:=by have:=sumTo_upd q k id bJ;simp only[id,hqi]at this;change sumTo gs.size (upd q i k)+(k+1)=sumTo gs.size q+k at this;omega
    have iA: ∀op∈ca i g.frame.fn g.frame.place es,op.g=i/\op.act.touch? =ai:=λop hop=>by obtain⟨e,he,rfl⟩:=bj hop;exact⟨rfl,touch_mute (hm e he)⟩
    have hwk: ∀o:au,o.status=.running\/o.status=.finished->woken P g g' (w.at d) o=o:=λo ho=>by
     unfold Go.Conc.woken
     split
     ·exact again_running _ ho
     ·rfl
    have kJ:((gs.map (woken P g g' (w.at d))).setIfInBounds i g').size=gs.size:=by simp
    refine .step (gI.trans zL) (ih _ (by rw[<-hM];exact Nn) (gs:=(gs.map (woken P g g' (w.at d))).setIfInBounds i g') (q:=upd q i k) ?_ ?_ ?_ (by rw[kJ]))
    ·rw[aK (by omega),gM,ha,fS,hwk a (.inl cT)]
    ·refine⟨λj x hj hx=> ?_,?_,by rw[kJ];exact h.pos,h.Vu⟩
     ·by_cases Wp:i=j
      ·subst Wp;rw[aU (by simpa using bJ)]at hx;obtain rfl:=be hx;rw[upd_same,Deaf_own];exact vm
      ·rw[aK Wp,gM]at hx;obtain⟨y,hy,rfl⟩:=aJ.1 hx;have hqj:=h.old j y hj hy;rw[hwk y hqj.status,upd_ne q k (Ne.symm Wp),Deaf_other t Wp _ (λop hop=>(iA op hop).1)];exact hqj
     ·rw[kJ];exact h.past.mute (by omega) bJ (λop hop=>(iA op hop).1) λop hop=>(iA op hop).2
    ·intro tA q' t' aiq d' hs h0 hC;exact K tA q' t' aiq d' (hs.trans kJ) h0 hC
end
def DR (c:gj)(π:Ren)(fr:bp):Prop:=s9 (c.at fr.fn) π fr.tmps fr.tmps/\fr.kind=.normal/\fr.defers=[]/\fr.roundOf=ai
def DR.mono {P:aS}{c:gj}{π bQ:Ren}(e:Ext P π bQ){fr:bp}(h:DR c π fr):DR c bQ fr:=⟨h.1.mono e,h.2⟩
structure Pu (P:aS) (c:gj) (π:Ren) (Shun:Nat->Prop) (B:Nat) (gs:Array au) (q:Nat->Nat) (t:Trace) (g:au) (w:ah):Prop where
 sub:Sub π
 hp:cz P c.sig π w w
 Tp: ∀b,π b b-> ¬Shun b
 le:B<=w.heap.size
 co:Co P Shun B gs q t
 g0:gs[0]? =ae g
 old: ∀b,Shun b->c.old<=b
def CY (P:aS)(c:gj)(Post:ao->ah->Prop)(g:au)(w:ah):Prop:= ∀(tp:Tape) (d:Nat) (π:Ren) (gs:Array au) (sl:Option (Nat×Nat)) (q:Nat->Nat) (t:Trace) (Shun:Nat->Prop) (B:Nat),Pu P c π Shun B gs q t g w->(∀fr∈g.frame::g.callers,DR c π fr)->Ends P Post (crowd gs (dH w tp d) sl) t
section
variable {P:aS} {c:gj} {Post:ao->ah->Prop}
def cz.rt {S:jK}{π:Ren}{L R:ah}(h:cz P S π L R)(t t':Tape)(d d':Nat):cz P S π (dH L t d) (dH R t' d'):=⟨h.ok,h.obj,h.oE,h.uB,h.old⟩
def cz.ag8 {S:jK}{π:Ren}{L:ah}(h:cz P S π L L)(t:Tape)(d:Nat):cz P S π (dH L t d) (dH L t d):=⟨h.ok,h.obj,h.oE,h.uB,h.old⟩
def CY.rt {g:au}{w:ah}(h:CY P c Post g w)(tp:Tape)(d:Nat):CY P c Post g (dH w tp d):=by intro tp' d' π gs sl q t Shun B hh hf;exact h tp' d' π gs sl q t Shun B ⟨hh.sub,⟨hh.hp.ok,hh.hp.obj,hh.hp.oE,hh.hp.uB,hh.hp.old⟩,hh.Tp,hh.le,hh.co,hh.g0,hh.old⟩ hf
def acV {π:Ren}{Shun:Nat->Prop}{w:ah}(s:Sub π)(hw:cz P c.sig π w w)(hv: ∀b,π b b-> ¬Shun b)(ho: ∀b,Shun b->c.old<=b){e:Event}(h:DN c.sig π e):EvX Shun w.heap.size e:=by
 cases h with
 |cell wr hb=>obtain rfl:=s _ _ hb;refine⟨by simp,λx hx=> ?_⟩;rw[ofEvent_cell0]at hx;simp only[sU,dS]at hx;subst hx;exact⟨λ⟨b,e1,e2⟩=>by cases e1;exact hv _ hb e2,(hw.lt hb).2⟩
 |obj wr hb=>obtain rfl:=s _ _ hb;refine⟨by simp,λx hx=> ?_⟩;simp only[cX,sU,dS]at hx;subst hx;exact⟨λ⟨b,e1,e2⟩=>by cases e1;exact hv _ hb e2,(hw.lt hb).2⟩
 |room=>exact⟨by simp,λx hx=>by cases hx⟩
 |ext _=>exact⟨by simp,λx hx=>by cases hx⟩
 |old hm=>obtain⟨_,_,h1,_⟩:=hw.old _ _ hm;refine⟨by simp,λx hx=> ?_⟩;rw[ofEvent_cell0]at hx;simp only[sU,dS]at hx;subst hx;refine⟨λ⟨b,e1,e2⟩=> ?_,zi h1⟩;cases e1;have:=ho _ e2;have:=c.KL _ _ hm;omega
def RX (c:gj)(n:Nat)(e:Event):Prop:= ∃ad:Addr,e=⟨.cell ad,ay,ay⟩/\ad.block<c.old/\ad.block<n
def abQ {Shun:Nat->Prop}{w:ah}{n:Nat}(ho: ∀b,Shun b->c.old<=b)(hw:n<=w.heap.size){e:Event}(h:RX c n e):EvX Shun w.heap.size e:=by obtain⟨ad,rfl,bJ,hn⟩:=h;refine⟨by simp,λx hx=> ?_⟩;rw[ofEvent_cell0]at hx;simp only[sU,dS]at hx;subst hx;refine⟨λ⟨b,e1,e2⟩=> ?_,cc hn hw⟩;cases e1;have:=ho _ e2;omega
def Pu.step {π:Ren}{Shun:Nat->Prop}{B:Nat}{gs:Array au}{q:Nat->Nat}{t:Trace}{g:au}{w:ah}(h:Pu P c π Shun B gs q t g w)(hr:g.status=.running){g':au}{w':ah}{es:Array Event}{bQ:Ren}(e:Ext P π bQ)(s':Sub bQ)(jY:cz P c.sig bQ w' w')(hn: ∀b,bQ b b->π b b\/w.heap.size<=b)(kJ:w.heap.size<=w'.heap.size)(jJ: ∀e∈es,DN c.sig bQ e\/RX c w.heap.size e)(fn:bK)(pos:String)(f:au->au)(hf: ∀o,o.status=.running\/o.status=.finished->f o=o):Pu P c bQ Shun w'.heap.size ((gs.map f).setIfInBounds 0 g') q (t++ca 0 fn pos es) g' w':=by
 have hv: ∀b,bQ b b-> ¬Shun b:=λb hb hs=>by
  rcases hn b hb with h1|h1
  ·exact h.Tp b h1 hs
  ·have:=h.co.Vu b hs;have:=h.le;omega
 exact⟨s',jY,hv,ax _,h.co.SX (bM h.le kJ) (λe he=>(jJ e he).elim (acV s' jY hv h.old) (abQ h.old kJ)) fn pos f hf,by rw[aU (by simpa using h.co.pos)],h.old⟩
def vd (P:aS)(g g':au)(w:ah)(o:au)(ho:o.status=.running\/o.status=.finished):woken P g g' w o=o:=by
 unfold Go.Conc.woken
 split
 ·exact again_running _ ho
 ·rfl
def CY.step {g:au}{w:ah}(hr:g.status=.running)(gI: ∀(tp:Tape) (d:Nat) (π:Ren),Sub π->cz P c.sig π w w->(∀fr∈g.frame::g.callers,DR c π fr)-> ∃g' w' es bQ,stepG P aw g (dH w tp d)=.go g' w' es/\Ext P π bQ/\Sub bQ/\cz P c.sig bQ w' w'/\(∀b,bQ b b->π b b\/w.heap.size<=b)/\w.heap.size<=w'.heap.size/\(∀e∈es,DN c.sig bQ e\/RX c w.heap.size e)/\(∀fr∈g'.frame::g'.callers,DR c bQ fr)/\CY P c Post g' w'):CY P c Post g w:=by
 intro tp d π gs sl q t Shun B h hf;refine mm h.g0 hr h.co λtA q' t' y6 d' hs h0 hC=>.inr ?_
 obtain⟨g',w',es,bQ,hgo,e,s',jY,hn,kJ,jJ,hf',hk⟩:=gI tp d' π h.sub h.hp hf;have hh:Pu P c π Shun B tA q' t' g w:=⟨h.sub,h.hp,h.Tp,h.le,hC,h0,h.old⟩;exact⟨_,_,runT_crowd_go (P:=P) (sl:=y6) (i:=0) h0 hgo,hk w'.tape w'.drawn bQ _ y6 q' _ Shun _ (hh.step hr e s' jY hn kJ jJ _ _ _ (vd P g g' w')) hf'⟩
def CY.ctl {g g':au}{w:ah}(hr:g.status=.running)(gI: ∀w,stepG P aw g w=.go g' w #[])(hf: ∀π,cz P c.sig π w w->(∀fr∈g.frame::g.callers,DR c π fr)-> ∀fr∈g'.frame::g'.callers,DR c π fr)(k:CY P c Post g' w):CY P c Post g w:=.step hr λtp d π s hw hv=>⟨g',dH w tp d,#[],π,gI _,Ext.refl hw.ok,s,hw.rt _ _ _ _,λ_ h=>.inl h,ax _,by simp,hf π hw hv,k.rt tp d⟩
def R8 {dc:gj}(hc:dc.Fits P)(YO:dc.sig=c.sig){k kR:List Item}{H:au->ah->Prop}{cs:List bp}(K: ∀(gL g':au) (w':ah) (bQ:Ren),H gL w'->GR dc k kR [fN] cs bQ gL g'->Sub bQ->cz P c.sig bQ w' w'->(∀fr∈cs,DR c bQ fr)->CY P c Post g' w'/\ ∀fr∈g'.frame::g'.callers,DR c bQ fr): ∀{gL:au} {w:ah},LT P k H gL w-> ∀(g:au) (tp:Tape) (d:Nat) (π:Ren) (gs:Array au) (sl:Option (Nat×Nat)) (q:Nat->Nat) (t:Trace) (Shun:Nat->Prop) (B:Nat),Pu P c π Shun B gs q t g w->GR dc k kR [fN] cs π gL g->(∀fr∈cs,DR c π fr)->Ends P Post (crowd gs (dH w tp d) sl) t:=by
 intro gL w bJ
 induction bJ with
 |stop hH=>intro g tp d π gs sl q t Shun B h hg hv;obtain⟨h1,h2⟩:=K _ _ _ _ hH hg h.sub h.hp hv;exact h1 tp d π gs sl q t Shun B h h2
 |step gsL Tt esL hs gI mW ih=>
  rename_i gL w
  intro g tp d π gs sl q t Shun B h hg hv;have cT:g.status=.running:=by rw[hg.r]
  refine mm h.g0 cT h.co λtA q' t' y6 d' kJ h0 hC=>.inr ?_
  have hwR:cz P c.sig π w ((dH w tp d).at d'):=h.hp.rt w.tape tp w.drawn d';rw[<-YO]at hwR;obtain⟨gR,R2,ev,bQ,hgo,e,lN,jY,hd,jJ⟩:=OG hc hs gI hwR hg aw;rw[YO]at jY;have s':=h.sub.did hd rfl;have acZ:=BA h.sub (L:=w) (R:=(dH w tp d).at d') rfl jY hd;have hR2:R2=dH (Tt tp d') R2.tape R2.drawn:=by have h2:=hd.os;have h3:=hd.output;have h4:=hd.osL;have h5:=hd.xB;have e4:(Tt tp d').os=w.os:=h4;have e5:(Tt tp d').output=w.output:=h5;have e2:R2.os=w.os:=h2;have e3:R2.output=w.output:=h3;have e1:R2.heap=(Tt tp d').heap:=acZ;obtain⟨hp,tp1,dr,os,out⟩:=R2;simp only[dH];simp only at e1 e2 e3;rw[e1,e2,e3,<-e4,<-e5]
  have Qj:cz P c.sig bQ (Tt tp d') (Tt tp d'):=⟨jY.ok,λl r x=>by have:=jY.obj l r x;rw[acZ]at this;exact this,jY.oE,jY.oE,λa x hx=>by obtain⟨g1,g2,g3,_⟩:=jY.old a x hx;exact⟨g1,g2,g3,g3⟩⟩;have hh:Pu P c π Shun B tA q' t' g w:=⟨h.sub,h.hp,h.Tp,h.le,hC,h0,h.old⟩;refine⟨_,_,runT_crowd_go (P:=P) (sl:=y6) (i:=0) h0 hgo,?_⟩;have Qb: ∀b,bQ b b->π b b\/w.heap.size<=b:=λb hb=>(hd.new b b hb).imp id λx=>x.1
  have hh':=hh.step (g':=gR) (w':=Tt tp d') cT e s' Qj Qb hd.Fw (λe he=>.inl (by rw[<-YO];exact jJ e he)) g.frame.fn g.frame.place _ (vd P g gR R2);rw[hR2];exact ih tp d' gR R2.tape R2.drawn bQ _ y6 q' _ Shun _ (by rw[<-hR2];exact hh') lN λfr oi=>(hv fr oi).mono e
end
end Rel
namespace Rel
open Go.Conc
def DG (P:aS)(c:gj)(Post:ao->ah->Prop)(b:bp)(k:List Item)(cs:List bp):Exit->Act->ah->Prop
 | .normal,a,w=>CY P c Post (G (b.at a k) cs) w
 | .exit id,a,w=> ∃k',exitTo id k=ae k'/\CY P c Post (G (b.at a k') cs) w
 | .ret,a,w=> ∀todo,CY P c Post (G {b.at a todo with mode:=.returning} cs) w
 |_,_,_=>False
section
variable {P:aS} {c:gj} {Post:ao->ah->Prop}
def DG.push {b:bp}{x:Item}{k:List Item}{cs:List bp}{e:Exit}{a:Act}{w:ah}(hx:x.plain=aw)(he:e≠ .normal)(h:DG P c Post b k cs e a w):DG P c Post b (x::k) cs e a w:=by
 cases e with
 |normal=>exact absurd rfl he
 |exit id=>obtain⟨k',hk,hg⟩:=h;exact⟨k',by cases x<;>simp_all[exitTo,Item.plain],hg⟩
 |ret=>exact h
 |goto l=>exact h
 |panic ch=>exact h
 |outgrown=>exact h
end
def eT (P:aS)(c:gj)(Post:ao->ah->Prop)(fn:bK)(x:Code)(Q:Exit->Act->ah->Prop)(a:Act)(w:ah):Prop:= ∀(b:bp) (k:List Item) (cs:List bp),b.fn=fn->b.kind=.normal->pg k=aw->(∀e a' w',Q e a' w'->DG P c Post b k cs e a' w')->CY P c Post (G (b.at a (.code x::k)) cs) w
def qQ (P:aS)(c:gj)(Post:ao->ah->Prop)(fn:bK)(ops:Array Oper)(l:List Nat)(Q:Exit->Act->ah->Prop)(a:Act)(w:ah):Prop:= ∀(b:bp) (k:List Item) (cs:List bp),b.fn=fn->b.kind=.normal->pg k=aw->(∀e a' w',Q e a' w'->DG P c Post b k cs e a' w')->CY P c Post (G (b.at a (.inRegion ops l::k)) cs) w
section
variable {P:aS} {c:gj} {Post:ao->ah->Prop} {fn:bK} {Q Q':Exit->Act->ah->Prop} {a:Act} {w:ah}
def X3 {π:Ren}{b:bp}{x y:List Item}{cs:List bp}(h: ∀fr∈(b.at a x)::cs,DR c π fr): ∀fr∈(b.at a y)::cs,DR c π fr:=by
 intro fr oi;rcases cj.1 oi with rfl|h'
 ·exact h (b.at a x) (by simp)
 ·exact h fr (by simp[h'])
def CY.move {b:bp}{x y:List Item}{cs:List bp}(gI: ∀w,stepG P aw (G (b.at a x) cs) w=.go (G (b.at a y) cs) w #[])(k:CY P c Post (G (b.at a y) cs) w):CY P c Post (G (b.at a x) cs) w:=.ctl rfl gI (λ_ _ h=>X3 h) k
def yu {x:Code}(h:eT P c Post fn x Q a w)(hq: ∀e a w,Q e a w->Q' e a w):eT P c Post fn x Q' a w:=λb k cs hb hk hp hc=>h b k cs hb hk hp λe a' w' q=>hc e a' w' (hq e a' w' q)
def oG (h:Q .normal a w):eT P c Post fn .skip Q a w:=λ_ _ _ _ _ _ hc=>.move (λ_=>stepG_skip) (hc _ _ _ h)
def qC (h:Q .ret a w):eT P c Post fn .ret Q a w:=λb k cs _ _ _ hc=>
 .ctl rfl (λ_=>stepG_ret') (λ_ _ hv fr oi=>by
  rcases cj.1 oi with rfl|h'
  ·exact hv (b.at a (.code .ret::k)) (by simp[G])
  ·exact hv fr (by simp[G]at h'|-;exact .inr h')) (hc _ _ _ h _)
def PQ {id:Nat}(h:Q (.exit id) a w):eT P c Post fn (.exit id) Q a w:=λb k cs _ _ _ hc=>by obtain⟨k',Cg,hg⟩:=hc _ _ _ h;exact .move (λ_=>stepG_exit Cg) hg
def cB {x y:Code}(h:eT P c Post fn x (Exit.then (λa' w'=>eT P c Post fn y Q a' w') Q) a w):eT P c Post fn (.seq x y) Q a w:=by
 intro b k cs hb hk hp hc;refine .move (λ_=>stepG_seq) (h b (.code y::k) cs hb hk rfl λe a' w' q=> ?_);cases e with
 |normal=>exact q b k cs hb hk hp hc
 |exit id=>exact(hc _ _ _ q).push rfl (by simp)
 |ret=>exact(hc _ _ _ q).push (x:=.code y) rfl (by simp)
 |goto l=>exact hc _ _ _ q
 |panic ch=>exact hc _ _ _ q
 |outgrown=>exact hc _ _ _ q
def iK {o:cG}{x y:Code}{t:Bool}(hc:a.eval o=.bool t)(h:eT P c Post fn (if t then x else y) Q a w):eT P c Post fn (.cond o x y) Q a w:=λb k cs hb hk hp hq=>.move (λ_=>stepG_cond hc) (h b k cs hb hk hp hq)
def Ca {id:Nat}{x:Code}(h:eT P c Post fn x (Exit.inBlock id Q) a w):eT P c Post fn (.block id x) Q a w:=by
 intro b k cs hb hk hp hc;refine .move (λ_=>stepG_block) (h b (.inBlock id::k) cs hb hk rfl λe a' w' q=> ?_);cases e with
 |normal=>exact .move (λ_=>stepG_inBlock) (hc _ _ _ q)
 |exit id'=>
  by_cases hid:id'=id
  ·simp only[Exit.inBlock,hid,if_true]at q;exact⟨k,by simp[exitTo,hid],hc _ _ _ q⟩
  ·simp only[Exit.inBlock,hid,if_false]at q;obtain⟨k',Cg,hg⟩:=hc _ _ _ q;have:(id==id')=ay:=by simp;exact λh=>hid h.symm
   exact⟨k',by simp[exitTo,this,Cg],hg⟩
 |ret=>exact λtodo=>hc _ _ _ q todo
 |goto l=>exact hc _ _ _ q
 |panic ch=>exact hc _ _ _ q
 |outgrown=>exact hc _ _ _ q
def PR {x:Code}(I:Nat->Act->ah->Prop)(n:Nat)(h0:I n a w)(round: ∀n a w,I n a w->eT P c Post fn x (Exit.then (λa' w'=> ∃n',n'<n/\I n' a' w') Q) a w):eT P c Post fn (.loop x) Q a w:=by
 intro b k cs hb hk hp hc;have key: ∀n a w,I n a w->CY P c Post (G (b.at a (.code x::.inLoop x::k)) cs) w:=by
  intro n
  induction n using mQ with
  |_ n ih=>
   intro a w hI;refine round n a w hI b (.inLoop x::k) cs hb hk rfl λe a' w' q=> ?_
   cases e with
   |normal=>obtain⟨n',bJ,hI'⟩:=q;exact .move (λ_=>stepG_inLoop) (ih n' bJ a' w' hI')
   |exit id=>exact(hc _ _ _ q).push rfl (by simp)
   |ret=>exact(hc _ _ _ q).push (x:=.inLoop x) rfl (by simp)
   |goto l=>exact hc _ _ _ q
   |panic ch=>exact hc _ _ _ q
   |outgrown=>exact hc _ _ _ q
 exact .move (λ_=>stepG_loop) (key n a w h0)
def Ka {id:Nat}{ops:Array Oper}(h:qQ P c Post fn ops (bP ops.size) Q a w):eT P c Post fn (.region id ops ay) Q a w:=λb k cs hb hk hp hc=>.move (λ_=>stepG_region) (h b k cs hb hk hp hc)
def bE {P:aS}{c:gj}{Post:ao->ah->Prop}{fn:bK}{Q:Exit->Act->ah->Prop}{a:Act}{w:ah}{id:Nat}{ops:Array Oper}{l:List Nat}(h:qQ P c Post fn ops l Q a w)(hl:bP ops.size=l:=by simp only[aV,aD,aP,Nat.reduceAdd,bS,bP,cu];rfl):eT P c Post fn (.region id ops ay) Q a w:=by subst hl;exact Ka h
def dz {ops:Array Oper}(h:Q .normal a w):qQ P c Post fn ops [] Q a w:=λ_ _ _ _ _ _ hc=>.move (λ_=>stepG_region_end) (hc _ _ _ h)
def aak {c:gj}{π:Ren}(h:s9 c π a.tmps a.tmps){v:ao}(d:Option Tmp)(hv:bx c.sig π v v\/ ∃t,d=ae t/\t∈c.bad/\mH c (c.kc t) v):s9 c π (a.put d v).tmps (a.put d v).tmps:=by
 unfold Act.put;cases d with
 |none=>exact h
 |some d=>
  rcases hv with hv|⟨t,e,ht,hk⟩
  ·exact h.set hv
  ·cases e;exact h.put (.inr ⟨ht,rfl,hk⟩)
def put_defers (a:Act)(d:Option Tmp)(v:ao):(a.put d v).defers=a.defers:=by unfold Act.put;cases d<;>rfl
def zD {π:Ren}{b:bp}{x y:List Item}{cs:List bp}(h: ∀fr∈(b.at a x)::cs,DR c π fr){v:ao}(d:Option Tmp)(hv:bx c.sig π v v\/ ∃t,d=ae t/\t∈c.bd b.fn/\mH c (c.kd b.fn t) v): ∀fr∈(b.at (a.put d v) y)::cs,DR c π fr:=by
 intro fr oi;rcases cj.1 oi with rfl|h'
 ·have h1:=h (b.at a x) (by simp);exact⟨aak h1.1 d hv,h1.2.1,by show(a.put d v).defers=[];rw[put_defers];exact h1.2.2.1,rfl⟩
 ·exact h fr (by simp[h'])
def Jk {ops:Array Oper}{i:Nat}{rest:List Nat}{o:Oper}(ho:ops[i]? =ae o)(hw:bu o (yielded ops a.tmps)=ay)(h:qQ P c Post fn ops rest Q (a.put o.dst undef) w):qQ P c Post fn ops (i::rest) Q a w:=λb k cs hb hk hp hc=>.ctl rfl (λ_=>stepG_unwanted ho hw) (λπ _ hv=>zD hv _ (.inl (.tuple rfl (by simp)))) (h b k cs hb hk hp hc)
def zx {π:Ren}(h:s9 c π a.tmps a.tmps):EvB c π a.eval a.eval:=⟨λ_=>⟨rfl,rfl⟩,λt _=>h.afR t⟩
def uE {π:Ren}(h:s9 c π a.tmps a.tmps):nP c π a.eval a.eval:=by
 intro o ho;cases o with
 |tmp t=>
  have ho:c.bad.contains t=ay:=by simpa[eC]using ho
  exact h.getD (by simpa using ho)
 |const v=>exact xm 4 v ho π
 |global g=>cases ho
 |func f=>exact .func (.func ho) rfl (by simp) rfl (by simp)
def fQ (hc:c.Fits P){ops:Array Oper}{i:Nat}{rest:List Nat}{o:Oper}(ho:ops[i]? =ae o)(hw:bu o (yielded ops a.tmps)=aw)(rY:kp (c.at fn) o=aw){v:ao}{w':ah}(htp:w'.tape=w.tape/\w'.drawn=w.drawn)(hr: ∀tp d,(execOp a.eval o).run P (dH w tp d)=.ok (.value v) (dH w' tp d))(h:qQ P c Post fn ops rest Q (a.put o.dst v) w'):qQ P c Post fn ops (i::rest) Q a w:=by
 intro b k cs hb hk hp hq;refine .step rfl λtp d π s hw0 hv=> ?_
 have ht:=(hv (b.at a (.inRegion ops (i::rest)::k)) (by simp[G])).1;have Nk:cz P c.sig π (dH w tp d) (dH w tp d):=hw0.ag8 tp d;rw[show(b.at a (.inRegion ops (i::rest)::k)).fn=fn from hb]at ht;have cT:=(ZF (hc.at fn) hw0.ok (uE (c:=c.at fn) ht) (zx (c:=c.at fn) ht) o rY).run Nk #[] #[];have LU:(execOp a.eval o).runT P (dH w tp d) #[]=(.ok (.value v) (dH w' tp d),(execOp a.eval o).events P (dH w tp d) #[]):=by rw[Sem.runT_eq,hr]
 rw[LU]at cT;obtain⟨_,_,h3⟩:=cT;obtain⟨bQ,v',R',ev,e,hR,vm,jY,hd,_,jJ⟩:=h3 λ_ _ _=>rfl
 rw[LU,kU]at hR;simp only[Prod.mk.injEq,Result.ok.injEq]at hR;obtain⟨⟨h1,h2⟩,h3⟩:=hR;subst h1;subst h2;have s':=s.did hd rfl;have hvv:bx c.sig bQ v v\/ ∃t,o.dst=ae t/\t∈c.bd b.fn/\mH c (c.kd b.fn t) v:=by
  rcases vm with vm|⟨v2,d2,e1,_,e3,e4,e5⟩
  ·cases vm with
   |value hvv=>exact .inl hvv
  ·cases e1;exact .inr ⟨d2,e3,by rw[hb];exact e4,by rw[hb];exact e5⟩
 refine⟨_,_,_,bQ,stepG_value ho hw (by rw[hk];decide) (hr tp d),e,s',jY,λb hb=>(hd.new b b hb).imp id λx=>x.1,hd.size,λx hx=>.inl (jJ x ?_),zD (λfr oi=>(hv fr oi).mono e) _ hvv,(h b k cs hb hk hp hq).rt tp d⟩;rw[<-h3];exact kD _ _ x hx
def Zn {ops:Array Oper}{i:Nat}{rest:List Nat}{o:Oper}(ho:ops[i]? =ae o)(hw:bu o (yielded ops a.tmps)=aw){v:ao}(hr: ∀tp d,(execOp a.eval o).run P (dH w tp d)=.ok (.value v) (dH w tp d))(jJ: ∀tp d,∀e∈(execOp a.eval o).events P (dH w tp d) #[],RX c w.heap.size e)(hv:(∀π,s9 (c.at fn) π a.tmps a.tmps->bx c.sig π v v)\/ ∃t,o.dst=ae t/\t∈c.bd fn/\mH c (c.kd fn t) v)(h:qQ P c Post fn ops rest Q (a.put o.dst v) w):qQ P c Post fn ops (i::rest) Q a w:=by
 intro b k cs hb hk hp hq;refine .step rfl λtp d π s hw0 hf=>⟨_,_,_,π,stepG_value ho hw (by rw[hk];decide) (hr tp d),Ext.refl hw0.ok,s,hw0.rt _ _ _ _,λ_ h=>.inl h,ax _,λe he=>.inr (jJ tp d e (kD _ _ e he)),?_,(h b k cs hb hk hp hq).rt tp d⟩
 have ht:=(hf (b.at a (.inRegion ops (i::rest)::k)) (by simp[G])).1;rw[show(b.at a (.inRegion ops (i::rest)::k)).fn=fn from hb]at ht;exact zD hf _ (hv.imp (λh=>h π ht) λh=>by rw[hb];exact h)
def MW {x y:bp}(h1:x.fn=y.fn)(h2:x.tmps=y.tmps)(h3:x.todo=y.todo)(h4:x.defers=y.defers)(h5:x.mode=y.mode)(h6:x.kind=y.kind)(h7:x.roundOf=y.roundOf):x=y:=by
 obtain⟨_,_,_,_,_,_,_⟩:=x;obtain⟨_,_,_,_,_,_,_⟩:=y;simp only at h1 h2 h3 h4 h5 h6 h7;subst h1;subst h2;subst h3;subst h4;subst h5;subst h6;subst h7
 rfl
def Cb (hc:c.Fits P){x:Code}(hx:dq (c.at fn) x=aw)(hQ: ∀e a w,Q e a w->(e=.normal\/e=.ret)/\a.defers=[])(LU: ∀e a w tp d,Q e a (dH w tp d)->Q e a w)(h: ∀tp d,x.wp P Q a (dH w tp d)):eT P c Post fn x Q a w:=by
 intro b k cs hb hk hp hq tp d π gs sl q t Shun B hh hf;have oi:=hf (b.at a (.code x::k)) (by simp[G]);have abn:=oi.1;rw[show(b.at a (.code x::k)).fn=fn from hb]at abn;have hT:=Ia (c:=c.at fn) (its:=[.code x]) (Q:=Q) (hc.at fn) hk hh.sub hh.hp abn oi.2.2.1 (.cons (.code hx) .nil) (λe a w h=>(hQ e a w h).1) λt=>h t 0 b [sent] [fN]
 refine R8 (c:=c) (dc:=c.at fn) (k:=[sent]) (kR:=k) (cs:=cs) (hc.at fn) rfl ?_ hT _ tp d π gs sl q t Shun B hh ⟨rfl,rfl,.one (Eh hk abn oi.2.2.1 (.cons (.code hx) .nil) (Nz hp)) rfl⟩ λfr oi=>hf fr (by simp[G];exact .inr oi)
 intro gL g' w' bQ hH hg s' jY hv;obtain⟨h1,a',t',d',af3⟩:=hH;obtain⟨e1,e2,gI⟩:=hg;have Ul:sV (c.at fn) [sent] k bQ gL.frame g'.frame/\g'.callers=cs:=by
  have ahT:gL.callers=[fN]:=h1;rw[ahT]at gI;generalize hL:gL.frame::[fN]=l at gI;generalize hR:g'.frame::g'.callers=m at gI;cases gI with
  |one Ul _=>cases hL;cases hR;exact⟨Ul,rfl⟩
  |cons _ Ul hr=>cases hL;have:=hr.lt;simp at this
 obtain⟨hF,tC⟩:=Ul;have zG:=hF;obtain⟨f1,f2,f3,f4,f5,f6,f7,f8,f9,_,_⟩:=zG;rcases af3 with⟨hfe,vm⟩|⟨todo,hfe,vm⟩
 ·have vm:=LU _ _ _ _ _ vm;have hda:=(hQ _ _ _ vm).2;rw[hfe]at f1 f2 f3 f4 f5 f7 f9;have et:g'.frame.todo=k:=by
   have:L9 (c.at fn) [sent] k bQ [sent] g'.frame.todo:=f3;generalize g'.frame.todo=y at this;generalize hx:[sent]=x at this;cases this with
   |nil=>rfl
   |cons hi hr=>cases hx;cases hi;rename_i Er;cases Er
  have eg:g'=G (b.at a' k) cs:=by
   rw[e2,tC];show jW g'.frame cs=_;congr 1;have ed:g'.frame.defers=[]:=by have f4:du (nh bQ) a'.defers g'.frame.defers:=f4;rw[hda]at f4;generalize g'.frame.defers=y at f4;cases f4;rfl
   have er:g'.frame.roundOf=ai:=by have f9:gN bQ ai g'.frame.roundOf:=f9;generalize g'.frame.roundOf=y at f9;cases f9;rfl
   have em:a'.tmps=g'.frame.tmps:=s9.eq s' f2;exact MW f1 em.symm et (ed.trans hda.symm) f5 (f8.trans hk.symm) er
  rw[eg];refine⟨hq _ _ _ vm,λfr oi=> ?_⟩;rcases cj.1 oi with rfl|h'
  ·exact⟨by have em:a'.tmps=g'.frame.tmps:=s9.eq s' f2;have f2:s9 (c.at fn) bQ a'.tmps g'.frame.tmps:=f2;rw[<-em]at f2;rw[<-hb]at f2;exact f2,hk,hda,rfl⟩
  ·exact hv fr h'
 ·have vm:=LU _ _ _ _ _ vm;have hda:=(hQ _ _ _ vm).2;rw[hfe]at f1 f2 f3 f4 f5 f7 f9;have eg:g'=G {b.at a' g'.frame.todo with mode:=.returning} cs:=by
   rw[e2,tC];show jW g'.frame cs=_;congr 1;have ed:g'.frame.defers=[]:=by have f4:du (nh bQ) a'.defers g'.frame.defers:=f4;rw[hda]at f4;generalize g'.frame.defers=y at f4;cases f4;rfl
   have er:g'.frame.roundOf=ai:=by have f9:gN bQ ai g'.frame.roundOf:=f9;generalize g'.frame.roundOf=y at f9;cases f9;rfl
   have em:a'.tmps=g'.frame.tmps:=s9.eq s' f2;exact MW f1 em.symm rfl (ed.trans hda.symm) f5 (f8.trans hk.symm) er
  rw[eg];refine⟨hq _ _ _ vm _,λfr oi=> ?_⟩;rcases cj.1 oi with rfl|h'
  ·exact⟨by have em:a'.tmps=g'.frame.tmps:=s9.eq s' f2;have f2:s9 (c.at fn) bQ a'.tmps g'.frame.tmps:=f2;rw[<-em]at f2;rw[<-hb]at f2;exact f2,hk,hda,rfl⟩
  ·exact hv fr h'
end
section
variable {P:aS} {c:gj} {Post:ao->ah->Prop} {fn:bK} {Q:Exit->Act->ah->Prop} {a:Act} {w:ah}
def z8 {π:Ren}(s:Sub π){w:ah}(hw:cz P c.sig π w w){F:Func}(hF:F.results.toList.all (sn c.bad)=aw){tmps:Array ao}(ht:s9 c π tmps tmps){v:ao}{t':Tape}{d':Nat}(hr:(results F tmps).run P (dH w t' d')=.ok v (dH w t' d'))(tp:Tape)(d:Nat): ∃bQ ev,(results F tmps).runT P (dH w tp d) #[]=(.ok v (dH w tp d),ev)/\Ext P π bQ/\Sub bQ/\cz P c.sig bQ w w/\(∀b,bQ b b->π b b)/\bx c.sig bQ v v/\ ∀e∈ev,DN c.sig bQ e:=by
 have cT:=(yJ hw.ok F hF ht).run (hw.rt t' tp d' d) #[] #[];have LU:(results F tmps).runT P (dH w t' d') #[]=(.ok v (dH w t' d'),(results F tmps).events P (dH w t' d') #[]):=by rw[Sem.runT_eq,hr]
 rw[LU]at cT;obtain⟨_,_,h3⟩:=cT;obtain⟨bQ,v',R',ev,e,hR,hv,jY,hd,Yn,jJ⟩:=h3 λi q hi=>by omega
 have s':=s.did hd rfl;have hvv:v=v':=hv.eq s';subst hvv;have hh:R'.heap=w.heap:=BA s (L:=dH w t' d') (R:=dH w tp d) (L':=dH w t' d') rfl jY hd;have M1:R'=dH w tp d:=by
  have h1:R'.tape=tp:=hd.tape;have h2:R'.os=w.os:=hd.os;have h4:R'.output=w.output:=hd.output;have h5:R'.drawn=d:=by change R'.drawn+d'=d+d' at Yn;omega
  clear hd jY hR h3 LU hr;obtain⟨hp,tp',dr,os,out⟩:=R';simp only at hh h1 h2 h4 h5;subst hh;subst h1;subst h2;subst h4;subst h5
  rfl
 subst M1;rw[kU]at hR;exact⟨bQ,ev,hR,e,s',⟨jY.ok,jY.obj,jY.oE,jY.uB,jY.old⟩,λb hb=>(hd.new b b hb).elim id λx=>by have hl:=(jY.lt hb).1;have h1:w.heap.size<=b:=x.1;have h2:b<w.heap.size:=hl;omega,hv,jJ⟩
def MC {fr x:bp}{cs:List bp}{v:ao}{t':Tape}{d':Nat}(tE: ∀F,P.funcs[fr.fn]? =ae F->F.results.toList.all (sn (c.bd fr.fn))=aw)(hl:fr.leaving P (dH w t' d') (.returned v))(r9: ∀π,DR c π x->bx c.sig π v v->DR c π (x.finish v))(k:CY P c Post (G (x.finish v) cs) w):CY P c Post (G fr (x::cs)) w:=by
 obtain⟨hm,hd,hk,F,hF,hr⟩:=hl;refine .step rfl λtp d π s hw hv=> ?_
 have ht:=(hv fr (by simp[G])).1;obtain⟨bQ,ev,hR,e,s',jY,hn,hvv,jJ⟩:=z8 (c:=c.at fr.fn) s hw (tE F hF) ht hr tp d;have hs:stepG P aw (jW fr (x::cs)) (dH w tp d)=.go (jW (x.finish v) cs) (dH w tp d) (seen P fr.fn ev++ #[]):=by
  rw[iY aw fr _ _ (by rw[hm];simp),oO aw fr _ _ hd hm,hF];simp only[phase,hR];have:doReturn P aw fr (x::cs) ai v (dH w tp d)=.go (jW (x.finish v) cs) (dH w tp d):=by unfold doReturn;simp only[hk]
  rw[this]
  rfl
 refine⟨_,_,_,bQ,hs,e,s',jY.rt _ _ _ _,λb hb=>.inl (hn b hb),ax _,λx hx=>.inl (jJ x ?_),?_,k.rt tp d⟩
 ·rw[Array.append_empty]at hx;exact kD _ _ x hx
 ·intro f hf;rcases cj.1 hf with rfl|h'
  ·exact r9 bQ ((hv x (by simp[G])).mono e) hvv
  ·exact(hv f (by simp[G];exact .inr (.inr h'))).mono e
def Ee {b:bp}{ops:Array Oper}{i:Nat}{rest:List Nat}{k:List Item}{v:ao}(π:Ren)(h:DR c π (b.at a (.inRegion ops (i::rest)::k)))(hv:bx c.sig π v v):DR c π ((b.at a (.inRegion ops (i::rest)::k)).finish v):=by rw[nL];exact⟨aak h.1 _ (.inl hv),h.2.1,by show(a.put _ v).defers=[];rw[put_defers];exact h.2.2.1,rfl⟩
def MA {b:bp}{k:List Item}{cs:List bp}{ops:Array Oper}{i:Nat}{rest:List Nat}{o:Oper}{f:bK}{args:Array cG}{uz:Array aA}{F:Func}{x:Code}(ho:ops[i]? =ae o)(hw:bu o (yielded ops a.tmps)=aw)(hb:b.kind=.normal)(hop:o.op=.call {callee:=.value (.func f),args,argTypes:=uz})(hF:P.funcs[f]? =ae F)(iC:(F.name== "runtime.NumGoroutine")=ay)(hx:F.body=ae x)(pZ: ∀j u,args[j]? =ae u->vp (c.at b.fn) f j u=aw\/(j∈c.bd f/\mH c (c.kd f j) (a.eval u)))(h:CY P c Post (G (fG P f (args.map a.eval) .normal) (b.at a (.inRegion ops (i::rest)::k)::cs)) w):CY P c Post (G (b.at a (.inRegion ops (i::rest)::k)) cs) w:=by
 have jP:F.body.isNone=ay:=by rw[hx];rfl
 refine .ctl rfl (λw=> ?_) (λπ hw0 hv fr oi=> ?_) h
 ·rw[stepG_enter ho hw (by rw[hb];decide) (run_call_body hop hF iC jP)];congr 1;unfold listed;rw[events_call_body hop hF iC jP];exact seen_none P _
 ·have ht:=(hv (b.at a (.inRegion ops (i::rest)::k)) (by simp[G])).1;rcases cj.1 oi with rfl|h'
  ·refine⟨?_,rfl,rfl,rfl⟩;rw[show(G (fG P f (args.map a.eval) .normal) (b.at a (.inRegion ops (i::rest)::k)::cs)).frame=fG P f (args.map a.eval) .normal from rfl,enter_at _ hF hx];refine⟨rfl,λj u v hu hv=> ?_⟩;have No:(args.map a.eval++eG (F.ntmps-(args.map a.eval).size) undef)[j]? =ae u:=hu;have Cj:(args.map a.eval++eG (F.ntmps-(args.map a.eval).size) undef)[j]? =ae v:=hv;rw[No]at Cj;obtain rfl:=be Cj;rw[Array.getElem?_append]at No
   split at No
   ·rw[gM]at No;obtain⟨o',Wt,rfl⟩:=aJ.1 No;rcases pZ j o' Wt with h1|h1
    ·exact EvB.arg (uE (c:=c.at b.fn) ht) (zx (c:=c.at b.fn) ht) h1
    ·exact .inr ⟨h1.1,rfl,h1.2⟩
   ·rw[Array.getElem?_replicate]at No
    split at No
    ·cases No;exact .inl (.tuple rfl (by simp))
    ·cases No
  ·exact hv fr h'
def Fz {kL kR:List Item}{π:Ren}{x y:bp}{bot bot' m:List bp}(h:ur c kL kR bot bot' π (x::bot) (y::m)):sV c kL kR π x y/\m=bot'/\x.roundOf=ai:=by
 generalize hL:x::bot=l at h;generalize hR:y::m=r at h;cases h with
 |one oi AZ=>cases hL;cases hR;exact⟨oi,rfl,AZ⟩
 |cons _ oi hr=>cases hL;have:=hr.lt;simp at this
def xA (hc:c.Fits P){ops:Array Oper}{i:Nat}{rest:List Nat}{o:Oper}{f:bK}{args:Array cG}{uz:Array aA}{R:Ending->ah->Prop}(ho:ops[i]? =ae o)(hw:bu o (yielded ops a.tmps)=aw)(hop:o.op=.call {callee:=.value (.func f),args,argTypes:=uz})(hf:c.fn f=aw)(pZ:lF (c.at fn) f 0 args.toList=aw)(wm: ∀tp d,Calls P f (args.map a.eval) (dH w tp d) R)(hR: ∀e w,R e w-> ∃v,e=.returned v)(LU: ∀v w tp d,R (.returned v) (dH w tp d)->R (.returned v) w)(si: ∀v w',R (.returned v) w'->qQ P c Post fn ops rest Q (a.put o.dst v) w'):qQ P c Post fn ops (i::rest) Q a w:=by
 intro b k cs hb hk hp hq;obtain⟨F,x,hF,hx,_,iC,tE⟩:=hc.fn f hf;have ad4: ∀(l:List cG) (j0:Nat),lF (c.at fn) f j0 l=aw-> ∀(j:Nat) u,l[j]? =ae u->vp (c.at fn) f (j0+j) u=aw:=by
  intro l
  induction l with
  |nil=>intro _ _ j u hj;simp at hj
  |cons x l ih=>
   intro j0 h j u hj;simp only[lF,aG]at h;cases j with
   |zero=>simp only[List.getElem?_cons_zero,dS]at hj;subst hj;exact h.1
   |succ j=>have:=ih (j0+1) h.2 j u (by simpa using hj);rwa[show j0+1+j=j0+(j+1)by omega]at this
 refine MA ho hw hk hop hF (by simpa using iC) hx (λj u hj=>.inl (by rw[hb];have:=ad4 args.toList 0 pZ j u (by simpa using hj);rwa[bS]at this)) ?_
 intro tp d π gs sl q t Shun B hh hfv;have ht:=(hfv (b.at a (.inRegion ops (i::rest)::k)) (by simp[G])).1;rw[show(b.at a (.inRegion ops (i::rest)::k)).fn=fn from hb]at ht;have ha0:=EvB.acR (uE (c:=c.at fn) ht) (zx (c:=c.at fn) ht) pZ;have ha:vK c f π (args.map a.eval) (args.map a.eval):=⟨ha0.size,ha0.at_⟩;refine R8 (c:=c) (dc:=c.at f) (k:=[]) (kR:=[]) (cs:=b.at a (.inRegion ops (i::rest)::k)::cs) (hc.at f) rfl ?_ (yi (c:=c) hc hf hh.sub hh.hp ha hR wm) _ tp d π gs sl q t Shun B hh ⟨rfl,rfl,.one (sV.enter hc hf ha) rfl⟩ λfr oi=>hfv fr (by simp[G]at oi|-;exact .inr oi)
 intro gL g' w' bQ hH hg s' jY hv;obtain⟨h1,Wk,v,t',d',hr,hl⟩:=hH;obtain⟨e1,e2,gI⟩:=hg;rw[h1]at gI;obtain⟨zG,tC,AZ⟩:=Fz gI;have heq:=zG.eq s';rw[<-heq]at zG e2;rw[e2,tC];have r9:(b.at a (.inRegion ops (i::rest)::k)).finish v=b.at (a.put o.dst v) (.inRegion ops rest::k):=by rw[nL,ho];rfl
 refine⟨MC (λF' zG=>by rw[Wk,hF]at zG;cases zG;rw[Wk];exact tE) hl Ee (by rw[r9];exact si v w' (LU _ _ _ _ hr) b k cs hb hk hp hq),λfr oi=> ?_⟩;rcases cj.1 oi with rfl|h'
 ·exact⟨by rw[Wk];exact zG.tmps,zG.kind,hl.2.1,AZ⟩
 ·exact hv fr h'
def AI (P:aS)(F:Func)(R:ao->ah->Prop):Exit->Act->ah->Prop
 | .normal,a,w| .ret,a,w=> ∃v,(results F a.tmps).run P w=.ok v w/\R v w
 |_,_,_=>False
def vM (P:aS)(c:gj)(Post:ao->ah->Prop)(f:bK)(args:Array ao)(w:ah)(R:ao->ah->Prop):Prop:= ∃F x,P.funcs[f]? =ae F/\(F.name== "runtime.NumGoroutine")=ay/\F.results.toList.all (sn (c.bd f))=aw/\F.body=ae x/\eT P c Post f x (AI P F R) {tmps:=args++eG (F.ntmps-args.size) undef,defers:=[]} w
def xy {ops:Array Oper}{i:Nat}{rest:List Nat}{o:Oper}{f:bK}{args:Array cG}{uz:Array aA}{R:ao->ah->Prop}(ho:ops[i]? =ae o)(hw:bu o (yielded ops a.tmps)=aw)(hop:o.op=.call {callee:=.value (.func f),args,argTypes:=uz})(pZ: ∀j u,args[j]? =ae u->vp (c.at fn) f j u=aw\/(j∈c.bd f/\mH c (c.kd f j) (a.eval u)))(wm:vM P c Post f (args.map a.eval) w R)(si: ∀v w',R v w'->qQ P c Post fn ops rest Q (a.put o.dst v) w'):qQ P c Post fn ops (i::rest) Q a w:=by
 intro b k cs hb hk hp hq;obtain⟨F,x,hF,iC,tE,hx,Sw⟩:=wm;refine MA ho hw hk hop hF iC hx (by rw[hb];exact pZ) ?_;rw[enter_at _ hF hx];have r9: ∀v,(b.at a (.inRegion ops (i::rest)::k)).finish v=b.at (a.put o.dst v) (.inRegion ops rest::k):=λv=>by rw[nL,ho];rfl
 have Ew: ∀(a':Act) (w':ah) (todo:List Item),(∃v,(results F a'.tmps).run P w'=.ok v w'/\R v w')->CY P c Post (G {(base f).at a' todo with mode:=.returning} (b.at a (.inRegion ops (i::rest)::k)::cs)) w':=by rintro a' w' todo ⟨v,hr,hR⟩;intro tp d π gs sl q t Shun B hh hfv;have hd:a'.defers=[]:=(hfv {(base f).at a' todo with mode:=.returning} (by simp[G])).2.2.1;exact MC (λF' zG=>by have:P.funcs[f]? =ae F':=zG;rw[hF]at this;cases this;exact tE) (t':=w'.tape) (d':=w'.drawn) ⟨rfl,hd,rfl,F,hF,hr⟩ Ee (by rw[r9];exact si v w' hR b k cs hb hk hp hq) tp d π gs sl q t Shun B hh hfv
 refine Sw (base f) [] _ rfl rfl rfl λe a' w' q=> ?_
 cases e with
 |normal=>
  refine .ctl rfl (λ_=>stepG_end) (λπ _ hv fr oi=> ?_) (Ew a' w' [] q);rcases cj.1 oi with rfl|h'
  ·exact hv ((base f).at a' []) (by simp[G])
  ·exact hv fr (by simp[G]at h'|-;exact .inr h')
 |ret=>exact λtodo=>Ew a' w' todo q
 |exit id=>exact q.elim
 |goto l=>exact q.elim
 |panic ch=>exact q.elim
 |outgrown=>exact q.elim
end
end Rel
section
open Go.RowKit Go.ChangeShapes Go.WideShapes Go.ChangeAt Go.Deep
def gE (P:aS):Nat->aA->Bool
 |0,_=>ay
 |n+1,t=>match P.underlying t with
  |some (.int .i64)=>P.cellsOf t==1
  |some (.struct fs)=>fs.toList.all (λf=>gE P n f.type)&&(bP (P.cellsOf t)).all λj=>fs.toList.any λf=>decide (f.offset<=j)&&decide (j<f.offset+P.cellsOf f.type)
  |some (.array m e)=>gE P n e&&decide (P.cellsOf t=m *P.cellsOf e)&&decide (0<P.cellsOf e)
  |_=>ay
def Xd (cs:List ao):Prop:= ∀c∈cs,∃x:Int,c=.int .i64 x/\Fits x
def P2 {x:Int}(h:(Lit.int .i64 x).wf=aw):Fits x:=by simp only[Lit.wf,IntKind.min,IntKind.max,IntKind.signed,IntKind.bits,aG,decide_eq_true_eq,if_true]at h;unfold Fits;omega
section
variable {H:Type} {enc:aA×ao->H} {P:aS} {w:ah} {base:Nat} {spare:Nat->Bool} {held:Bool}
def AR: ∀(n fuel:Nat) (t:aA) (cs:List ao) (y:DataW H×List MemPlace),gE P n t=aw->DataW.trod enc P w base spare held fuel t cs=ae y->cs.length=P.cellsOf t/\Xd cs
 |0,_,_,_,_,h,_=>by simp[gE]at h
 |n+1,fuel,t,cs,y,h,ht=>by
  unfold gE at h
  split at h
  ·rename_i hu
   obtain⟨x,rfl,_,hw⟩:=DataW.trod_int hu ht;refine⟨by simpa using(beq_iff_eq.1 h).symm,λc hc=> ?_⟩;rw[eO.1 hc];exact⟨x,rfl,P2 hw⟩
  ·rename_i fs hu
   obtain⟨xs,m,_,_,hl,SE,hf⟩:=DataW.trod_struct hu ht;simp only[aG,List.all_eq_true]at h;obtain⟨h1,h2⟩:=h;refine⟨hl,λc hc=> ?_⟩;obtain⟨j,hj,hjc⟩:=dK.1 hc;have h3:=h2 j (by simp;omega);simp only[qc,aG,decide_eq_true_eq]at h3;obtain⟨f,hfm,hf1,hf2⟩:=h3;obtain⟨i,hi,hfi⟩:=dK.1 hfm;have h4:=hf i f (by rw[<-hfi];simp at hi;simp[aX hi]);have xr:i<xs.length:=by rw[SE];simpa using hi
   rw[aq xr]at h4;obtain⟨_,h5⟩:=AR n m f.type _ _ (h1 f hfm) h4;refine h5 c ?_;rw[List.mem_iff_getElem?];refine⟨j-f.offset,?_⟩;rw[ie,if_pos (by omega),List.getElem?_drop,show f.offset+(j-f.offset)=j from by omega,aq hj,hjc]
  ·rename_i m e hu
   obtain⟨xs,k,_,_,hl,SE,hf⟩:=DataW.trod_array hu ht;simp only[aG,decide_eq_true_eq]at h;obtain⟨⟨h1,h2⟩,h3⟩:=h;refine⟨hl,λc hc=> ?_⟩;obtain⟨j,hj,hjc⟩:=dK.1 hc;have Um:j<m *P.cellsOf e:=by omega
   have hjd:j / P.cellsOf e<m:=(Nat.div_lt_iff_lt_mul h3).2 Um;have h4:=hf (j / P.cellsOf e) hjd;have xr:j / P.cellsOf e<xs.length:=by omega
   rw[aq xr]at h4;obtain⟨_,h5⟩:=AR n k e _ _ h1 h4;refine h5 c ?_;rw[List.mem_iff_getElem?];have h6:=Nat.div_add_mod j (P.cellsOf e);have h7:=Nat.mod_lt j h3;rw[Nat.mul_comm]at h6;refine⟨j % P.cellsOf e,?_⟩;rw[ie,if_pos h7,List.getElem?_drop,h6,aq hj,hjc]
  ·cases h
def NU {t e:aA}{v:ao}{d:DataW H}{p:List MemPlace}(n:Nat)(ht:P.underlying t=ae (.slice e))(hB:gE P n e=aw)(yz:0<P.cellsOf e)(hv: ∃A len cap,v=.slice A len cap)(h:DataW.Trod enc P w base spare held t v d p)(bJ: ∀x∈p,x.block<w.heap.size): ∃A len cap,v=.slice A len cap/\cap<=maxLen/\len<=cap/\(∃elems sp,d=.slice elems sp/\elems.length=len\/len=0)/\ ∃xs:List Int,Reads w w.heap.size (P.cellsOf e) A len (xs.map (aF .i64))/\ ∀x∈xs,Fits x:=by
 obtain⟨A,len,cap,rfl⟩:=hv;obtain⟨fuel,hf⟩:=h;rcases open_slice ht hf with⟨tC,hx⟩|⟨a,ai0,aaX,m,k,D,Pl,tC,hb,hl,hm,hmm,hx,hi⟩
 ·simp only[iQ,List.cons.injEq,Value.slice.injEq,and_true]at tC;obtain⟨rfl,rfl,rfl⟩:=tC;exact⟨ai,0,0,rfl,by decide,ax _,⟨[],[],bO rfl⟩,[],⟨by simp,λh0=>absurd h0 (by omega)⟩,by simp⟩
 ·simp only[iQ,List.cons.injEq,Value.slice.injEq,and_true]at tC;obtain⟨rfl,rfl,rfl⟩:=tC;have Qa:len<=m:=by rw[hmm];split<;>omega
  simp only[Prod.mk.injEq]at hx;obtain⟨rfl,rfl⟩:=hx;refine⟨_,_,_,rfl,hm,hl,⟨_,_,bm ⟨rfl,by simp⟩⟩,?_⟩;have kP: ∀j,j<len *P.cellsOf e-> ∃x:Int,w.cell? (a.add j)=ae (.int .i64 x)/\Fits x:=by intro j hj;have hjd:j / P.cellsOf e<len:=(Nat.div_lt_iff_lt_mul yz).2 hj;obtain⟨cs',hc,ht'⟩:=hi (j / P.cellsOf e) (by omega);obtain⟨_,h2⟩:=AR n _ e _ _ hB ht';obtain⟨_,sM,vl⟩:=World.cells?_some hc;have h7:=Nat.mod_lt j yz;have h8:=vl _ h7;rw[Go.Deep.add_add,Nat.mul_comm,Nat.div_add_mod]at h8;obtain⟨x,hx,hfx⟩:=h2 _ (bg (show j % P.cellsOf e<cs'.length by omega));exact⟨x,by rw[h8,aq (by omega),hx],hfx⟩
  have hex: ∃xs:List Int,xs.length=len *P.cellsOf e/\(∀j x,xs[j]? =ae x->w.cell? (a.add j)=ae (.int .i64 x))/\ ∀x∈xs,Fits x:=by
   generalize len *P.cellsOf e=q at kP
   induction q with
   |zero=>exact⟨[],rfl,by simp,by simp⟩
   |succ q ih=>
    obtain⟨xs,h1,h2,h3⟩:=ih λj hj=>kP j (by omega)
    obtain⟨x,hx,hfx⟩:=kP q (by omega);refine⟨xs++[x],by simp[h1],?_,by simpa using λy hy=>by rcases hy with hy|rfl;exact h3 y hy;exact hfx⟩;intro j z hz;rw[List.getElem?_append]at hz
    split at hz
    ·exact h2 j z hz
    ·have:j=q:=by have:=(bz.1 hz).1;simp at this;omega
     subst this;simp[h1]at hz;rw[<-hz];exact hx
  obtain⟨xs,h1,h2,h3⟩:=hex;refine⟨xs,⟨by simp[h1],λh0=> ?_⟩,h3⟩;obtain⟨x0,hx0,_⟩:=kP 0 (Nat.mul_pos h0 yz);obtain⟨b,o,s⟩:=a;have hs:s=ai:=by
   unfold c8 at hx0
   split at hx0
   ·cases s with
    |none=>rfl
    |some _=>simp[Addr.add]at hx0
   ·cases hx0
  subst hs;refine⟨b,o,rfl,?_,?_⟩
  ·exact rX w ⟨b,o,ai⟩ (by simpa[Addr.add]using hx0)
  ·intro j u hu;rw[dN]at hu;obtain⟨x,hx,rfl⟩:=aJ.1 hu;have:=h2 j x hx;rwa[Addr.add_lit]at this
def ES {r:Reach}{b0:Nat}{t e:aA}{v:ao}{d:DataW H}{p:List MemPlace}(n:Nat)(ht:P.underlying t=ae (.slice e))(hB:gE P n e=aw)(yz:0<P.cellsOf e)(hv:Value.okWide P w r b0 t v)(h:DataW.Trod enc P w base spare held t v d p)(bJ: ∀x∈p,x.block<w.heap.size): ∃A len cap,v=.slice A len cap/\cap<=maxLen/\len<=cap/\(∃elems sp,d=.slice elems sp/\elems.length=len\/len=0)/\ ∃xs:List Int,Reads w w.heap.size (P.cellsOf e) A len (xs.map (aF .i64))/\ ∀x∈xs,Fits x:=NU n ht hB yz (okWide_slice ht hv) h bJ
def yl (hl:laidOutB P=aw): ∀{ts:List aA} {vs:List ao} {ds:List (DataW H)} {ps:List MemPlace} {W W':ah},(∀t∈ts,P.readableRec t=aw/\t<P.types.size)->DataW.TrodAll enc P W 0 (λ_=>aw) aw ts vs ds ps->Below W.heap.size W W'->(∀x∈ps,x.block<W.heap.size)->DataW.TrodAll enc P W' 0 (λb=>decide (b<W.heap.size)) aw ts vs ds ps
 | [],vs,ds,ps,W,W',_,h,_,_=>by obtain⟨rfl,rfl,rfl⟩:=trodAll_nil h;exact trodAll_mk0
 |t::ts,vs,ds,ps,W,W',ht,h,hb,bJ=>by obtain⟨v,vs',d,Wc,p,q,rfl,rfl,rfl,h1,h2⟩:=trodAll_cons h;exact trodAll_cons_mk (Below.trod hl (ht t (by simp)).1 (ht t (by simp)).2 h1 hb λx hx=>bJ x (by simp[hx])) (yl hl (λu hu=>ht u (by simp[hu])) h2 hb λx hx=>bJ x (by simp[hx]))
def Y2 {f:Func}{s:ChangeSpec}{W W':ah}{args:Array ao}{ds gs:List (DataW H)}{before:List MemPlace}{tb:aA}(hl:laidOutB P=aw)(hts: ∀t∈f.params.toList,P.readableRec t=aw/\t<P.types.size)(tE:f.resultTypes= #[tb])(SD:P.underlying tb=ae .bool)(I1:s.vars=[])(hs:s.fn H ds={results:=[.lit (.bool aw)],args:=ds})(hW:DataW.Whole enc P f.params.toList s.vars ay W args.toList ds gs before)(hb:Below W.heap.size W W'):s.post enc P f ay aw ay ay W args (.bool aw) W':=by
 have hW':=hW;obtain⟨p,q,hA,hV,rfl,hfz,Ey⟩:=hW;rw[I1]at hV;obtain⟨rfl,rfl⟩:=trodVars_none hV;have bJ: ∀x∈p++[],x.block<W.heap.size:=λx hx=>hW'.lt x hx
 refine⟨ds,[],p++[],[],p,[],hW',?_,?_,?_,?_,by simp⟩
 ·rw[ew,hs,tE];exact trodAll_mk1 (shut_bool SD aw)
 ·rw[ew,hs];exact yl hl hts hA hb λx hx=>bJ x (by simpa using hx)
 ·rw[ew,hs,I1];exact rfl
 ·exact World.keptBut_mono (λx hx=>⟨hx,by simp at hx;exact bO (bm hx)⟩) (hb.frame (· ∈p++[]))
end
end
section
open Go.RowKit
def T4 (A A':Option Addr)(c c':Nat)(xs ys:List (List Int))(w:ah)(h:fi w w.heap.size 11 A xs)(h':fi w w.heap.size 11 A' ys)(hx:xs.length<=maxLen)(hy:ys.length<=maxLen):Calls aj 34 #[.slice A xs.length c,.slice A' ys.length c'] w λe w'=>e=.returned (.bool (oa xs ys))/\Below w.heap.size w w':=by
 have H:=af h;have H':=af h';have Pk:(xs.length:Int)<=9223372036854775807:=by unfold maxLen at hx;omega
 have hy':(ys.length:Int)<=9223372036854775807:=by unfold maxLen at hy;omega
 have Wv:Hid (∀r∈xs,r.length=11):=h.1;have hsy:Hid (∀r∈ys,r.length=11):=h'.1;clear h h'
 go_enter Tryz.func34,Tryz.ntmps34
 by_cases hl:xs.length=ys.length
 rotate_left
 ·have h1:((xs.length:Int) !=(ys.length:Int))=aw:=by simp;omega
  have HD:Hid (oa xs ys=ay):=by simp only[Hid,oa,decide_eq_false_iff_not];rintro rfl;exact hl rfl
  go_wp2_with fail
  go_ret;exact⟨eu HD.out.symm,Below.refl _ _⟩
 have h1:((xs.length:Int) !=(ys.length:Int))=ay:=by simp;omega
 go_wp2_with fail
 go_loopw [14] (λi w'=> ∃k:Nat,k<=xs.length/\i=.int .i64 k/\(∀j,j<k->xs[j]? =ys[j]?)/\Below w.heap.size w w') (λi _=>xs.length-(intOf i).toNat)
 case atStart=>exact⟨0,by omega,rfl,λj hj=>by omega,Below.refl _ _⟩
 case round=>
  obtain⟨k,hk,rfl,Es,hb⟩:=hrel;have yo:=af Es;have xc:=af hb;clear Es hb;by_cases bJ:k<xs.length
  ·have vI:(k:Int)<xs.length:=by omega
   have aiU:(k:Int)<ys.length:=by omega
   obtain⟨b,o,rfl,zJ,fg⟩:=(H.out.below xc.out).at_ bJ;obtain⟨b',o',rfl,ahS,ac6⟩:=(H'.out.below xc.out).at_ (k:=k) (by omega);have hex:Hid (xs[k]? =ys[k]?↔xs[k]=ys[k]'(by omega)):=by rw[aq bJ,aq (show k<ys.length by omega)];exact⟨λh=>be h,λh=>by rw[h]⟩
   have hrx:=Wv.out _ (bg bJ);have hry:=hsy.out _ (bg (show k<ys.length by omega));generalize xs[k]=x at *;generalize ys[k]'(by omega)=y at *
   go_upto_region 6 with(fail)
   refine bZ (λw'=>dt w' wr.heap.size 50 (ints x)/\Below wr.heap.size wr w') ⟨gD wr 50 [0,0,0,0,0,0,0,0,0,0,0] _ hrx,dV wr 50 [0,0,0,0,0,0,0,0,0,0,0] _⟩ ?_;rintro w2 ⟨Hl,gF⟩;have pW:=af (xc.out.trans (gF.mono xc.out.size));have c1: ∀n:After w2,row? n.w wr.heap.size 0 11=ae (ints x):=λn=>(Hl.after n.below).bt hrx
   have c2: ∀n:After w2,row? n.w b' (o'+k *11) 11=ae (ints y):=λn=>(kB n.below (by have:=xc.out.size;have:=gF.size;omega) _ _).trans ((kB gF (by have:=xc.out.size;omega) _ _).trans ac6)
   have hn: ∀W,(binOp .neq 50 (.agg (ints x)) (.agg (ints y))).run aj W=.ok (.bool (!decide (x=y))) W:=abL x y hrx hry;clear Hl gF fg ac6;by_cases he:x=y
   ·have hd:(decide (x=y))=aw:=by simpa using he
    rw[hd]at hn;have HE:Hid (xs[k]? =ys[k]?):=hex.out.2 he;clear he hex hd;refine bF (by kernel_rfl) (by kernel_rfl) ?_
    repeat(go_big_quiet_step (fail))
    refine wpQuiet_nil ?_;rintro _ ⟨n,rfl⟩
    go_wp2_with fail
    go_roundw
    case rel=>
     refine⟨k+1,by omega,by go_num,λj hj=> ?_,pW.out.trans (n.below.mono pW.out.size)⟩;by_cases yy:j=k
     ·rw[yy];exact HE.out
     ·exact yo.out j (by omega)
    case measure=>simp[intOf];omega
   ·have hd:(decide (x=y))=ay:=by simpa using he
    rw[hd]at hn;have HD:Hid (oa xs ys=ay):=by simp only[Hid,oa,decide_eq_false_iff_not];intro e;exact he (hex.out.1 (by rw[e]))
    clear he hex hd;refine bF (by kernel_rfl) (by kernel_rfl) ?_
    repeat(go_big_quiet_step (fail))
    refine wpQuiet_nil ?_;rintro _ ⟨n,rfl⟩
    go_wp2_with fail
    go_ret;exact⟨eu HD.out.symm,pW.out.trans (n.below.mono pW.out.size)⟩
  ·have HD:Hid (oa xs ys=aw):=by
    simp only[Hid,oa,decide_eq_true_eq];apply mf;intro j;by_cases hj:j<k
    ·exact yo.out j hj
    ·rw[jz (by omega),jz (by omega)]
   go_wp2_with fail
   go_ret;exact⟨eu HD.out.symm,xc.out⟩
end
namespace Rel
open Go.Conc Go.ConcN
section
variable {P:aS} {c:gj} {Post:ao->ah->Prop} {w:ah}
def aaZ {fr:bp}{v:ao}{t':Tape}{d':Nat}(tE: ∀F,P.funcs[fr.fn]? =ae F->F.results.toList.all (sn (c.bd fr.fn))=aw)(hl:fr.leaving P (dH w t' d') (.returned v))(hi:P.inits.idxOf? fr.fn=ai)(Ng: ∀tp d,Post v (dH w tp d)):CY P c Post (G fr []) w:=by
 obtain⟨hm,hd,hk,F,hF,hr⟩:=hl;intro tp d π gs sl q t Shun B h hf;have ht:=(hf fr (by simp[G])).1;refine mm h.g0 rfl h.co λtA q' t2 y6 d2 hs h0 hC=>.inl ?_
 obtain⟨bQ,ev,hR,e,s',jY,hn,hvv,jJ⟩:=z8 (c:=c.at fr.fn) h.sub h.hp (tE F hF) ht hr tp d2;have gI:stepG P aw (jW fr []) (dH w tp d2)=.ended (.done v) (dH w tp d2) (seen P fr.fn ev++ #[]):=by
  rw[iY aw fr _ _ (by rw[hm];simp),oO aw fr _ _ hd hm,hF];simp only[phase,hR];have:doReturn P aw fr [] ai v (dH w tp d2)=.ended (.done v) (dH w tp d2):=by unfold doReturn;simp only[hk,hi];rfl
  rw[this]
  rfl
 have hx: ∀x∈seen P fr.fn ev++ #[],EvX Shun w.heap.size x:=by intro x hx;rw[Array.append_empty]at hx;exact acV s' jY (λb hb=>h.Tp b (hn b hb)) h.old (jJ x (kD _ _ x hx))
 have zL:=runT_many_ended (P:=P) (w:=dH w tp d2) (sl:=y6) (i:=0) h0 (show stepG P (0==0) (G fr []) (dH w tp d2)=_ from gI);refine⟨_,_,_,zL,λag' adi=> ?_⟩;have hC':=hC.SX (a':=G fr []) h.le hx (G fr []).frame.fn (G fr []).frame.place id (λo _=>rfl);refine⟨v,rfl,Ng _ _,hC'.past.clean,hC'.past.over,⟨λx hx=> ?_,rfl⟩,λj x hx hj=> ?_⟩
 ·obtain⟨j,hj⟩:=List.mem_iff_getElem?.1 hx;rw[List.getElem?_drop]at hj;exact⟨_,(hC.old (1+j) x (by omega) (by simpa[crowd]using hj)).leaves⟩
 ·have hq:=hC.old j x (by omega) hx;refine⟨q' j,?_⟩;have e:(t2++ca 0 (G fr []).frame.fn (G fr []).frame.place (seen P fr.fn ev++ #[])).deaf j (t2++ca 0 (G fr []).frame.fn (G fr []).frame.place (seen P fr.fn ev++ #[])).size=Deaf t2 j:=Deaf_other t2 (g:=j) (g':=0) (by omega) _ (λop hop=>by obtain⟨e,_,rfl⟩:=bj hop;rfl)
  rw[e];exact hq.hears _
def adO (P:aS)(g:au):Co P (λ_=>False) 0 #[g] (λ_=>0) #[]:=by
 refine⟨λi x hi hx=> ?_,⟨λsaid=>by rintro⟨i,j,_,⟨a,b,ha,_⟩,_⟩;simp[Trace.act?]at ha,λi a ha=>by simp[touchAt,Trace.act?]at ha,λi g hg=>by simp[Trace.g?]at hg,rfl,by simp,λi op hi=>by simp at hi⟩,by simp,λb hb=>hb.elim⟩;have:i<1:=by simpa using(aI.1 hx).1
 omega
def Y3 {f:bK}{args:Array ao}{R:ao->ah->Prop}(hg:P.globals.size<=w.heap.size)(hi:P.inits.idxOf? f=ai)(pZ: ∀i v,args[i]? =ae v->(i∈c.bd f/\mH c (c.kd f i) v)\/BS c.sig v)(jB: ∀a x,c.mem a=ae x->w.cell? a=ae (.int .i64 x))(Ng: ∀v w',R v w'-> ∀tp d,Post v (dH w' tp d))(h:vM P c Post f args w R): ∃M last o w' t',runNT P (M+1) (solo (G (fG P f args .normal) []) w) #[]=(.ended o w',t')/\runN P M (solo (G (fG P f args .normal) []) w)=.next last/\step P last=.ended o w'/\Go.Conc.Good P Post last o w' t':=by
 obtain⟨F,x,hF,iC,tE,hx,Sw⟩:=h;have hcy:CY P c Post (G (fG P f args .normal) []) w:=by
  rw[enter_at _ hF hx];have Ew: ∀(a':Act) (w':ah) (todo:List Item),(∃v,(results F a'.tmps).run P w'=.ok v w'/\R v w')->CY P c Post (G {(base f).at a' todo with mode:=.returning} []) w':=by rintro a' w' todo ⟨v,hr,hR⟩;intro tp d π gs sl q t Shun B hh hfv;have hd:a'.defers=[]:=(hfv {(base f).at a' todo with mode:=.returning} (by simp[G])).2.2.1;exact aaZ (λF' zG=>by have:P.funcs[f]? =ae F':=zG;rw[hF]at this;cases this;exact tE) (t':=w'.tape) (d':=w'.drawn) ⟨rfl,hd,rfl,F,hF,hr⟩ hi (Ng v w' hR) tp d π gs sl q t Shun B hh hfv
  refine Sw (base f) [] [] rfl rfl rfl λe a' w' q=> ?_
  cases e with
  |normal=>
   refine .ctl rfl (λ_=>stepG_end) (λπ _ hv fr oi=> ?_) (Ew a' w' [] q);rcases cj.1 oi with rfl|h'
   ·exact hv ((base f).at a' []) (by simp[G])
   ·simp[G]at h'
  |ret=>exact λtodo=>Ew a' w' todo q
  |exit id=>exact q.elim
  |goto l=>exact q.elim
  |panic ch=>exact q.elim
  |outgrown=>exact q.elim
 refine hcy w.tape w.drawn (λ_ _=>False) #[G (fG P f args .normal) []] ai (λ_=>0) #[] (λ_=>False) 0 ⟨λ_ _ h=>h.elim,⟨⟨λ_ _ _ h=>h.elim,λ_ _ _ h=>h.elim,λ_ _ h=>h.elim⟩,λ_ _ h=>h.elim,hg,hg,λa x hx=>⟨λ_ h=>h,λ_ h=>h,jB a x hx,jB a x hx⟩⟩,λ_ h=>h.elim,cE _,adO P _,rfl,λ_ h=>h.elim⟩ λfr oi=> ?_
 have oi:fr=fG P f args .normal:=by simpa[G]using oi
 subst oi;rw[enter_at _ hF hx];refine⟨⟨rfl,λi u v hu hv=> ?_⟩,rfl,rfl,rfl⟩;rw[hu]at hv;obtain rfl:=be hv;have No:(args++eG (F.ntmps-args.size) undef)[i]? =ae u:=hu;rw[Array.getElem?_append]at No
 split at No
 ·rcases pZ i u No with h1|h1
  ·exact .inr ⟨h1.1,rfl,h1.2⟩
  ·exact .inl (h1 _)
 ·rw[Array.getElem?_replicate]at No
  split at No
  ·cases No;exact .inl (.tuple rfl (by simp))
  ·cases No
end
structure EH (P:aS) (c:gj) (N1:Nat) (cs:List bp) (π:Ren) (Shun:Nat->Prop) (B:Nat) (gs:Array au) (q:Nat->Nat) (t:Trace) (g:au) (w:ah):Prop where
 sub:Sub π
 hp:cz P c.sig π w w
 Tp: ∀b,π b b-> ¬Shun b
 inn: ∀b,π b b->b<N1
 sh: ∀b,Shun b->b<N1
 n1:N1<=w.heap.size
 le:B<=w.heap.size
 co:Co P Shun B gs q t
 g0:gs[0]? =ae g
 old: ∀b,Shun b->c.old<=b
 QL:c.old<=N1
 fr: ∀fr∈cs,DR c π fr
def EY (P:aS)(c:gj)(Post:ao->ah->Prop)(N1:Nat)(cs:List bp)(Bm:Nat)(g:au)(w:ah):Prop:= ∀(tp:Tape) (d:Nat) (π:Ren) (gs:Array au) (sl:Option (Nat×Nat)) (q:Nat->Nat) (t:Trace) (Shun:Nat->Prop) (B:Nat),B<=Bm->EH P c N1 cs π Shun B gs q t g w->Ends P Post (crowd gs (dH w tp d) sl) t
def EvN (N1 B:Nat)(e:Event):Prop:=(e.loc≠ .mark .disable/\e.loc≠ .mark .enable)/\ ∀x,(cX e).touch? =ae x-> ∃b,wE x.loc=ae b/\N1<=b/\b<B
section
variable {P:aS} {c:gj} {Post:ao->ah->Prop} {N1 Bm:Nat} {cs:List bp} {w:ah}
def afP {Shun:Nat->Prop}{B:Nat}(sh: ∀b,Shun b->b<N1){e:Event}(h:EvN N1 B e):EvX Shun B e:=by
 refine⟨h.1,λx hx=> ?_⟩;obtain⟨b,hb,h1,h2⟩:=h.2 x hx;refine⟨λ⟨b',e1,e2⟩=> ?_,?_⟩
 ·rw[hb]at e1;cases e1;have:=sh b e2;omega
 ·cases hl:x.loc with
  |cell a=>rw[hl]at hb;cases hb;exact h2
  |obj r=>rw[hl]at hb;cases hb;exact h2
  |_=>trivial
def cz.keeps {S:jK}{π:Ren}{w w':ah}(s:Sub π)(h:cz P S π w w)(hs:w.heap.size<=w'.heap.size)(hk: ∀b,π b b->w'.heap[b]? =w.heap[b]?)(ho: ∀a x,S.mem a=ae x->w'.heap[a.block]? =w.heap[a.block]?):cz P S π w' w':=by refine⟨h.ok,λl r x=> ?_,bM h.oE hs,bM h.oE hs,λa x hx=>by obtain⟨g1,g2,g3,g4⟩:=h.old a x hx;exact⟨g1,g2,(nU (ho a x hx)).trans g3,(nU (ho a x hx)).trans g4⟩⟩;obtain rfl:=s _ _ x;obtain⟨o,o',h1,h2,h3⟩:=h.obj _ _ x;exact⟨o,o',(hk _ x).trans h1,(hk _ x).trans h2,h3⟩
def EH.next {π:Ren}{Shun:Nat->Prop}{B:Nat}{gs:Array au}{q:Nat->Nat}{t:Trace}{g:au}(h:EH P c N1 cs π Shun B gs q t g w){tA:Array au}{g':au}{w':ah}{t':Trace}{B':Nat}(hold: ∀b,b<N1->w'.heap[b]? =w.heap[b]?)(kJ:w.heap.size<=w'.heap.size)(hB:B'<=w'.heap.size)(hC:Co P Shun B' tA q t')(h0:tA[0]? =ae g'):EH P c N1 cs π Shun B' tA q t' g' w':=⟨h.sub,h.hp.keeps h.sub kJ (λb hb=>hold b (h.inn b hb)) (λa x hx=>hold _ (cc (c.KL a x hx) h.QL)),h.Tp,h.inn,h.sh,bM h.n1 kJ,hB,hC,h0,h.old,h.QL,h.fr⟩
def EY.step {g g':au}{w':ah}{Bm':Nat}(hr:g.status=.running)(gI: ∀tp d,∃es,stepG P aw g (dH w tp d)=.go g' (dH w' tp d) es/\ ∀e∈es,EvN N1 Bm' e)(hold: ∀b,b<N1->w'.heap[b]? =w.heap[b]?)(kJ:w.heap.size<=w'.heap.size)(hB:Bm<=Bm')(hB':Bm'<=w'.heap.size)(k:EY P c Post N1 cs Bm' g' w'):EY P c Post N1 cs Bm g w:=by
 intro tp d π gs sl q t Shun B hBB h;refine mm h.g0 hr h.co λtA q' t' y6 d' hs h0 hC=>.inr ?_
 obtain⟨es,abo,jJ⟩:=gI tp d';have hgo:stepG P aw g ((dH w tp d).at d')=.go g' (dH w' tp d') es:=abo;have hC':=hC.SX (B':=Bm') (by omega) (λe he=>afP h.sh (jJ e he)) (a':=g') g.frame.fn g.frame.place (woken P g g' (dH w' tp d')) (vd P g g' _);refine⟨_,_,runT_crowd_go (P:=P) (sl:=y6) (i:=0) h0 hgo,k tp d' π _ y6 q' _ Shun Bm' (ax _) (EH.next (B':=Bm') ⟨h.sub,h.hp,h.Tp,h.inn,h.sh,h.n1,h.le,hC,h0,h.old,h.QL,h.fr⟩ hold kJ hB' hC' ?_)⟩;rw[aU (by simpa using hC.pos)]
def EY.ctl {g g':au}(hr:g.status=.running)(gI: ∀w,stepG P aw g w=.go g' w #[])(hB':Bm<=w.heap.size)(k:EY P c Post N1 cs Bm g' w):EY P c Post N1 cs Bm g w:=.step hr (λ_ _=>⟨#[],gI _,by simp⟩) (λ_ _=>rfl) (ax _) (ax _) hB' k
def EY.send {g:au}{C:Nat}{v z:ao}{blocking:Bool}{shape:CommShape}{cap s r:Nat}{buf:Array ao}{tm:Bool}(hr:g.status=.running)(gI: ∀tp d,stepG P aw g (dH w tp d)=.comm g #[scase C v z] blocking shape (dH w tp d) #[])(hC:N1<=C)(hc:w.heap[C]? =ae (.chan cap buf ay s r tm))(agx:buf.size<cap)(hB':Bm<=w.heap.size)(k:EY P c Post N1 cs Bm (g.finishComm P #[scase C v z] shape 0 undef ay) (w.setChan C cap (buf.push v) ay (s+1) r tm)):EY P c Post N1 cs Bm g w:=by
 intro tp d π gs sl q t Shun B hBB h;refine mm h.g0 hr h.co λtA q' t' y6 d' hs h0 hC0=>.inr ?_
 have hgo:stepG P (0==0) g ((dH w tp d).at d')=.comm g #[scase C v z] blocking shape (dH w tp d') #[]:=gI tp d';have bJ:C<w.heap.size:=(aI.1 hc).1;have noP:partners (tA.setIfInBounds 0 Go.Conc.ph) C ay=[]:=partners_nil λy gy hgy=>by
  rcases getElem?_stand _ _ _ _ hgy with⟨_,rfl⟩|⟨eb,hgy⟩
  ·exact offersAt_ph _ _
  ·exact offersAt_of_not_blocked (by rcases(hC0.old y gy (by omega) hgy).status with h|h<;>rw[h]<;>simp) _ _
 have cT:=crowd_send_room (P:=P) (sl:=y6) h0 hgo hc agx noP;have Kh: ∀fn pos,ca 0 fn pos #[]= #[]:=λfn pos=>by rw[ofEvents_eq];simp
 rw[Kh,kU]at cT;have iA: ∀op∈(#[{g:=0,fn:=g.frame.fn,pos:=g.frame.place,act:=.send C s},{g:=0,fn:=g.frame.fn,pos:=g.frame.place,act:=.sendDone C s}]:Trace),op.g=0/\op.act.touch? =ai/\ ∀m,op.act≠ .mark m:=by intro op hop;simp only[qi,cj,jH,or_false]at hop;rcases hop with rfl|rfl<;>exact⟨rfl,rfl,by simp⟩
 have hC':=hC0.own (B':=B) (ax _) (a':=g.finishComm P #[scase C v z] shape 0 undef ay) id (λ_ _=>rfl) (λop hop=>(iA op hop).1) (λop hop x hx=>by rw[(iA op hop).2.1]at hx;cases hx) (Deaf_still _ 0 _ λop hop=>⟨(iA op hop).2.2 _,(iA op hop).2.2 _⟩)
 rw[Array.map_id_fun,id]at hC';refine⟨_,_,cT,k tp d' π _ y6 q' _ Shun B hBB (EH.next (B':=B) ⟨h.sub,h.hp,h.Tp,h.inn,h.sh,h.n1,h.le,hC0,h0,h.old,h.QL,h.fr⟩ (λb hb=> ?_) (by simp[qj]) (by simp[qj];exact h.le) hC' ?_)⟩
 ·show(w.heap.setIfInBounds C _)[b]? =_;rw[aK (by omega)]
 ·rw[aU (by have:=hC0.pos;omega)]
def aa1 {b:bp}{k:List Item}{a:Act}{ops:Array Oper}{i:Nat}{rest:List Nat}{o:Oper}{f:bK}{args:Array cG}{uz:Array aA}{F:Func}{x:Code}(hold:c.old<=w.heap.size)(ho:ops[i]? =ae o)(hw:bu o (yielded ops a.tmps)=aw)(hb:b.kind=.normal)(hop:o.op=.call {callee:=.value (.func f),args,argTypes:=uz})(hF:P.funcs[f]? =ae F)(iC:(F.name== "runtime.NumGoroutine")=ay)(hx:F.body=ae x)(h:EY P c Post w.heap.size (b.at a (.inRegion ops (i::rest)::k)::cs) w.heap.size (G (fG P f (args.map a.eval) .normal) (b.at a (.inRegion ops (i::rest)::k)::cs)) w):CY P c Post (G (b.at a (.inRegion ops (i::rest)::k)) cs) w:=by
 have jP:F.body.isNone=ay:=by rw[hx];rfl
 intro tp d π gs sl q t Shun B hh hf;refine mm hh.g0 rfl hh.co λtA q' t' y6 d' hs h0 hC=>.inr ?_
 have hgo:stepG P aw (G (b.at a (.inRegion ops (i::rest)::k)) cs) ((dH w tp d).at d')=.go (G (fG P f (args.map a.eval) .normal) (b.at a (.inRegion ops (i::rest)::k)::cs)) (dH w tp d') #[]:=by rw[stepG_enter ho hw (by rw[hb];decide) (run_call_body hop hF iC jP)];congr 1;unfold listed;rw[events_call_body hop hF iC jP];exact seen_none P _
 have hC':=hC.SX (B':=B) (ax _) (es:= #[]) (by simp) (a':=G (fG P f (args.map a.eval) .normal) (b.at a (.inRegion ops (i::rest)::k)::cs)) (G (b.at a (.inRegion ops (i::rest)::k)) cs).frame.fn (G (b.at a (.inRegion ops (i::rest)::k)) cs).frame.place _ (vd P (G (b.at a (.inRegion ops (i::rest)::k)) cs) (G (fG P f (args.map a.eval) .normal) (b.at a (.inRegion ops (i::rest)::k)::cs)) (dH w tp d'));refine⟨_,_,runT_crowd_go (P:=P) (sl:=y6) (i:=0) h0 hgo,h tp d' π _ y6 q' _ Shun B hh.le ⟨hh.sub,hh.hp,hh.Tp,λb hb=>(hh.hp.lt hb).1,λb hb=>cc (hh.co.Vu b hb) hh.le,ax _,hh.le,hC',?_,hh.old,hold,λfr oi=>hf fr (by simpa[G]using oi)⟩⟩;rw[aU (by simpa using hC.pos)]
end
end Rel
namespace Rel
open Go.Conc
section
variable {P:aS} {c:gj} {Post:ao->ah->Prop} {fn:bK} {Q Q':Exit->Act->ah->Prop} {a:Act} {w:ah}
def Bj (hc:c.Fits P){ops:Array Oper}{i:Nat}{rest:List Nat}{o:Oper}(ho:ops[i]? =ae o)(hw:bu o (yielded ops a.tmps)=aw)(rY:qy (c.at fn) o.op=aw){w':ah}(hr: ∀tp d,(execOp a.eval o).run P (dH w tp d)=.ok .skip (dH w' tp d))(h:qQ P c Post fn ops rest Q (a.put o.dst undef) w'):qQ P c Post fn ops (i::rest) Q a w:=by
 intro b k cs hb hk hp hq;refine .step rfl λtp d π s hw0 hv=> ?_
 have ht:=(hv (b.at a (.inRegion ops (i::rest)::k)) (by simp[G])).1;have Nk:cz P c.sig π (dH w tp d) (dH w tp d):=hw0.ag8 tp d;rw[show(b.at a (.inRegion ops (i::rest)::k)).fn=fn from hb]at ht;have cT:=(E6 (hc.at fn) hw0.ok (uE (c:=c.at fn) ht) (zx (c:=c.at fn) ht) o rY).run Nk #[] #[];have LU:(execOp a.eval o).runT P (dH w tp d) #[]=(.ok .skip (dH w' tp d),(execOp a.eval o).events P (dH w tp d) #[]):=by rw[Sem.runT_eq,hr]
 rw[LU]at cT;obtain⟨_,_,h3⟩:=cT;obtain⟨bQ,v',R',ev,e,hR,vm,jY,hd,_,jJ⟩:=h3 λ_ _ _=>rfl
 rw[LU,kU]at hR;simp only[Prod.mk.injEq,Result.ok.injEq]at hR;obtain⟨⟨h1,h2⟩,h3⟩:=hR;subst h1;subst h2;have s':=s.did hd rfl;refine⟨_,_,_,bQ,stepG_none ho hw (by rw[hk];decide) (hr tp d),e,s',jY,λb hb=>(hd.new b b hb).imp id λx=>x.1,hd.size,λx hx=>.inl (jJ x ?_),zD (λfr oi=>(hv fr oi).mono e) _ (.inl (.tuple rfl (by simp))),(h b k cs hb hk hp hq).rt tp d⟩;rw[<-h3];exact kD _ _ x hx
def xk (P:aS)(F:Func)(R:ao->ah->Prop):Exit->Act->ah->Prop:=λe a w=>(e=.normal\/e=.ret)/\a.defers=[]/\ ∃v,(∀tp d,(results F a.tmps).run P (dH w tp d)=.ok v (dH w tp d))/\ ∀tp d,R v (dH w tp d)
def Ir (hc:c.Fits P){x:Code}{F:Func}{R:ao->ah->Prop}(hx:dq (c.at fn) x=aw)(h: ∀tp d,x.wp P (xk P F R) a (dH w tp d)):eT P c Post fn x (AI P F R) a w:=by
 refine yu (Cb hc (Q:=xk P F R) hx (λe a w h=>⟨h.1,h.2.1⟩) (λe a w tp d h=>h) h) λe a w h=> ?_
 obtain⟨he,_,v,hr,hR⟩:=h;rcases he with rfl|rfl
 ·exact⟨v,hr w.tape w.drawn,hR w.tape w.drawn⟩
 ·exact⟨v,hr w.tape w.drawn,hR w.tape w.drawn⟩
def uR (S:Act->ah->Prop):Exit->Act->ah->Prop:=λe a w=>e=.normal/\a.defers=[]/\ ∀tp d,S a (dH w tp d)
def AN (hc:c.Fits P){x:Code}{S:Act->ah->Prop}(hx:dq (c.at fn) x=aw)(h: ∀tp d,x.wp P (uR S) a (dH w tp d))(si: ∀a w,S a w->Q .normal a w):eT P c Post fn x Q a w:=by
 refine yu (Cb hc (Q:=uR S) hx (λe a w h=>⟨.inl h.1,h.2.1⟩) (λe a w tp d h=>h) h) λe a w h=> ?_
 obtain⟨rfl,_,hS⟩:=h;exact si a w (hS w.tape w.drawn)
end
end Rel
namespace Rel
open Go.Conc Go.ConcN
open Go.ConcR (KK WgAt rd wr Payload DC0 stA smA Bk)
section
variable [Payload] {φ:Ph} {Post:ao->ah->Prop} {Goal:au->ah->Prop} {AnchW:(Nat->Prop)->au->ah->Prop} {Shun:Nat->Prop} {gs:Array au} {w:ah} {sl:Option (Nat×Nat)} {t:Trace} {q:Nat->Nat} {a:au}
def QP (O:φ.Ok)(yW: ∀μ g w,AnchW μ g w->g.status=.running)(hAn: ∀μ g w,AnchW μ g w-> ∃m,φ.GP μ (φ.AtW1 μ Goal (AnchW μ)) m g w){B:Nat}(hB:B<=φ.Wg)(h:Co φ.P Shun B gs q t)(LR:φ.lo=gs.size)(Qf: ∀b,φ.oS b->b<w.heap.size/\ ¬Shun b)(aej: ∀b,φ.Std b->b<w.heap.size)(uh: ∀b,φ.CB b->b<w.heap.size/\ ¬Shun b)(hWg:φ.Wg<w.heap.size)(hCh:φ.Ch<w.heap.size)(j2:WgAt φ.ty φ.Wg w 0 0)(vG:φ.RO 0 w)(P': ∀p,p<φ.nj->φ.J0 p w)(ha:gs[0]? =ae a)(hn:0<φ.n)(Pj:φ.Spawns (φ.Fin AnchW) φ.n (λ_=>False) a w)(K: ∀(tA:Array au) (w':ah) (y6:Option (Nat×Nat)) (q':Nat->Nat) (t':Trace) (a':au),tA[0]? =ae a'->a'.status=.running->Goal a' w'->Co φ.P (λb=>Shun b\/b=φ.Wg) w'.heap.size tA q' t'->w.heap.size<=w'.heap.size->(∀p,p<φ.nj-> ∃o:Nat->Prop,(∀b,o b->w.heap.size<=b/\b<w'.heap.size)/\φ.JP o p w')->Ends φ.P Post (crowd tA w' y6) t'):Ends φ.P Post (crowd gs w sl) t:=by obtain⟨m,hI⟩:=Co.enter (Goal:=Goal) (AnchW:=AnchW) (sl:=sl) O hB h LR Qf aej uh hWg hCh j2 vG P' ha hn Pj;obtain⟨N,mc,t',hr,hD⟩:=T2 O (λi op hi=>by rw[LR];exact h.past.gs i op hi) yW hAn hI;have h':Co φ.P Shun w.heap.size gs q t:=h.mono (by omega);obtain⟨tA,w',y6,q',a',rfl,h1,h2,h3,h4,h5,h6⟩:=hD.leave O hn h' LR;exact .runs hr (K tA w' y6 q' t' a' h1 h2 h3 h4 h5 h6)
end
def Gh.xp (γ:Gh)(w:ah):γ.grow w w=γ:=by obtain⟨o,h,v⟩:=γ;unfold Gh.grow;congr 1;funext b;exact propext ⟨λx=>x.elim id λy=>by omega,.inl⟩
def Gh.IM (γ:Gh){w w':ah}(h:w'.heap.size=w.heap.size):γ.grow w w'=γ:=by obtain⟨o,h',v⟩:=γ;unfold Gh.grow;congr 1;funext b;exact propext ⟨λx=>x.elim id λy=>by omega,.inl⟩
section
variable [Payload] {φ:Ph} {γ:Gh} {w:ah}
def Ph.WT.rely (O:φ.Ok){g:au}{az:ah}(h:φ.WT γ g w)(r:φ.e9 γ w az):φ.WT γ g az:=by
 cases h with
 |tail h=>exact .tail (h.rely O r)
 |step g' w' es hr gI k=>exact .step g' w' es hr (λfu uN=>gI fu (r.trans uN)) λfu uN=>k fu (r.trans uN)
 |recv hr gI h1 h2=>exact .recv hr (λfu uN=>gI fu (r.trans uN)) (λfu i uN=>h1 fu i (r.trans uN)) λfu uN=>h2 fu (r.trans uN)
def Uf (φ:Ph)(γ:Gh)(w:ah):φ.CN γ w w #[]:=⟨λ_ _ _ _=>rfl,λ_ _ _=>rfl,λ_ _=>rfl,ax _,rfl,rfl,rfl,by simp⟩
def IP {es:Array Event}(h: ∀e∈es,φ.Acc γ e):φ.CN γ w w es:=⟨λ_ _ _ _=>rfl,λ_ _ _=>rfl,λ_ _=>rfl,ax _,rfl,rfl,rfl,by rw[Gh.xp];exact h⟩
def Ph.WT.ctl (O:φ.Ok){g g':au}(hr:g.status=.running)(gI: ∀w,stepG φ.P ay g w=.go g' w #[])(k:φ.WT γ g' w):φ.WT γ g w:=.step (λ_=>g') id (λ_=> #[]) hr (λaz _=>⟨gI az,Uf φ γ az⟩) λaz h=>by show φ.WT (γ.grow az az) g' az;rw[Gh.xp];exact k.rely O h
variable {b:bp} {a:Act} {k:List Item} {cs:List bp} {ops:Array Oper} {i:Nat} {rest:List Nat} {o:Oper}
def Ph.WT.op (v:ah->ao)(u:ah->ah)(ho:ops[i]? =ae o)(hw:bu o (yielded ops a.tmps)=aw)(hb:b.kind≠ .early)(cT: ∀az,φ.e9 γ w az->(execOp a.eval o).run φ.P az=.ok (.value (v az)) (u az))(hg: ∀az,φ.e9 γ w az->φ.CN γ az (u az) ((execOp a.eval o).events φ.P az #[]))(h: ∀az,φ.e9 γ w az->φ.WT (γ.grow az (u az)) (G (b.at (a.put o.dst (v az)) (.inRegion ops rest::k)) cs) (u az)):φ.WT γ (G (b.at a (.inRegion ops (i::rest)::k)) cs) w:=.step _ u (λaz=>listed φ.P b.fn a o az) rfl (λaz hr=>⟨stepG_value ho hw hb (cT az hr),by have:=hg az hr;exact⟨this.rest,this.cells,this.pay,this.size,this.tape,this.os,this.output,λe he=>this.ev e (kD _ _ e he)⟩⟩) h
def Ph.WT.opN (u:ah->ah)(ho:ops[i]? =ae o)(hw:bu o (yielded ops a.tmps)=aw)(hb:b.kind≠ .early)(cT: ∀az,φ.e9 γ w az->(execOp a.eval o).run φ.P az=.ok .skip (u az))(hg: ∀az,φ.e9 γ w az->φ.CN γ az (u az) ((execOp a.eval o).events φ.P az #[]))(h: ∀az,φ.e9 γ w az->φ.WT (γ.grow az (u az)) (G (b.at (a.put o.dst undef) (.inRegion ops rest::k)) cs) (u az)):φ.WT γ (G (b.at a (.inRegion ops (i::rest)::k)) cs) w:=.step _ u (λaz=>listed φ.P b.fn a o az) rfl (λaz hr=>⟨stepG_none ho hw hb (cT az hr),by have:=hg az hr;exact⟨this.rest,this.cells,this.pay,this.size,this.tape,this.os,this.output,λe he=>this.ev e (kD _ _ e he)⟩⟩) h
def Ph.WT.pure (O:φ.Ok)(v:ao)(ho:ops[i]? =ae o)(hw:bu o (yielded ops a.tmps)=aw)(hb:b.kind≠ .early)(cT: ∀az,φ.e9 γ w az->(execOp a.eval o).run φ.P az=.ok (.value v) az)(hg: ∀az,φ.e9 γ w az-> ∀e∈(execOp a.eval o).events φ.P az #[],φ.Acc γ e)(h:φ.WT γ (G (b.at (a.put o.dst v) (.inRegion ops rest::k)) cs) w):φ.WT γ (G (b.at a (.inRegion ops (i::rest)::k)) cs) w:=.op (λ_=>v) id ho hw hb cT (λaz hr=>IP (hg az hr)) λaz hr=>by show φ.WT (γ.grow az az) _ az;rw[Gh.xp];exact h.rely O hr
def Ph.WT.enter (O:φ.Ok){f:bK}{args:Array ao}(ho:ops[i]? =ae o)(hw:bu o (yielded ops a.tmps)=aw)(hb:b.kind≠ .early)(cT: ∀w,(execOp a.eval o).run φ.P w=.ok (.enter f args) w)(jJ: ∀w,(execOp a.eval o).events φ.P w #[]= #[])(h:φ.WT γ (G (fG φ.P f args .normal) (b.at a (.inRegion ops (i::rest)::k)::cs)) w):φ.WT γ (G (b.at a (.inRegion ops (i::rest)::k)) cs) w:=.ctl O rfl (λw=>by rw[stepG_enter ho hw hb (cT w)];congr 1;unfold listed;rw[jJ];exact seen_none _ _) h
def Ph.WT.leave0 (O:φ.Ok){F:Func}{todo:List Item}{b₀:bp}{a₀:Act}(hn:b.kind=.normal)(hd:a.defers=[])(hf:φ.P.funcs[b.fn]? =ae F)(hr:F.results= #[])(h:φ.WT γ (G (b₀.at (a₀.put ((ops[i]?).bind (·.dst)) (.tuple #[])) (.inRegion ops rest::k)) cs) w):φ.WT γ (G {b.at a todo with mode:=.returning} (b₀.at a₀ (.inRegion ops (i::rest)::k)::cs)) w:=.ctl O rfl (λw=>by rw[stepG_leave hn hd hf (results_none hr _ _ w) (events_results_none hr _ _),nL]) h
structure Kept (φ:Ph) (γ:Gh) (St:Nat->Prop) (w0 w:ah):Prop where
 st: ∀b,St b->w.heap[b]? =w0.heap[b]?
 rd: ∀b,φ.oS b->w.heap[b]? =w0.heap[b]?
 cell: ∀i a,γ.held i->φ.jl i a->w.cell? a=w0.cell? a
 pay: ∀b,φ.CB b->fL w b=fL w0 b
 size:w0.heap.size<=w.heap.size
 live:WgLive φ.ty φ.Wg w0->WgLive φ.ty φ.Wg w
def Kept.refl (φ:Ph)(γ:Gh)(St:Nat->Prop)(w:ah):Kept φ γ St w w:=⟨λ_ _=>rfl,λ_ _=>rfl,λ_ _ _ _=>rfl,λ_ _=>rfl,ax _,id⟩
def Ph.WT.tree (O:φ.Ok){c:gj}(hc:c.Fits φ.P){H:au->ah->Prop}{bot:List bp}{St:Nat->Prop}{w0:ah}(hWg:φ.Wg<w0.heap.size/\ ¬γ.own φ.Wg)(jB: ∀a x,c.mem a=ae x->φ.oS a.block)(K: ∀(gL:au) (L:ah) (g:au) (w:ah) (γ':Gh) (π:Ren),H gL L->GR c [] [] [fN] bot π gL g->cz φ.P c.sig π L w->(∀l r,π l r->γ'.own r)->(∀r,γ.own r->γ'.own r)->γ'.held=γ.held->γ'.over=γ.over->(∀r,γ'.own r->γ.own r\/(w0.heap.size<=r/\r<w.heap.size))->Kept φ γ St w0 w->φ.WT γ' g w): ∀{gL:au} {L:ah},LT φ.P [] H gL L-> ∀(g:au) (w:ah) (γ':Gh) (π:Ren),GR c [] [] [fN] bot π gL g->cz φ.P c.sig π L w->(∀l r,π l r->γ'.own r)->(∀r,γ.own r->γ'.own r)->γ'.held=γ.held->γ'.over=γ.over->(∀r,γ'.own r-> ¬φ.CB r)->(∀r,φ.CB r->r<w.heap.size)->(∀r,φ.oS r->r<w.heap.size/\ ¬γ'.own r)->(∀r,St r->γ'.own r/\r<w.heap.size/\ ∀l,¬π l r)->(∀r,γ'.own r->γ.own r\/(w0.heap.size<=r/\r<w.heap.size))->Kept φ γ St w0 w->φ.WT γ' g w:=by
 intro gL L bJ
 induction bJ with
 |stop hH=>intro g w γ' π hg hw h1 h2 h3 h4 _ _ _ _ Sr h9;exact K _ _ g w γ' π hH hg hw h1 h2 h3 h4 Sr h9
 |step gsL Tt esL hs gI mW ih=>
  rename_i gL L
  intro g w γ' π hg hw h1 h2 h3 h4 h5 h6 h7 h8 Sr h9;have agv: ∀az,φ.e9 γ' w az->cz φ.P c.sig π L az:=λaz r=>⟨hw.ok,λl x hx=>by obtain⟨o,o',e1,e2,e3⟩:=hw.obj l x hx;exact⟨o,o',e1,(r.own x (h1 l x hx)).trans e2,e3⟩,hw.oE,bM hw.uB r.size,λa x hx=>by obtain⟨g1,g2,g3,g4⟩:=hw.old a x hx;exact⟨g1,g2,g3,(nU (r.rd _ (jB a x hx))).trans g4⟩⟩
  have key: ∀az,φ.e9 γ' w az-> ∃gR R2 ev bQ,stepG φ.P ay g az=.go gR R2 ev/\Ext φ.P π bQ/\GR c [] [] [fN] bot bQ (gsL az.tape az.drawn) gR/\cz φ.P c.sig bQ (Tt az.tape az.drawn) R2/\y7 π bQ L az (Tt az.tape az.drawn) R2/\ ∀e∈ev,DN c.sig bQ e:=λaz r=>OG hc hs gI (agv az r) hg ay
  have cT:g.status=.running:=by rw[hg.r]
  classical
  let gf:ah->au:=λaz=>if r:φ.e9 γ' w az then(key az r).choose else g
  let wf:ah->ah:=λaz=>if r:φ.e9 γ' w az then(key az r).choose_spec.choose else w
  let ef:ah->Array Event:=λaz=>if r:φ.e9 γ' w az then(key az r).choose_spec.choose_spec.choose else #[]
  have spec: ∀az,φ.e9 γ' w az-> ∃bQ,stepG φ.P ay g az=.go (gf az) (wf az) (ef az)/\Ext φ.P π bQ/\GR c [] [] [fN] bot bQ (gsL az.tape az.drawn) (gf az)/\cz φ.P c.sig bQ (Tt az.tape az.drawn) (wf az)/\y7 π bQ L az (Tt az.tape az.drawn) (wf az)/\ ∀e∈ef az,DN c.sig bQ e:=by intro az r;have:=(key az r).choose_spec.choose_spec.choose_spec;simp only[gf,wf,ef,dif_pos r];exact this
  have agT: ∀az (r:φ.e9 γ' w az) bQ,y7 π bQ L az (Tt az.tape az.drawn) (wf az)->cz φ.P c.sig bQ (Tt az.tape az.drawn) (wf az)-> ∀l x,bQ l x->(γ'.grow az (wf az)).own x:=by
   intro az r bQ hd jY l x hx;rcases hd.new l x hx with h|⟨_,h,_⟩
   ·exact .inl (h1 l x h)
   ·exact .inr ⟨h,(jY.lt hx).2⟩
  refine .step gf wf ef cT (λaz r=> ?_) λaz r=> ?_
  ·obtain⟨bQ,hgo,e,lN,jY,hd,jJ⟩:=spec az r;refine⟨hgo,λb hb hn uh=>hd.rest b hb λl hl=>hn (h1 l b hl),λad uh _=> ?_,λb uh=> ?_,hd.size,hd.tape,hd.os,hd.output,λe he=> ?_⟩
   ·unfold c8;rw[hd.rest ad.block (cc (h6 _ uh) r.size) λl hl=>h5 _ (h1 l _ hl) uh]
   ·unfold fL;rw[hd.rest b (cc (h6 _ uh) r.size) λl hl=>h5 _ (h1 l _ hl) uh]
   ·have ho:=agT az r bQ hd jY;cases jJ e he with
    |cell wr hb=>exact .inr ⟨rfl,_,rfl,.inl (ho _ _ hb)⟩
    |obj wr hb=>exact .inr ⟨rfl,_,rfl,.inl (ho _ _ hb)⟩
    |room=>exact .inl ⟨_,rfl,.inl rfl⟩
    |ext _=>exact .inl ⟨_,rfl,.inr ⟨_,rfl⟩⟩
    |old hm=>exact .inr ⟨rfl,_,rfl,.inr (.inr ⟨rfl,jB _ _ hm⟩)⟩
  ·obtain⟨bQ,hgo,e,lN,jY,hd,jJ⟩:=spec az r;refine ih az.tape az.drawn (gf az) (wf az) (γ'.grow az (wf az)) bQ lN jY (agT az r bQ hd jY) (λx hx=>.inl (h2 x hx)) h3 h4 (λx hx uh=> ?_) (λx hx=> ?_) (λx hx=>⟨cc (h7 x hx).1 (bM r.size hd.size),λho=> ?_⟩) (λx hx=>⟨.inl (h8 x hx).1,cc (h8 x hx).2.1 (bM r.size hd.size),λl hl=> ?_⟩) (λx hx=> ?_) ⟨λx hx=> ?_,λx hx=> ?_,λp ad hp uK=> ?_,λx hx=> ?_,bM h9.size (bM r.size hd.size),λhl=> ?_⟩
   ·rcases hx with hx|⟨hx,_⟩
    ·exact h5 x hx uh
    ·have:=h6 x uh;have:=r.size;omega
   ·exact cc (h6 x hx) (bM r.size hd.size)
   ·rcases ho with ho|⟨ho,_⟩
    ·exact(h7 x hx).2 ho
    ·have:=(h7 x hx).1;have:=r.size;omega
   ·rcases hd.new l x hl with h|⟨_,h,_⟩
    ·exact(h8 x hx).2.2 l h
    ·have:=(h8 x hx).2.1;have:=r.size;omega
   ·have hz:=h9.size;have hr:=r.size;have hs:=hd.size;rcases hx with hx|⟨h1',h2'⟩
    ·rcases Sr x hx with h|⟨h1',h2'⟩
     ·exact .inl h
     ·exact .inr ⟨h1',by omega⟩
    ·exact .inr ⟨by omega,h2'⟩
   ·exact((hd.rest x (cc (h8 x hx).2.1 r.size) (h8 x hx).2.2).trans (r.own x (h8 x hx).1)).trans (h9.st x hx)
   ·exact((hd.rest x (cc (h7 x hx).1 r.size) λl hl=>(h7 x hx).2 (h1 l x hl)).trans (r.rd x hx)).trans (h9.rd x hx)
   ·have uh:=O.nw p ad uK;have e1:(wf az).cell? ad=az.cell? ad:=by unfold c8;rw[hd.rest ad.block (cc (h6 _ uh) r.size) λl hl=>h5 _ (h1 l _ hl) uh]
    exact(e1.trans (r.cell p ad (h3▸hp) uK)).trans (h9.cell p ad hp uK)
   ·have e1:fL (wf az) x=fL az x:=by unfold fL;rw[hd.rest x (cc (h6 _ hx) r.size) λl hl=>h5 _ (h1 l _ hl) hx]
    exact(e1.trans (r.pay x hx)).trans (h9.pay x hx)
   ·obtain⟨st,sm,SC⟩:=r.live (h9.live hl);refine⟨st,sm,(hd.rest φ.Wg (by have:=h9.size;have:=r.size;omega) λl hl=> ?_).trans SC⟩;rcases Sr _ (h1 l _ hl)with h|⟨h,_⟩
    ·exact hWg.2 h
    ·omega
end
end Rel
namespace Rel
open Go.Conc Go.ConcN
abbrev xa (P:aS)(c:gj)(Post:ao->ah->Prop)(N1:Nat)(cs:List bp)(g:au)(w:ah):Prop:=EY P c Post N1 cs w.heap.size g w
section
variable {P:aS} {c:gj} {Post:ao->ah->Prop} {N1:Nat} {vY cs:List bp} {w w':ah} {b:bp} {a:Act} {k:List Item} {ops:Array Oper} {i:Nat} {rest:List Nat} {o:Oper} {x y:Code} {cd:cG} {id:Nat}
def rj {g g':au}(hr:g.status=.running)(gI: ∀w,stepG P aw g w=.go g' w #[])(h:xa P c Post N1 vY g' w):xa P c Post N1 vY g w:=EY.ctl hr gI (ax _) h
def pR (h:xa P c Post N1 vY (G (b.at a (.code x::.code y::k)) cs) w):xa P c Post N1 vY (G (b.at a (.code (.seq x y)::k)) cs) w:=rj rfl (λ_=>stepG_seq) h
def aa6 (h:xa P c Post N1 vY (G (b.at a k) cs) w):xa P c Post N1 vY (G (b.at a (.code .skip::k)) cs) w:=rj rfl (λ_=>stepG_skip) h
def MN (h:xa P c Post N1 vY (G (b.at a (.code x::.inBlock id::k)) cs) w):xa P c Post N1 vY (G (b.at a (.code (.block id x)::k)) cs) w:=rj rfl (λ_=>stepG_block) h
def P0 (h:xa P c Post N1 vY (G (b.at a k) cs) w):xa P c Post N1 vY (G (b.at a (.inBlock id::k)) cs) w:=rj rfl (λ_=>stepG_inBlock) h
def aa5 (h:xa P c Post N1 vY (G (b.at a (.code x::.inLoop x::k)) cs) w):xa P c Post N1 vY (G (b.at a (.code (.loop x)::k)) cs) w:=rj rfl (λ_=>stepG_loop) h
def T9 (h:xa P c Post N1 vY (G (b.at a (.code x::.inLoop x::k)) cs) w):xa P c Post N1 vY (G (b.at a (.inLoop x::k)) cs) w:=rj rfl (λ_=>stepG_inLoop) h
def lr (h:xa P c Post N1 vY (G (b.at a (.inRegion ops (bP ops.size)::k)) cs) w):xa P c Post N1 vY (G (b.at a (.code (.region id ops ay)::k)) cs) w:=rj rfl (λ_=>stepG_region) h
def uF (h:xa P c Post N1 vY (G (b.at a k) cs) w):xa P c Post N1 vY (G (b.at a (.inRegion ops []::k)) cs) w:=rj rfl (λ_=>stepG_region_end) h
def XR (hc:a.eval cd=.bool aw)(h:xa P c Post N1 vY (G (b.at a (.code x::k)) cs) w):xa P c Post N1 vY (G (b.at a (.code (.cond cd x y)::k)) cs) w:=rj rfl (λ_=>stepG_cond hc) h
def XQ (hc:a.eval cd=.bool ay)(h:xa P c Post N1 vY (G (b.at a (.code y::k)) cs) w):xa P c Post N1 vY (G (b.at a (.code (.cond cd x y)::k)) cs) w:=rj rfl (λ_=>stepG_cond hc) h
def aa4 {k':List Item}(he:exitTo id k=ae k')(h:xa P c Post N1 vY (G (b.at a k') cs) w):xa P c Post N1 vY (G (b.at a (.code (.exit id)::k)) cs) w:=rj rfl (λ_=>stepG_exit he) h
def Iy (v:ao)(ho:ops[i]? =ae o)(hw:bu o (yielded ops a.tmps)=aw)(hb:b.kind≠ .early)(hold: ∀b,b<N1->w'.heap[b]? =w.heap[b]?)(kJ:w.heap.size<=w'.heap.size)(cT: ∀tp d,(execOp a.eval o).run P (dH w tp d)=.ok (.value v) (dH w' tp d))(jJ: ∀tp d,∀e∈(execOp a.eval o).events P (dH w tp d) #[],EvN N1 w'.heap.size e)(h:xa P c Post N1 vY (G (b.at (a.put o.dst v) (.inRegion ops rest::k)) cs) w'):xa P c Post N1 vY (G (b.at a (.inRegion ops (i::rest)::k)) cs) w:=EY.step rfl (λtp d=>⟨_,stepG_value ho hw hb (cT tp d),λe he=>jJ tp d e (kD _ _ e he)⟩) hold kJ kJ (ax _) h
def adR (ho:ops[i]? =ae o)(hw:bu o (yielded ops a.tmps)=aw)(hb:b.kind≠ .early)(hold: ∀b,b<N1->w'.heap[b]? =w.heap[b]?)(kJ:w.heap.size<=w'.heap.size)(cT: ∀tp d,(execOp a.eval o).run P (dH w tp d)=.ok .skip (dH w' tp d))(jJ: ∀tp d,∀e∈(execOp a.eval o).events P (dH w tp d) #[],EvN N1 w'.heap.size e)(h:xa P c Post N1 vY (G (b.at (a.put o.dst undef) (.inRegion ops rest::k)) cs) w'):xa P c Post N1 vY (G (b.at a (.inRegion ops (i::rest)::k)) cs) w:=EY.step rfl (λtp d=>⟨_,stepG_none ho hw hb (cT tp d),λe he=>jJ tp d e (kD _ _ e he)⟩) hold kJ kJ (ax _) h
def oU (v:ao)(ho:ops[i]? =ae o)(hw:bu o (yielded ops a.tmps)=aw)(hb:b.kind≠ .early)(cT: ∀w,(execOp a.eval o).run P w=.ok (.value v) w)(jJ: ∀w,(execOp a.eval o).events P w #[]= #[])(h:xa P c Post N1 vY (G (b.at (a.put o.dst v) (.inRegion ops rest::k)) cs) w):xa P c Post N1 vY (G (b.at a (.inRegion ops (i::rest)::k)) cs) w:=Iy v ho hw hb (λ_ _=>rfl) (ax _) (λ_ _=>cT _) (λtp d e he=>by rw[jJ]at he;simp at he) h
def Eb {B:Nat}{ad:Addr}{wr:Bool}(h1:N1<=ad.block)(h2:ad.block<B):EvN N1 B ⟨.cell ad,wr,ay⟩:=⟨by simp,λx hx=>by rw[ofEvent_cell0]at hx;simp only[sU,dS]at hx;subst hx;exact⟨ad.block,rfl,h1,h2⟩⟩
end
end Rel
namespace Rel
open Go.Conc Go.ConcN
open Go.ConcR (KK WgAt rd wr Payload DC0 stA smA Bk)
def Plain (S:jK)(v:ao):Prop:=BS S v/\ ∀π v',bx S π v v'->v'=v
def E1 {S:jK}(xs:Array ao)(h: ∀x∈xs,∃k n,x=.int k n):Plain S (.agg xs):=by
 refine⟨λπ=>.agg rfl λi a b ha hb=> ?_,λπ v' hv=> ?_⟩
 ·rw[ha]at hb;obtain rfl:=be hb;obtain⟨k,n,rfl⟩:=h a (ug ha);exact .int k n
 ·cases hv with
  |agg s hh=>
   rename_i x'
   congr 1;refine vS s.symm λi a b ha hb=> ?_
   have:=hh i b a hb ha;obtain⟨k,n,rfl⟩:=h b (ug hb);cases this
   rfl
section
variable [Payload] {φ:Ph} {γ:Gh} {w:ah} {b:bp} {a:Act} {k:List Item} {cs:List bp} {ops:Array Oper} {i:Nat} {rest:List Nat} {o:Oper}
end
end Rel
namespace Rel
open Go.Conc Go.ConcN
section
variable {P:aS} {c:gj} {Post:ao->ah->Prop} {N1 Bm:Nat} {cs:List bp} {w:ah}
def adS {g:au}(oi: ∀π,(∀fr∈cs,DR c π fr)-> ∀fr∈g.frame::g.callers,DR c π fr)(k:CY P c Post g w):EY P c Post N1 cs Bm g w:=by intro tp d π gs sl q t Shun B hB h;exact k tp d π gs sl q t Shun B ⟨h.sub,h.hp,h.Tp,h.le,h.co,h.g0,h.old⟩ (oi π h.fr)
def grow (π:Ren)(V:Nat->Prop):Ren:=λl r=>l=r/\(π l r\/V l)
def only (V:Nat->Prop):Ren:=λl r=>l=r/\V l
def Yb (π:Ren)(V:Nat->Prop):Sub (grow π V):=λ_ _ h=>h.1
def Kq {π:Ren}{V:Nat->Prop}:Ren.Ok P (grow π V):=⟨λ_ _ _ h k=>h.1.symm.trans k.1,λ_ _ _ h k=>h.1.trans k.1.symm,λ_ _ h=>by rw[h.1]⟩
def MZ {π:Ren}{V:Nat->Prop}(s:Sub π):Ext P π (grow π V):=⟨λ_ _ h=>⟨s _ _ h,.inl h⟩,Kq⟩
def Zl {π:Ren}{V:Nat->Prop}:Ext P (only V) (grow π V):=⟨λ_ _ h=>⟨h.1,.inr h.2⟩,Kq⟩
def cz.grown {S:jK}{π:Ren}{V CB:Nat->Prop}{w w':ah}(s:Sub π)(h:cz P S π w w)(kJ:w.heap.size<=w'.heap.size)(hk: ∀b,π b b-> ¬CB b->w'.heap[b]? =w.heap[b]?)(hV: ∀b,CB b\/V b-> ∃o,w'.heap[b]? =ae o/\kV S (only V) o o)(ho: ∀a x,S.mem a=ae x-> ¬V a.block/\w'.heap[a.block]? =w.heap[a.block]?):cz P S (grow π V) w' w':=by
 refine⟨Kq,λl r x=> ?_,bM h.oE kJ,bM h.oE kJ,λa x hx=> ?_⟩
 rotate_left
 ·obtain⟨g1,g2,g3,g4⟩:=h.old a x hx;obtain⟨v1,v2⟩:=ho a x hx;refine⟨λr hr=> ?_,λl hl=> ?_,(nU v2).trans g3,(nU v2).trans g4⟩
  ·obtain⟨rfl,hr⟩:=hr;exact hr.elim (g1 _) v1
  ·obtain⟨rfl,hr⟩:=hl;exact hr.elim (g1 _) v1
 obtain⟨rfl,hx⟩:=x;by_cases hc:CB l\/V l
 ·obtain⟨o,h1,h2⟩:=hV l hc;exact⟨o,o,h1,h1,h2.mono (P:=P) Zl⟩
 ·have hb:π l l:=hx.resolve_right λh=>hc (.inr h)
  obtain⟨o,o',h1,h2,h3⟩:=h.obj _ _ hb;have e:=hk l hb λh=>hc (.inl h)
  exact⟨o,o',e.trans h1,e.trans h2,h3.mono (MZ (P:=P) s)⟩
end
end Rel
namespace Rel
open Go.Conc
section
variable {c d:gj}
def KR (h1:c.fn=d.fn)(h2:c.int=d.int)(h3:c.bad=d.bad)(h4:c.kc=d.kc)(h5:c.bd=d.bd)(h6:c.kd=d.kd)(h7:c.elem=d.elem)(h8:c.ext=d.ext):kp c=kp d:=by
 have hd:eC c=eC d:=funext λo=>by cases o<;>simp[eC,h1,h3]
 have ha:vp c=vp d:=funext λf=>funext λj=>funext λx=>by unfold vp;rw[hd,h3,h4,h5,h6]
 have hs: ∀f l j,lF c f j l=lF d f j l:=λf l=>by
  induction l with
  |nil=>intro j;rfl
  |cons x l ih=>intro j;unfold lF;rw[ih,ha]
 have hk:pS c=pS d:=funext λk=>by unfold pS;rw[hd,h1,h8];simp only[hs]
 have ho:qy c=qy d:=funext λo=>by unfold qy;rw[hd,hk,h1,h2]
 have ah0:D' c=D' d:=funext λo=>funext λk=>by unfold D';rw[h3,h4]
 have hr:C6 c=C6 d:=funext λo=>by unfold C6;rw[hd,h3,h4,h7,ah0]
 exact funext λo=>by unfold kp;rw[ho,hr]
def KQ (h1:c.fn=d.fn)(h2:c.int=d.int)(h3:c.bad=d.bad)(h4:c.kc=d.kc)(h5:c.bd=d.bd)(h6:c.kd=d.kd)(h7:c.elem=d.elem)(h8:c.ext=d.ext): ∀x:Code,dq c x=dq d x:=by
 have hd:eC c=eC d:=funext λo=>by cases o<;>simp[eC,h1,h3]
 have ho:=KR h1 h2 h3 h4 h5 h6 h7 h8;intro x
 induction x with
 |region id ops d=>simp only[dq,ho]
 |seq a b Nr Ns=>simp only[dq,Nr,Ns]
 |cond o a b Nr Ns=>simp only[dq,Nr,Ns,hd]
 |block i b ih=>simp only[dq,ih]
 |loop b ih=>simp only[dq,ih]
 |scope b ih=>simp only[dq,ih]
 |rangeFunc f p a b Nr Ns=>simp only[dq,Nr,Ns,hd,h3]
 |_=>rfl
def NP (hc:c.bad=[])(hd:eC c=eC d)(hb:d.bad=[])(f:bK): ∀(l:List cG) (j:Nat),lF c f j l=lF d f j l:=by
 intro l
 induction l with
 |nil=>intro j;rfl
 |cons x l ih=>intro j;unfold lF;rw[ih];congr 1;unfold vp;rw[hd];cases x<;>simp[hc,hb]
def Cu (hc:c.bad=[])(hb:d.bad=[])(h1:c.fn=d.fn)(h2:c.int=d.int)(h8:c.ext=d.ext): ∀x:Code,dq c x=dq d x:=by
 have hd:eC c=eC d:=funext λo=>by cases o<;>simp[eC,h1,hc,hb]
 have hs:=NP hc hd hb;have hk:pS c=pS d:=funext λk=>by unfold pS;rw[hd,h1,h8];simp only[hs]
 have ho:kp c=kp d:=funext λo=>by unfold kp;rw[z7 hc,z7 hb];congr 1;unfold qy;rw[hd,hk,h1,h2]
 intro x
 induction x with
 |region id ops d=>simp only[dq,ho]
 |seq a b Nr Ns=>simp only[dq,Nr,Ns]
 |cond o a b Nr Ns=>simp only[dq,Nr,Ns,hd]
 |block i b ih=>simp only[dq,ih]
 |loop b ih=>simp only[dq,ih]
 |scope b ih=>simp only[dq,ih]
 |rangeFunc f p a b Nr Ns=>simp only[dq,Nr,Ns,hd,hc,hb]
 |_=>rfl
end
section
variable {S S':jK} {π:Ren}
def V0.sig (h: ∀f,S.fn f->S'.fn f): ∀{a b:Fn},V0 S π a b->V0 S' π a b
 |_,_,.func s=>.func (h _ s)
 |_,_,.yield x=>.yield x
def bx.sig (h: ∀f,S.fn f->S'.fn f){v v':ao}(x:bx S π v v'):bx S' π v v':=by
 induction x with
 |bool=>exact .bool _
 |int=>exact .int _ _
 |string=>exact .string _
 |fR=>exact .fR
 |pointer x=>exact .pointer x
 |kE=>exact .kE _ _
 |slice l c x=>exact .slice _ _ x
 |yD=>exact .yD
 |map x=>exact .map x
 |vW=>exact .vW
 |func f s1 _ s2 _ i1 i2=>exact .func (f.sig h) s1 i1 s2 i2
 |nilFunc=>exact .nilFunc
 |iface t _ i=>exact .iface _ i
 |nilIface=>exact .nilIface
 |agg s _ i=>exact .agg s i
 |tuple s _ i=>exact .tuple s i
def kV.sig (h: ∀f,S.fn f->S'.fn f)(hk: ∀x,S.code x->S'.code x): ∀{o o':Obj},kV S π o o'->kV S' π o o'
 |_,_,.loop x=>.loop ⟨x.state,x.pending,λc hc=>hk _ (x.okP c hc),x.fn,je.mono x.tmps λ_ _ y=>bx.sig h y,x.params,x.assign,hk _ x.okA,x.body,hk _ x.okB,x.defers⟩
 |_,_,.number l x=>.number l x
 |_,_,.deferred b=>.deferred b
 |_,_,.cells t fr x=>.cells t fr (je.mono x λ_ _ y=>bx.sig h y)
 |_,_,.map k x=>.map k ⟨x.size,λi a b ha hb=>⟨(x.at_ i a b ha hb).key.sig h,(x.at_ i a b ha hb).val.sig h,(x.at_ i a b ha hb).born⟩⟩
 |_,_,.stringIter s p=>.stringIter s p
 |_,_,.mapIter a b c x=>.mapIter a b c x
end
end Rel
namespace Rel
open Go.Conc Go.ConcN Go.RowKit Go.Conc.Lib
open Go.ConcR (KK WgAt rd wr mk Payload DC0 stA smA wgBlock Aside2)
section
variable [Payload] {φ:Ph} {μ:Nat->Prop} {Stop:au->ah->Prop} {m:Nat} {w:ah}
def Zg {φ:Ph}{μ:Nat->Prop}: ∀x y z,φ.MR μ x y->φ.MR μ y z->φ.MR μ x z:=λ_ _ _ h k=>h.trans k
def zr {w:ah}{es:Array Event}(h: ∀e∈es,False):φ.DM μ w w es:=⟨rfl,λe he=>(h e he).elim⟩
def XG (φ:Ph)(μ:Nat->Prop)(w:ah):φ.DM μ w w #[]:=zr (by simp)
def R9 {w:ah}{m:Mark}(a:Addr)(h:a.block=φ.Wg)(hm:m=.read a\/m=.write a):φ.DM μ w w #[⟨.mark m,ay,aw⟩]:=⟨rfl,λe he=>by rw[Array.mem_singleton]at he;subst he;exact .inr (.inl ⟨a,h,hm.imp (by rintro rfl;rfl) (by rintro rfl;rfl)⟩)⟩
def hU {F:ah->Prop}(xW: ∀w w',φ.MR μ w w'->F w->F w'){w az:ah}(h:F w/\WgLive φ.ty φ.Wg w)(r:φ.MR μ w az):F az/\WgLive φ.ty φ.Wg az:=⟨xW _ _ r h.1,r.live h.2⟩
def Dk {g:au}(hr:g.status=.running){g':au}(gI: ∀w,∀K:au->ah->Array Event->Prop,K g' w #[]->(stepG φ.P aw g w).goes K)(k:φ.GP μ Stop m g' w):φ.GP μ Stop (m+1) g w:=Goes.step hr λaz dp=>gI az _ ⟨XG φ μ _,Goes.rely Zg k dp⟩
def mL {g g':au}(hr:g.status=.running)(gI: ∀w,stepG φ.P aw g w=.go g' w #[])(k:φ.GP μ Stop m g' w):φ.GP μ Stop (m+1) g w:=Dk hr (λw K hK=>by rw[gI w];exact hK) k
section
variable {b:bp} {a:Act} {k:List Item} {cs:List bp} {ops:Array Oper} {i:Nat} {rest:List Nat} {o:Oper}
def cH {x y:Code}(h:φ.GP μ Stop m (G (b.at a (.code x::.code y::k)) cs) w):φ.GP μ Stop (m+1) (G (b.at a (.code (.seq x y)::k)) cs) w:=mL rfl (λ_=>stepG_seq) h
def kW (h:φ.GP μ Stop m (G (b.at a k) cs) w):φ.GP μ Stop (m+1) (G (b.at a (.code .skip::k)) cs) w:=mL rfl (λ_=>stepG_skip) h
def zF {id:Nat}{c:Code}(h:φ.GP μ Stop m (G (b.at a (.code c::.inBlock id::k)) cs) w):φ.GP μ Stop (m+1) (G (b.at a (.code (.block id c)::k)) cs) w:=mL rfl (λ_=>stepG_block) h
def Ek {id:Nat}(h:φ.GP μ Stop m (G (b.at a k) cs) w):φ.GP μ Stop (m+1) (G (b.at a (.inBlock id::k)) cs) w:=mL rfl (λ_=>stepG_inBlock) h
def Sm {c:Code}(h:φ.GP μ Stop m (G (b.at a (.code c::.inLoop c::k)) cs) w):φ.GP μ Stop (m+1) (G (b.at a (.code (.loop c)::k)) cs) w:=mL rfl (λ_=>stepG_loop) h
def IL {c:Code}(h:φ.GP μ Stop m (G (b.at a (.code c::.inLoop c::k)) cs) w):φ.GP μ Stop (m+1) (G (b.at a (.inLoop c::k)) cs) w:=mL rfl (λ_=>stepG_inLoop) h
def AU {id:Nat}{ops:Array Oper}{l:List Nat}(hl:bP ops.size=l)(h:φ.GP μ Stop m (G (b.at a (.inRegion ops l::k)) cs) w):φ.GP μ Stop (m+1) (G (b.at a (.code (.region id ops ay)::k)) cs) w:=by subst hl;exact mL rfl (λ_=>stepG_region) h
def bw {id:Nat}{ops:Array Oper}{l:List Nat}(h:φ.GP μ Stop m (G (b.at a (.inRegion ops l::k)) cs) w)(hl:bP ops.size=l:=by simp only[aV,aD,aP,Nat.reduceAdd,bS,bP,cu];rfl):φ.GP μ Stop (m+1) (G (b.at a (.code (.region id ops ay)::k)) cs) w:=AU hl h
def dg {ops:Array Oper}(h:φ.GP μ Stop m (G (b.at a k) cs) w):φ.GP μ Stop (m+1) (G (b.at a (.inRegion ops []::k)) cs) w:=mL rfl (λ_=>stepG_region_end) h
def Sk {c:cG}{x y:Code}(t:Bool)(hc:a.eval c=.bool t)(h:φ.GP μ Stop m (G (b.at a (.code (if t then x else y)::k)) cs) w):φ.GP μ Stop (m+1) (G (b.at a (.code (.cond c x y)::k)) cs) w:=mL rfl (λ_=>stepG_cond hc) h
def la {c:cG}{x y:Code}(hc:a.eval c=.bool aw)(h:φ.GP μ Stop m (G (b.at a (.code x::k)) cs) w):φ.GP μ Stop (m+1) (G (b.at a (.code (.cond c x y)::k)) cs) w:=Sk aw hc h
def jm {c:cG}{x y:Code}(hc:a.eval c=.bool ay)(h:φ.GP μ Stop m (G (b.at a (.code y::k)) cs) w):φ.GP μ Stop (m+1) (G (b.at a (.code (.cond c x y)::k)) cs) w:=Sk ay hc h
def Sl {id:Nat}{k':List Item}(he:exitTo id k=ae k')(h:φ.GP μ Stop m (G (b.at a k') cs) w):φ.GP μ Stop (m+1) (G (b.at a (.code (.exit id)::k)) cs) w:=mL rfl (λ_=>stepG_exit he) h
def rp (h:φ.GP μ Stop m (G {b.at a (.code .ret::k)with mode:=.returning} cs) w):φ.GP μ Stop (m+1) (G (b.at a (.code .ret::k)) cs) w:=mL rfl (λ_=>stepG_ret') h
def abf (h:φ.GP μ Stop m (G {b.at a []with mode:=.returning} cs) w):φ.GP μ Stop (m+1) (G (b.at a []) cs) w:=mL rfl (λ_=>stepG_end) h
def iX (ho:ops[i]? =ae o)(hw:bu o (yielded ops a.tmps)=ay)(h:φ.GP μ Stop m (G (b.at (a.put o.dst undef) (.inRegion ops rest::k)) cs) w):φ.GP μ Stop (m+1) (G (b.at a (.inRegion ops (i::rest)::k)) cs) w:=mL rfl (λ_=>stepG_unwanted ho hw) h
def El (v:ao)(ho:ops[i]? =ae o)(hw:bu o (yielded ops a.tmps)=aw)(hb:b.kind≠ .early)(cT: ∀az,φ.MR μ w az->(execOp a.eval o).run φ.P az=.ok (.value v) az)(jJ: ∀az,φ.MR μ w az->(execOp a.eval o).events φ.P az #[]= #[])(h:φ.GP μ Stop m (G (b.at (a.put o.dst v) (.inRegion ops rest::k)) cs) w):φ.GP μ Stop (m+1) (G (b.at a (.inRegion ops (i::rest)::k)) cs) w:=Goes.step rfl λaz dp=>by rw[stepG_value ho hw hb (cT az dp)];refine⟨?_,Goes.rely Zg h dp⟩;unfold listed;rw[jJ az dp,seen_none];exact XG φ μ _
def aO (v:ao)(h:φ.GP μ Stop m (G (b.at (a.put o.dst v) (.inRegion ops rest::k)) cs) w)(ho:ops[i]? =ae o:=by rfl)(hw:bu o (yielded ops a.tmps)=aw:=by rfl)(hb:b.kind≠ .early:=by k_ne)(cT: ∀az,φ.MR μ w az->(execOp a.eval o).run φ.P az=.ok (.value v) az:=by intro _ _;go_simp<;>rfl)(jJ: ∀az,φ.MR μ w az->(execOp a.eval o).events φ.P az #[]= #[]:=by intro _ _;simp[go_sem, *]):φ.GP μ Stop (m+1) (G (b.at a (.inRegion ops (i::rest)::k)) cs) w:=El v ho hw hb cT jJ h
def abg (v:ao)(ho:ops[i]? =ae o)(hw:bu o (yielded ops a.tmps)=aw)(hb:b.kind≠ .early)(cT: ∀az,φ.MR μ w az->(execOp a.eval o).run φ.P az=.ok (.value v) az)(jJ: ∀az,φ.MR μ w az-> ∀e∈(execOp a.eval o).events φ.P az #[],φ.EvM μ e)(h:φ.GP μ Stop m (G (b.at (a.put o.dst v) (.inRegion ops rest::k)) cs) w):φ.GP μ Stop (m+1) (G (b.at a (.inRegion ops (i::rest)::k)) cs) w:=Goes.step rfl λaz dp=>by rw[stepG_value ho hw hb (cT az dp)];exact⟨⟨rfl,λe he=>jJ az dp e (kD _ _ e he)⟩,Goes.rely Zg h dp⟩
def X6 {f:bK}{aS0:Array cG}{uz:Array aA}(ho:ops[i]? =ae o)(hw:bu o (yielded ops a.tmps)=aw)(hk:b.kind≠ .early)(hop:o.op=.defer {callee:=.value (.func f),args:=aS0,argTypes:=uz})(h:φ.GP μ Stop m (G (b.at (Act.put ⟨a.tmps,dcall f (aS0.map a.eval)::a.defers⟩ o.dst undef) (.inRegion ops rest::k)) cs) w):φ.GP μ Stop (m+1) (G (b.at a (.inRegion ops (i::rest)::k)) cs) w:=mL rfl (λ_=>stepG_defer ho hw hk hop) h
def qv {f:bK}{fn:Func}{c:Code}{args:Array cG}{uz:Array aA}(ho:ops[i]? =ae o)(hw:bu o (yielded ops a.tmps)=aw)(hk:b.kind≠ .early)(hop:o.op=.call {callee:=.value (.func f),args,argTypes:=uz})(hf:φ.P.funcs[f]? =ae fn)(iC:(fn.name== "runtime.NumGoroutine")=ay)(hb:fn.body=ae c)(h:φ.GP μ Stop m (G ((base f).at {tmps:=args.map a.eval++eG (fn.ntmps-(args.map a.eval).size) undef,defers:=[]} [.code c]) (b.at a (.inRegion ops (i::rest)::k)::cs)) w):φ.GP μ Stop (m+1) (G (b.at a (.inRegion ops (i::rest)::k)) cs) w:=Dk rfl (λ_ _ hK=>goes_call ho hw hk hop hf iC hb hK) h
variable {fn:Func} {todo:List Item} {b₀:bp} {a₀:Act}
def tz (hn:b.kind=.normal)(hd:a.defers=[])(hf:φ.P.funcs[b.fn]? =ae fn)(hr:fn.results= #[])(h:φ.GP μ Stop m (G (b₀.at (a₀.put ((ops[i]?).bind (·.dst)) (.tuple #[])) (.inRegion ops rest::k)) cs) w):φ.GP μ Stop (m+1) (G {b.at a todo with mode:=.returning} (b₀.at a₀ (.inRegion ops (i::rest)::k)::cs)) w:=Dk rfl (λ_ _ hK=>goes_leave0 hn hd hf hr hK) h
def nG {t:Tmp}(hn:b.kind=.normal)(hd:a.defers=[])(hf:φ.P.funcs[b.fn]? =ae fn)(hr:fn.results= #[.tmp t])(h:φ.GP μ Stop m (G (b₀.at (a₀.put ((ops[i]?).bind (·.dst)) (a.tmps.getD t undef)) (.inRegion ops rest::k)) cs) w):φ.GP μ Stop (m+1) (G {b.at a todo with mode:=.returning} (b₀.at a₀ (.inRegion ops (i::rest)::k)::cs)) w:=Dk rfl (λ_ _ hK=>goes_leave1 hn hd hf hr hK) h
end
end
end Rel
namespace Rel
open Go.Conc Go.ConcN Go.RowKit Go.Conc.Lib Go.ConcR.Gen Go.ConcN.Gen
open Go.ConcR (KK WgAt rd wr mk Payload DC0 stA smA wgBlock Aside2)
section
variable [Payload] {φ:Ph} {L:WgLink} {μ:Nat->Prop}
def aaP {F:ah->Prop}{Next:(Nat->Prop)->au->ah->Prop}{b₀:bp}{a₀:Act}{ops₀:Array Oper}{i₀:Nat}{rest₀:List Nat}{k₀:List Item}{cs:List bp}{mT:Nat}(H:WgLib φ.P L)(Hk:φ.ty=L.tWg)(xW: ∀w w',φ.MR μ w w'->F w->F w')(hF3: ∀w v,F w->F (w.setCell (stA φ.Wg) v))(hT: ∀w,F w->WgLive φ.ty φ.Wg w->φ.GP μ (φ.AtGoS Next μ) mT (G (b₀.at (a₀.put ((ops₀[i₀]?).bind (·.dst)) (.tuple #[])) (.inRegion ops₀ rest₀::k₀)) cs) w)(w:ah)(hF:F w/\WgLive φ.ty φ.Wg w):φ.GP μ (φ.AtKdS Next μ) 100 (G ((base L.add).at ⟨#[.pointer (ae ⟨φ.Wg,0,ai⟩),.int .i64 1]++eG 115 undef,[]⟩ [.code (body_add L)]) (b₀.at a₀ (.inRegion ops₀ (i₀::rest₀)::k₀)::cs)) w:=by
 lib_facts
 simp only[body_add,addFn,bT,dD,dE,ez,dT,cy,dF];refine cH ?_;refine la (by first|rfl|(simp[bX];done)|(simp[bX];omega)) ?_;refine cH ?_;refine cH ?_;refine bw ?_;refine aO _ ?_;walk_nrm
 try w_num
 refine aO _ ?_;walk_nrm
 try w_num
 refine dg ?_;refine jm (by first|rfl|(simp[bX];done)|(simp[bX];omega)) ?_;refine kW ?_;refine cH ?_;refine bw ?_;refine Goes.stop (λaz dp=> ?_)
 replace hF:=hU xW hF dp
 clear dp;refine⟨rfl,_,stepG_mark0 .disable (by simp) rfl rfl (by k_ne) rfl H.f_disable (x_disable_n L) (x_disable_b L) (x_disable_x L) (x_disable_f L),100,?_⟩;walk_nrm;refine dg ?_;refine bw ?_;refine X6 rfl rfl (by k_ne) rfl ?_;walk_nrm;refine dg ?_;refine cH ?_;refine bw ?_;refine aO _ ?_;walk_nrm
 try w_num
 refine dg ?_;refine cH ?_;refine cH ?_;refine bw ?_;refine mL rfl (λ_=>stepG_entry_pure (.bool ay) rfl rfl (by k_ne) rfl H.f_inBubble (x_inBubble_n L) (x_inBubble_b L) (x_inBubble_x L) (x_inBubble_f L)) ?_;walk_nrm;refine dg ?_;refine jm (by first|rfl|(simp[bX];done)|(simp[bX];omega)) ?_;refine kW ?_;refine cH ?_;refine bw ?_;refine aO _ ?_;walk_nrm
 try w_num
 refine aO _ ?_;walk_nrm
 try w_num
 refine aO _ ?_;walk_nrm
 try w_num
 refine aO _ ?_;walk_nrm
 try w_num
 refine aO _ ?_;walk_nrm
 try w_num
 refine aO _ ?_;walk_nrm
 try w_num
 refine qv rfl rfl (by k_ne) rfl H.f_uAdd (nm_uAdd L) rfl ?_
 walk_nrmf uAddFn
 refine cH ?_;refine bw ?_;refine aO _ ?_;walk_nrm
 try w_num
 refine dg ?_;refine cH ?_;refine bw ?_;refine aO _ ?_;walk_nrm
 try w_num
 refine aO _ ?_;walk_nrm
 try w_num
 refine aO _ ?_;walk_nrm
 try w_num
 refine aO _ ?_;walk_nrm
 try w_num
 refine Goes.stop (λfu uN=> ?_)
 replace hF:=hU xW hF uN
 clear uN;refine⟨rfl,λv hv hw=> ?_⟩;obtain⟨V,hV⟩: ∃V:Int,V=(v:Int)+1:=⟨_,rfl⟩;obtain⟨S,hS⟩: ∃S:Int,S=V *KK:=⟨_,rfl⟩;have eS:IntKind.u64.wrap ((v:Int) *KK+4294967296)=S:=by rw[IntKind.wrap_u64,hS,hV];simp only[KK];omega
 rw[<-hV,<-hS];rw[Hk]at hw;refine⟨_,(stepG_add_atomic rfl rfl (by k_ne) rfl H.f_addU64 (x_addU64_n L) (x_addU64_b L) (x_addU64_x L) .u64 (x_addU64_f L) rfl rfl hw.cellSt (hw.thaw 0)).trans (by rw[eS];rfl),?_⟩
 replace hF:F (fu.setCell (stA φ.Wg) (.int .u64 S))/\WgLive φ.ty φ.Wg (fu.setCell (stA φ.Wg) (.int .u64 S)):=⟨hF3 _ _ hF.1,⟨_,_,by rw[Hk];exact hw.setSt _⟩⟩
 rcases lQ v with rfl|hvp
 ·
  have hS1:S=4294967296:=by rw[hS,hV];simp[KK]
  subst hS1;clear hw hS hV eS;refine⟨200,?_⟩;walk_nrm;refine aO _ ?_;walk_nrm
  try w_num
  refine dg ?_;refine rp ?_;refine nG rfl rfl H.f_uAdd rfl ?_;walk_nrm;refine aO _ ?_;walk_nrm
  try w_num
  refine dg ?_;refine cH ?_;refine cH ?_;refine bw ?_;refine aO _ ?_;walk_nrm
  try w_num
  refine aO _ ?_;walk_nrm
  try w_num
  refine aO _ ?_;walk_nrm
  try w_num
  refine aO _ ?_;walk_nrm
  try w_num
  refine iX rfl rfl ?_;walk_nrm;refine iX rfl rfl ?_;walk_nrm;refine aO _ ?_;walk_nrm
  try w_num
  refine dg ?_;refine jm (by first|rfl|(simp[bX];done)|(simp[bX];omega)) ?_;refine kW ?_;refine cH ?_;refine bw ?_;refine aO _ ?_;walk_nrm
  try w_num
  refine aO _ ?_;walk_nrm
  try w_num
  refine aO _ ?_;walk_nrm
  try w_num
  refine aO _ ?_;walk_nrm
  try w_num
  refine dg ?_;refine cH ?_;refine bw ?_;refine aO _ ?_;walk_nrm
  try w_num
  refine aO _ ?_;walk_nrm
  try w_num
  refine aO _ ?_;walk_nrm
  try w_num
  refine aO _ ?_;walk_nrm
  try w_num
  refine dg ?_;refine cH ?_;refine cH ?_;refine bw ?_;refine aO _ ?_;walk_nrm
  try w_num
  refine aO _ ?_;walk_nrm
  try w_num
  refine aO _ ?_;walk_nrm
  try w_num
  refine aO _ ?_;walk_nrm
  try w_num
  refine aO _ ?_;walk_nrm
  try w_num
  refine aO _ ?_;walk_nrm
  try w_num
  refine aO _ ?_;walk_nrm
  try w_num
  refine aO _ ?_;walk_nrm
  try w_num
  refine aO _ ?_;walk_nrm
  try w_num
  refine aO _ ?_;walk_nrm
  try w_num
  refine dg ?_;refine la (by first|rfl|(simp[bX];done)|(simp[bX];omega)) ?_;refine bw ?_;refine aO _ ?_;walk_nrm
  try w_num
  refine aO _ ?_;walk_nrm
  try w_num
  refine aO _ ?_;walk_nrm
  try w_num
  refine Goes.step rfl (λaha Np=> ?_)
  replace hF:=hU xW hF Np
  clear Np;have kP:=(WgLive.cell1 (ty:=L.tWg) (Hk▸hF.2)).choose_spec;have cT:=run_convert_to_unsafe (P:=φ.P) H.underlying_tPU32 H.underlying_tUP H.room_tU32 kP;have Ev:=λes=>events_convert_to_unsafe (P:=φ.P) H.underlying_tPU32 H.underlying_tUP H.room_tU32 kP es
  refine goes_oper_k rfl rfl (by k_ne) (λKx Yg=> ?_);go_simp;refine Yg _ _ ⟨zr λe he=>by have hm:=mem_listed he;simp[go_sem,Ev]at hm,?_⟩;clear Yg Kx cT Ev kP;refine Goes.step rfl (λahb Nq=> ?_)
  replace hF:=hU xW hF Nq
  clear Nq;rw[stepG_markAt .read (by simp) rfl rfl (by k_ne) rfl H.f_raceRead (x_raceRead_n L) (x_raceRead_b L) (x_raceRead_x L) (x_raceRead_f L) (ad:=⟨φ.Wg,1,ai⟩) (by simp[bX])];simp only[goes_go];refine⟨R9 _ rfl (.inl rfl),?_⟩;walk_nrm;refine dg ?_;refine cH ?_;refine cH ?_;refine bw ?_;refine aO _ ?_;walk_nrm
  try w_num
  refine aO _ ?_;walk_nrm
  try w_num
  refine dg ?_;refine jm (by first|rfl|(simp[bX];done)|(simp[bX];omega)) ?_;refine kW ?_;refine cH ?_;refine cH ?_;refine bw ?_;refine aO _ ?_;walk_nrm
  try w_num
  refine aO _ ?_;walk_nrm
  try w_num
  refine aO _ ?_;walk_nrm
  try w_num
  refine iX rfl rfl ?_;walk_nrm;refine iX rfl rfl ?_;walk_nrm;refine aO _ ?_;walk_nrm
  try w_num
  refine aO _ ?_;walk_nrm
  try w_num
  refine iX rfl rfl ?_;walk_nrm;refine iX rfl rfl ?_;walk_nrm;refine iX rfl rfl ?_;walk_nrm;refine iX rfl rfl ?_;walk_nrm;refine aO _ ?_;walk_nrm
  try w_num
  refine dg ?_;refine jm (by first|rfl|(simp[bX];done)|(simp[bX];omega)) ?_;refine kW ?_;refine cH ?_;refine cH ?_;refine bw ?_;refine aO _ ?_;walk_nrm
  try w_num
  refine aO _ ?_;walk_nrm
  try w_num
  refine aO _ ?_;walk_nrm
  try w_num
  refine iX rfl rfl ?_;walk_nrm;refine iX rfl rfl ?_;walk_nrm;refine aO _ ?_;walk_nrm
  try w_num
  refine dg ?_;refine la (by first|rfl|(simp[bX];done)|(simp[bX];omega)) ?_;refine rp ?_;refine Goes.stop (λae4 Hm=> ?_)
  replace hF:=hU xW hF Hm
  clear Hm;refine⟨rfl,_,stepG_unwind_entry (v:=.tuple #[]) (evs:= #[iJ .enable]) rfl H.f_enable (x_enable_n L) (x_enable_b L) (x_enable_x L) (x_enable_f L) (by simp[Extern.Race.none_]) (by simp[iJ]) (by simp[iJ]),mT+1,?_⟩;refine tz rfl rfl H.f_add rfl ?_;exact hT _ hF.1 hF.2
 ·
  have a1:S / 4294967296=V:=by rw[hS];simp only[KK];omega
  have b1:bits .and .u64 S 2147483648=0:=by rw[hS,hV];have:=st_flag (v+1) 0 (by omega) (by omega);simpa[KK]using this
  have b2:bits .and .u64 S 2147483647=0:=by rw[hS,hV];have:=st_waiters (v+1) 0 (by omega) (by omega);simpa[KK]using this
  have c1:IntKind.i32.wrap V=V:=by rw[IntKind.wrap_i32];omega
  have hV1:1<V:=by omega
  have hV2:V<2147483648:=by omega
  have q1:(V==1)=ay:=by simp;omega
  have q2:decide (V=1)=ay:=decide_eq_false (by omega);have q3:decide (V<0)=ay:=decide_eq_false (by omega);have q4:decide (0<V)=aw:=decide_eq_true (by omega);have q5:(V==0)=ay:=by simp;omega
  have q6:decide (V=0)=ay:=decide_eq_false (by omega);clear hw hS hV eS;refine⟨200,?_⟩;walk_nrm;refine aO _ ?_;walk_nrm
  try w_num
  refine dg ?_;refine rp ?_;refine nG rfl rfl H.f_uAdd rfl ?_;walk_nrm;refine aO _ ?_;walk_nrm
  try w_num
  refine dg ?_;refine cH ?_;refine cH ?_;refine bw ?_;refine aO _ ?_;walk_nrm
  try w_num
  refine aO _ ?_;walk_nrm
  try w_num
  refine aO _ ?_;walk_nrm
  try w_num
  refine aO _ ?_;walk_nrm
  try w_num
  refine iX rfl rfl ?_;walk_nrm;refine iX rfl rfl ?_;walk_nrm;refine aO _ ?_;walk_nrm
  try w_num
  refine dg ?_;refine jm (by first|rfl|(simp[bX];done)|(simp[bX];omega)) ?_;refine kW ?_;refine cH ?_;refine bw ?_;refine aO _ ?_;walk_nrm
  try w_num
  refine aO _ ?_;walk_nrm
  try w_num
  refine aO _ ?_;walk_nrm
  try w_num
  refine aO _ ?_;walk_nrm
  try w_num
  refine dg ?_;refine cH ?_;refine bw ?_;refine aO _ ?_;walk_nrm
  try w_num
  refine aO _ ?_;walk_nrm
  try w_num
  refine aO _ ?_;walk_nrm
  try w_num
  refine aO _ ?_;walk_nrm
  try w_num
  refine dg ?_;refine cH ?_;refine cH ?_;refine bw ?_;refine aO _ ?_;walk_nrm
  try w_num
  refine aO _ ?_;walk_nrm
  try w_num
  refine aO _ ?_;walk_nrm
  try w_num
  refine aO _ ?_;walk_nrm
  try w_num
  refine aO _ ?_;walk_nrm
  try w_num
  refine aO _ ?_;walk_nrm
  try w_num
  refine aO _ ?_;walk_nrm
  try w_num
  refine aO _ ?_;walk_nrm
  try w_num
  refine aO _ ?_;walk_nrm
  try w_num
  refine aO _ ?_;walk_nrm
  try w_num
  refine dg ?_;refine jm (by first|rfl|(simp[bX];done)|(simp[bX];omega)) ?_;refine kW ?_;refine cH ?_;refine cH ?_;refine bw ?_;refine aO _ ?_;walk_nrm
  try w_num
  refine aO _ ?_;walk_nrm
  try w_num
  refine dg ?_;refine jm (by first|rfl|(simp[bX];done)|(simp[bX];omega)) ?_;refine kW ?_;refine cH ?_;refine cH ?_;refine bw ?_;refine aO _ ?_;walk_nrm
  try w_num
  refine aO _ ?_;walk_nrm
  try w_num
  refine aO _ ?_;walk_nrm
  try w_num
  refine iX rfl rfl ?_;walk_nrm;refine iX rfl rfl ?_;walk_nrm;refine aO _ ?_;walk_nrm
  try w_num
  refine aO _ ?_;walk_nrm
  try w_num
  refine iX rfl rfl ?_;walk_nrm;refine iX rfl rfl ?_;walk_nrm;refine iX rfl rfl ?_;walk_nrm;refine iX rfl rfl ?_;walk_nrm;refine aO _ ?_;walk_nrm
  try w_num
  refine dg ?_;refine jm (by first|rfl|(simp[bX];done)|(simp[bX];omega)) ?_;refine kW ?_;refine cH ?_;refine cH ?_;refine bw ?_;refine aO _ ?_;walk_nrm
  try w_num
  refine aO _ ?_;walk_nrm
  try w_num
  refine aO _ ?_;walk_nrm
  try w_num
  refine iX rfl rfl ?_;walk_nrm;refine iX rfl rfl ?_;walk_nrm;refine aO _ ?_;walk_nrm
  try w_num
  refine dg ?_;refine la (by first|rfl|(simp[bX];done)|(simp[bX];omega)) ?_;refine rp ?_;refine Goes.stop (λae4 Hm=> ?_)
  replace hF:=hU xW hF Hm
  clear Hm;refine⟨rfl,_,stepG_unwind_entry (v:=.tuple #[]) (evs:= #[iJ .enable]) rfl H.f_enable (x_enable_n L) (x_enable_b L) (x_enable_x L) (x_enable_f L) (by simp[Extern.Race.none_]) (by simp[iJ]) (by simp[iJ]),mT+1,?_⟩;refine tz rfl rfl H.f_add rfl ?_;exact hT _ hF.1 hF.2
end
section
variable [Payload] {φ:Ph} {L:WgLink} {μ:Nat->Prop}
def Ic (φ:Ph)(L:WgLink)(F:ah->Prop)(c:bp)(cs:List bp)(g:au)(w:ah):Prop:= ∃T:Array ao,g=G ((base L.wait).at ⟨T,[]⟩ [.code (L7 L),.inLoop (L7 L),.inBlock 0]) (c::cs)/\T.size=84/\T[0]? =ae (.pointer (ae ⟨φ.Wg,0,ai⟩))/\F w/\WgLive φ.ty φ.Wg w
variable {F:ah->Prop} {Goal:au->ah->Prop} {b₀:bp} {a₀:Act} {ops₀:Array Oper} {i₀:Nat} {rest₀:List Nat} {k₀:List Item} {cs:List bp} {mT:Nat}
def Ry (H:WgLib φ.P L)(Hk:φ.ty=L.tWg)(xW: ∀w w',φ.MR μ w w'->F w->F w')(hF3: ∀w a v,a.block=φ.Wg->F w->F (w.setCell a v))(hT: ∀w,F w->WgLive φ.ty φ.Wg w->φ.GP μ (Ph.AtRet Goal) mT (G (b₀.at (a₀.put ((ops₀[i₀]?).bind (·.dst)) (.tuple #[])) (.inRegion ops₀ rest₀::k₀)) cs) w)(g:au)(w:ah)(h:Ic φ L F (b₀.at a₀ (.inRegion ops₀ (i₀::rest₀)::k₀)) cs g w): ∃m,φ.GP μ (φ.AtW1 μ Goal (Ic φ L F (b₀.at a₀ (.inRegion ops₀ (i₀::rest₀)::k₀)) cs)) m g w:=by
 lib_facts
 obtain⟨T,rfl,ahM,t0,hF⟩:=h;obtain⟨v0,v1,v2,v3,v4,v5,v6,v7,v8,v9,v10,v11,v12,v13,v14,v15,v16,v17,v18,v19,v20,v21,v22,v23,v24,v25,v26,v27,v28,v29,v30,v31,v32,v33,v34,v35,v36,v37,v38,v39,v40,v41,v42,v43,v44,v45,v46,v47,v48,v49,v50,v51,v52,v53,v54,v55,v56,v57,v58,v59,v60,v61,v62,v63,v64,v65,v66,v67,v68,v69,v70,v71,v72,v73,v74,v75,v76,v77,v78,v79,v80,v81,v82,v83,rfl⟩:=array84 T ahM;simp only[List.getElem?_toArray,List.getElem?_cons_zero,dS]at t0;subst t0;refine⟨30,?_⟩;simp only[L7,body_wait,waitFn,bT];refine zF ?_;refine cH ?_;refine bw ?_;refine aO _ ?_;walk_nrm
 try w_num
 refine aO _ ?_;walk_nrm
 try w_num
 refine aO _ ?_;walk_nrm
 try w_num
 refine qv rfl rfl (by k_ne) rfl H.f_uLoad (nm_uLoad L) rfl ?_
 walk_nrmf uLoadFn
 refine cH ?_;refine bw ?_;refine aO _ ?_;walk_nrm
 try w_num
 refine dg ?_;refine cH ?_;refine bw ?_;refine aO _ ?_;walk_nrm
 try w_num
 refine aO _ ?_;walk_nrm
 try w_num
 refine aO _ ?_;walk_nrm
 try w_num
 refine Goes.stop (λaz dp=> ?_)
 replace hF:=hU xW hF dp
 clear dp;refine⟨rfl,λv hv hw=> ?_⟩;rw[Hk]at hw;rcases lQ v with rfl|hvp
 ·
  replace hw:WgAt L.tWg φ.Wg az 0 0:=by simpa using hw
  refine⟨_,stepG_load_atomic (v:=0) rfl rfl (by k_ne) rfl H.f_loadU64 (x_loadU64_n L) (x_loadU64_b L) (x_loadU64_x L) .u64 (x_loadU64_f L) rfl hw.cellSt,λ_=>⟨60,?_⟩,λh=>absurd rfl h⟩;clear hw;walk_nrm;refine aO _ ?_;walk_nrm
  try w_num
  refine dg ?_;refine rp ?_;refine nG rfl rfl H.f_uLoad rfl ?_;walk_nrm;refine aO _ ?_;walk_nrm
  try w_num
  refine dg ?_;refine cH ?_;refine bw ?_;refine aO _ ?_;walk_nrm
  try w_num
  refine aO _ ?_;walk_nrm
  try w_num
  refine aO _ ?_;walk_nrm
  try w_num
  refine aO _ ?_;walk_nrm
  try w_num
  refine dg ?_;refine cH ?_;refine bw ?_;refine aO _ ?_;walk_nrm
  try w_num
  refine aO _ ?_;walk_nrm
  try w_num
  refine aO _ ?_;walk_nrm
  try w_num
  refine aO _ ?_;walk_nrm
  try w_num
  refine dg ?_;refine cH ?_;refine cH ?_;refine bw ?_;refine aO _ ?_;walk_nrm
  try w_num
  refine aO _ ?_;walk_nrm
  try w_num
  refine dg ?_;refine la (by first|rfl|(simp[bX];done)|(simp[bX];omega)) ?_;refine cH ?_;refine la (by first|rfl|(simp[bX];done)|(simp[bX];omega)) ?_;refine cH ?_;refine bw ?_;refine Goes.stop (λaha Np=> ?_)
  replace hF:=hU xW hF Np
  clear Np;refine⟨rfl,_,stepG_mark0 .enable (by simp) rfl rfl (by k_ne) rfl H.f_enable (x_enable_n L) (x_enable_b L) (x_enable_x L) (x_enable_f L),14,?_⟩;walk_nrm;refine dg ?_;refine bw ?_;refine aO _ ?_;walk_nrm
  try w_num
  refine Goes.step rfl (λahb Nq=> ?_)
  replace hF:=hU xW hF Nq
  clear Nq;have kP:=(WgLive.cell0 (ty:=L.tWg) (Hk▸hF.2)).choose_spec;have cT:=run_convert_to_unsafe (P:=φ.P) H.underlying_tWgP H.underlying_tUP H.room_tWg kP;have Ev:=λes=>events_convert_to_unsafe (P:=φ.P) H.underlying_tWgP H.underlying_tUP H.room_tWg kP es
  refine goes_oper_k rfl rfl (by k_ne) (λKx Yg=> ?_);go_simp;refine Yg _ _ ⟨zr λe he=>by have hm:=mem_listed he;simp[go_sem,Ev]at hm,?_⟩;clear Yg Kx cT Ev kP;refine Goes.stop (λaix YS=> ?_)
  replace hF:=hU xW hF YS
  clear YS;refine⟨rfl,_,stepG_markAt .acquire (by simp) rfl rfl (by k_ne) rfl H.f_acquire (x_acquire_n L) (x_acquire_b L) (x_acquire_x L) (x_acquire_f L) (by simp[bX,stA]),⟨mT+20,?_⟩⟩;walk_nrm;refine dg ?_;refine cH ?_;refine cH ?_;refine bw ?_;refine aO _ ?_;walk_nrm
  try w_num
  refine aO _ ?_;walk_nrm
  try w_num
  refine aO _ ?_;walk_nrm
  try w_num
  refine aO _ ?_;walk_nrm
  try w_num
  refine aO _ ?_;walk_nrm
  try w_num
  refine aO _ ?_;walk_nrm
  try w_num
  refine aO _ ?_;walk_nrm
  try w_num
  refine aO _ ?_;walk_nrm
  try w_num
  refine iX rfl rfl ?_;walk_nrm;refine iX rfl rfl ?_;walk_nrm;refine aO _ ?_;walk_nrm
  try w_num
  refine dg ?_;refine jm (by first|rfl|(simp[bX];done)|(simp[bX];omega)) ?_;refine kW ?_;refine rp ?_;refine tz rfl rfl H.f_wait rfl ?_;exact Goes.mono (hT _ hF.1 hF.2) (by omega)
 ·
  obtain⟨S,hS⟩: ∃S:Int,(v:Int) *KK=S:=⟨_,rfl⟩;have a1:S / 4294967296=(v:Int):=by rw[<-hS];simp only[KK];omega
  have b1:bits .and .u64 S 2147483648=0:=by rw[<-hS];have:=st_flag v 0 (by omega) (by omega);simpa[KK]using this
  have b2:bits .and .u64 S 2147483647=0:=by rw[<-hS];have:=st_waiters v 0 (by omega) (by omega);simpa[KK]using this
  have c1:IntKind.i32.wrap (v:Int)=(v:Int):=by rw[IntKind.wrap_i32];omega
  have w1:IntKind.u64.wrap (S+1)=S+1:=by rw[IntKind.wrap_u64,<-hS];simp only[KK];omega
  have q3:decide ((v:Int)<0)=ay:=decide_eq_false (by omega);have q4:decide (0<(v:Int))=aw:=decide_eq_true (by omega);have q5:((v:Int)==0)=ay:=by simp;omega
  have q6:decide ((v:Int)=0)=ay:=decide_eq_false (by omega);have q7:decide (v=0)=ay:=decide_eq_false (by omega);have q8: ¬v=0:=by omega
  rw[hS]at hw;refine⟨_,stepG_load_atomic (v:=S) rfl rfl (by k_ne) rfl H.f_loadU64 (x_loadU64_n L) (x_loadU64_b L) (x_loadU64_x L) .u64 (x_loadU64_f L) rfl hw.cellSt,λh0=>absurd h0 (by omega),λ_=>⟨60,?_⟩⟩;clear hw;walk_nrm;refine aO _ ?_;walk_nrm
  try w_num
  refine dg ?_;refine rp ?_;refine nG rfl rfl H.f_uLoad rfl ?_;walk_nrm;refine aO _ ?_;walk_nrm
  try w_num
  refine dg ?_;refine cH ?_;refine bw ?_;refine aO _ ?_;walk_nrm
  try w_num
  refine aO _ ?_;walk_nrm
  try w_num
  refine aO _ ?_;walk_nrm
  try w_num
  refine aO _ ?_;walk_nrm
  try w_num
  refine dg ?_;refine cH ?_;refine bw ?_;refine aO _ ?_;walk_nrm
  try w_num
  refine aO _ ?_;walk_nrm
  try w_num
  refine aO _ ?_;walk_nrm
  try w_num
  refine aO _ ?_;walk_nrm
  try w_num
  refine dg ?_;refine cH ?_;refine cH ?_;refine bw ?_;refine aO _ ?_;walk_nrm
  try w_num
  refine aO _ ?_;walk_nrm
  try w_num
  refine dg ?_;refine jm (by first|rfl|(simp[bX];done)|(simp[bX];omega)) ?_;refine kW ?_;refine cH ?_;refine bw ?_;refine aO _ ?_;walk_nrm
  try w_num
  refine aO _ ?_;walk_nrm
  try w_num
  refine aO _ ?_;walk_nrm
  try w_num
  refine aO _ ?_;walk_nrm
  try w_num
  refine aO _ ?_;walk_nrm
  try w_num
  refine aO _ ?_;walk_nrm
  try w_num
  refine qv rfl rfl (by k_ne) rfl H.f_uCas (nm_uCas L) rfl ?_
  walk_nrmf uCasFn
  refine cH ?_;refine bw ?_;refine aO _ ?_;walk_nrm
  try w_num
  refine dg ?_;refine cH ?_;refine bw ?_;refine aO _ ?_;walk_nrm
  try w_num
  refine aO _ ?_;walk_nrm
  try w_num
  refine aO _ ?_;walk_nrm
  try w_num
  refine aO _ ?_;walk_nrm
  try w_num
  refine aO _ ?_;walk_nrm
  try w_num
  refine Goes.stop (λfu uN=> ?_)
  replace hF:=hU xW hF uN
  clear uN;refine⟨rfl,λv' Cj hw=>⟨λe=> ?_,λe=> ?_⟩⟩
  ·
   subst e;rw[Hk]at hw;rw[hS]at hw|-;refine⟨_,(stepG_cas_hit (v:=S) (n:=S+1) rfl rfl (by k_ne) rfl H.f_casU64 (x_casU64_n L) (x_casU64_b L) (x_casU64_x L) .u64 (x_casU64_f L) rfl rfl rfl hw.cellSt (hw.thaw 0)).trans (by rfl),70,?_⟩
   replace hF:F (fu.setCell (stA φ.Wg) (.int .u64 (S+1)))/\WgLive φ.ty φ.Wg (fu.setCell (stA φ.Wg) (.int .u64 (S+1))):=⟨hF3 _ _ _ rfl hF.1,⟨_,_,by rw[Hk];exact hw.setSt _⟩⟩
   clear hw;walk_nrm;refine aO _ ?_;walk_nrm
   try w_num
   refine dg ?_;refine rp ?_;refine nG rfl rfl H.f_uCas rfl ?_;walk_nrm;refine dg ?_;refine la (by first|rfl|(simp[bX];done)|(simp[bX];omega)) ?_;refine cH ?_;refine cH ?_;refine bw ?_;refine aO _ ?_;walk_nrm
   try w_num
   refine aO _ ?_;walk_nrm
   try w_num
   refine aO _ ?_;walk_nrm
   try w_num
   refine aO _ ?_;walk_nrm
   try w_num
   refine dg ?_;refine la (by first|rfl|(simp[bX];done)|(simp[bX];omega)) ?_;refine bw ?_;refine aO _ ?_;walk_nrm
   try w_num
   refine aO _ ?_;walk_nrm
   try w_num
   refine aO _ ?_;walk_nrm
   try w_num
   refine Goes.step rfl (λae4 Hm=> ?_)
   replace hF:=hU xW hF Hm
   clear Hm;have kP:=(WgLive.cell1 (ty:=L.tWg) (Hk▸hF.2)).choose_spec;have cT:=run_convert_to_unsafe (P:=φ.P) H.underlying_tPU32 H.underlying_tUP H.room_tU32 kP;have Ev:=λes=>events_convert_to_unsafe (P:=φ.P) H.underlying_tPU32 H.underlying_tUP H.room_tU32 kP es
   refine goes_oper_k rfl rfl (by k_ne) (λKx Yg=> ?_);go_simp;refine Yg _ _ ⟨zr λe he=>by have hm:=mem_listed he;simp[go_sem,Ev]at hm,?_⟩;clear Yg Kx cT Ev kP;refine Goes.step rfl (λai3 agE=> ?_)
   replace hF:=hU xW hF agE
   clear agE;rw[stepG_markAt .write (by simp) rfl rfl (by k_ne) rfl H.f_raceWrite (x_raceWrite_n L) (x_raceWrite_b L) (x_raceWrite_x L) (x_raceWrite_f L) (ad:=⟨φ.Wg,1,ai⟩) (by simp[bX])];simp only[goes_go];refine⟨R9 _ rfl (.inr rfl),?_⟩;walk_nrm;refine dg ?_;refine cH ?_;refine bw ?_;refine aO _ ?_;walk_nrm
   try w_num
   refine dg ?_;refine cH ?_;refine cH ?_;refine bw ?_;refine aO _ ?_;walk_nrm
   try w_num
   refine aO _ ?_;walk_nrm
   try w_num
   refine aO _ ?_;walk_nrm
   try w_num
   refine aO _ ?_;walk_nrm
   try w_num
   refine iX rfl rfl ?_;walk_nrm;refine aO _ ?_;walk_nrm
   try w_num
   refine dg ?_;refine jm (by first|rfl|(simp[bX];done)|(simp[bX];omega)) ?_;refine kW ?_;refine cH ?_;refine bw ?_;refine aO _ ?_;walk_nrm
   try w_num
   refine aO _ ?_;walk_nrm
   try w_num
   refine aO _ ?_;walk_nrm
   try w_num
   refine aO _ ?_;walk_nrm
   try w_num
   refine Goes.stop (λahc agF=> ?_)
   replace hF:=hU xW hF agF
   clear agF;refine⟨rfl,rfl,λ⟨st,hw⟩=>stepG_semacquire_wait rfl rfl rfl H.f_semacquire (x_semacquire_n L) (x_semacquire_b L) (x_semacquire_x L) (x_semacquire_f L) (by simp[bX,smA]) hw.cellSm,λhf=> ?_⟩;rw[Hk]at hf;refine⟨_,(stepG_semacquire (n:=1) rfl rfl (by k_ne) rfl H.f_semacquire (x_semacquire_n L) (x_semacquire_b L) (x_semacquire_x L) (x_semacquire_f L) (by simp[bX,smA]) hf.cellSm (by k_ne) (hf.thaw 1)).trans (by rfl),30,?_⟩
   replace hF:F (ahc.setCell (smA φ.Wg) (.int .u32 0))/\WgLive φ.ty φ.Wg (ahc.setCell (smA φ.Wg) (.int .u32 0)):=⟨hF3 _ _ _ rfl hF.1,⟨_,_,by rw[Hk];exact hf.setSm 0⟩⟩
   clear hf;walk_nrm;refine dg ?_;refine cH ?_;refine bw ?_;refine aO _ ?_;walk_nrm
   try w_num
   refine aO _ ?_;walk_nrm
   try w_num
   refine aO _ ?_;walk_nrm
   try w_num
   refine qv rfl rfl (by k_ne) rfl H.f_uLoad (nm_uLoad L) rfl ?_
   walk_nrmf uLoadFn
   refine cH ?_;refine bw ?_;refine aO _ ?_;walk_nrm
   try w_num
   refine dg ?_;refine cH ?_;refine bw ?_;refine aO _ ?_;walk_nrm
   try w_num
   refine aO _ ?_;walk_nrm
   try w_num
   refine aO _ ?_;walk_nrm
   try w_num
   refine Goes.stop (λai4 agG=> ?_)
   replace hF:=hU xW hF agG
   clear agG;refine⟨rfl,λhw=> ?_⟩;rw[Hk]at hw;refine⟨_,stepG_load_atomic (v:=0) rfl rfl (by k_ne) rfl H.f_loadU64 (x_loadU64_n L) (x_loadU64_b L) (x_loadU64_x L) .u64 (x_loadU64_f L) rfl hw.cellSt,30,?_⟩;clear hw;walk_nrm;refine aO _ ?_;walk_nrm
   try w_num
   refine dg ?_;refine rp ?_;refine nG rfl rfl H.f_uLoad rfl ?_;walk_nrm;refine aO _ ?_;walk_nrm
   try w_num
   refine aO _ ?_;walk_nrm
   try w_num
   refine dg ?_;refine cH ?_;refine la (by first|rfl|(simp[bX];done)|(simp[bX];omega)) ?_;refine cH ?_;refine bw ?_;refine Goes.stop (λaha Np=> ?_)
   replace hF:=hU xW hF Np
   clear Np;refine⟨rfl,_,stepG_mark0 .enable (by simp) rfl rfl (by k_ne) rfl H.f_enable (x_enable_n L) (x_enable_b L) (x_enable_x L) (x_enable_f L),14,?_⟩;walk_nrm;refine dg ?_;refine bw ?_;refine aO _ ?_;walk_nrm
   try w_num
   refine Goes.step rfl (λahb Nq=> ?_)
   replace hF:=hU xW hF Nq
   clear Nq;have kP:=(WgLive.cell0 (ty:=L.tWg) (Hk▸hF.2)).choose_spec;have cT:=run_convert_to_unsafe (P:=φ.P) H.underlying_tWgP H.underlying_tUP H.room_tWg kP;have Ev:=λes=>events_convert_to_unsafe (P:=φ.P) H.underlying_tWgP H.underlying_tUP H.room_tWg kP es
   refine goes_oper_k rfl rfl (by k_ne) (λKx Yg=> ?_);go_simp;refine Yg _ _ ⟨zr λe he=>by have hm:=mem_listed he;simp[go_sem,Ev]at hm,?_⟩;clear Yg Kx cT Ev kP;refine Goes.stop (λaix YS=> ?_)
   replace hF:=hU xW hF YS
   clear YS;refine⟨rfl,_,stepG_markAt .acquire (by simp) rfl rfl (by k_ne) rfl H.f_acquire (x_acquire_n L) (x_acquire_b L) (x_acquire_x L) (x_acquire_f L) (by simp[bX,stA]),⟨mT+20,?_⟩⟩;walk_nrm;refine dg ?_;refine cH ?_;refine cH ?_;refine bw ?_;refine aO _ ?_;walk_nrm
   try w_num
   refine dg ?_;refine jm (by first|rfl|(simp[bX];done)|(simp[bX];omega)) ?_;refine kW ?_;refine rp ?_;refine tz rfl rfl H.f_wait rfl ?_;exact Goes.mono (hT _ hF.1 hF.2) (by omega)
  ·
   rw[Hk]at hw;refine⟨_,stepG_cas_miss (v:=(v':Int) *KK) (old:=S) (n:=S+1) rfl rfl (by k_ne) rfl H.f_casU64 (x_casU64_n L) (x_casU64_b L) (x_casU64_x L) .u64 (x_casU64_f L) rfl rfl rfl hw.cellSt (hw.thaw 0) (by rw[<-hS];simp only[KK];omega),20,?_⟩;clear hw;walk_nrm
   repeat(first
    |refine cH ?_
    |refine dg ?_
    |(refine AU rfl ?_;simp only[aV,aD,aP,Nat.reduceAdd,bS,bP,cu])
    |refine kW ?_
    |refine zF ?_
    |refine Ek ?_
    |refine Sm ?_
    |refine rp ?_
    |refine Sl rfl ?_
    |(refine qv rfl rfl (by k_ne) rfl H.f_uLoad (nm_uLoad L) rfl ?_;walk_nrmf uLoadFn)
    |(refine qv rfl rfl (by k_ne) rfl H.f_uCas (nm_uCas L) rfl ?_;walk_nrmf uCasFn)
    |(refine nG rfl rfl H.f_uLoad rfl ?_;walk_nrm)
    |(refine nG rfl rfl H.f_uCas rfl ?_;walk_nrm)
    |(refine mL rfl (λ_=>stepG_entry_pure (.bool ay) rfl rfl (by k_ne) rfl H.f_inBubble (x_inBubble_n L) (x_inBubble_b L) (x_inBubble_x L) (x_inBubble_f L)) ?_;walk_nrm)
    |(refine iX rfl rfl ?_;walk_nrm)
    |(refine la (by first|rfl|(simp[bX];done)|(simp[bX];omega)) ?_)
    |(refine jm (by first|rfl|(simp[bX];done)|(simp[bX];omega)) ?_)
    |(refine aO _ ?_;walk_nrm;try w_num))
   refine IL ?_;refine Goes.stop (λae4 Hm=> ?_);exact⟨_,rfl,by simp,by simp,hU xW hF Hm⟩
end
section
variable [Payload] {φ:Ph} {L:WgLink} {μ:Nat->Prop}
variable {F:ah->Prop} {AnchW:(Nat->Prop)->au->ah->Prop} {b₀:bp} {a₀:Act} {ops₀:Array Oper} {i₀:Nat} {rest₀:List Nat} {k₀:List Item} {cs:List bp}
def Rz (H:WgLib φ.P L)(xW: ∀w w',φ.MR μ w w'->F w->F w')(hA: ∀g w,Ic φ L F (b₀.at a₀ (.inRegion ops₀ (i₀::rest₀)::k₀)) cs g w->AnchW μ g w)(w:ah)(hF:F w/\WgLive φ.ty φ.Wg w):φ.GP μ (φ.AtKd μ (AnchW μ)) 3 (G ((base L.wait).at ⟨#[.pointer (ae ⟨φ.Wg,0,ai⟩)]++eG 83 undef,[]⟩ [.code (body_wait L)]) (b₀.at a₀ (.inRegion ops₀ (i₀::rest₀)::k₀)::cs)) w:=by
 lib_facts
 simp only[body_wait,waitFn,bT,dD,dE,ez,dT,cy,dF];refine cH ?_;refine la rfl ?_;refine bw ?_;refine Goes.stop (λaz dp=> ?_)
 replace hF:=hU xW hF dp
 clear dp;refine⟨rfl,_,stepG_mark0 .disable (by simp) rfl rfl (by k_ne) rfl H.f_disable (x_disable_n L) (x_disable_b L) (x_disable_x L) (x_disable_f L),3,?_⟩;walk_nrm;refine dg ?_;refine zF ?_;refine Sm ?_;exact Goes.stop (λfu uN=>hA _ _ ⟨_,rfl,by simp,by simp,hU xW hF uN⟩)
end
end Rel
section
open Go.RowKit Go.ChangeShapes Go.WideShapes Go.ChangeAt Go.Deep
def Zq:ownKnob Tryz.prog.godebug=ai:=by kernel_rfl
def Y1:laidOutB aj=aw:=by kernel_rfl
end
section
open Go.RowKit
structure db (F:Nat->Prop) (w w':ah):Prop where
 os:w'.os=w.os
 tape:w'.tape=w.tape
 output:w'.output=w.output
 size:w.heap.size<=w'.heap.size
 block: ∀k,k<w.heap.size-> ¬F k->w'.heap[k]? =w.heap[k]?
namespace db
variable {F G:Nat->Prop} {w w' w'':ah}
def refl:db F w w:=⟨rfl,rfl,rfl,ax _,λ_ _ _=>rfl⟩
def trans (h:db F w w')(h':db F w' w''):db F w w'':=⟨h'.os.trans h.os,h'.tape.trans h.tape,h'.output.trans h.output,bM h.size h'.size,λk hk hF=>(h'.block k (cc hk h.size) hF).trans (h.block k hk hF)⟩
def trans' (h:db F w w')(h':db G w' w'')(hG: ∀k,k<w.heap.size->G k->F k):db F w w'':=⟨h'.os.trans h.os,h'.tape.trans h.tape,h'.output.trans h.output,bM h.size h'.size,λk hk hF=>(h'.block k (cc hk h.size) λhg=>hF (hG k hk hg)).trans (h.block k hk hF)⟩
def mono (h:db F w w')(hG: ∀k,k<w.heap.size->F k->G k):db G w w':=⟨h.os,h.tape,h.output,h.size,λk hk hF=>h.block k hk λhf=>hF (hG k hk hf)⟩
def gA (h:Below w.heap.size w w'):db F w w':=⟨h.os,h.tape,h.output,h.size,λk hk _=>h.block k hk⟩
def below (h:db F w w'){B:Nat}(hB:B<=w.heap.size)(hF: ∀k,k<w.heap.size->F k->B<=k):Below B w w':=⟨h.os,h.tape,h.output,h.size,λk hk=>h.block k (by omega) λhf=>absurd (hF k (by omega) hf) (by omega)⟩
def grown {row:Option Nat}(h:w.grownBy w' row)(hF: ∀k,row=ae k->F k):db F w w':=⟨h.os,h.tape,h.output,h.size,λk hk hf=>h.block k hk λe=>hf (hF k e.symm)⟩
def setCell (h:db F w w'){g:Nat}(hg:F g\/w.heap.size<=g)(o:Nat)(v:ao):db F w (w'.setCell ⟨g,o,ai⟩ v):=⟨h.os,h.tape,h.output,by simpa using h.size,λk hk hf=>(Below.heap_setCell w' ⟨g,o,ai⟩ v k (by rintro rfl;rcases hg with hg|hg;exact hf hg;exact absurd hk (by omega))).trans (h.block k hk hf)⟩
def drew (h:db F w w'):db F w w'.drew:=⟨h.os,h.tape,h.output,h.size,h.block⟩
def alloc (h:db F w w')(o:Obj):db F w (w'.alloc o):=⟨h.os,h.tape,h.output,by simp;have:=h.size;omega,λk hk hf=>(Below.heap_alloc w' o k (by have:=h.size;omega)).trans (h.block k hk hf)⟩
def blk (h:db F w w'){g:Nat}{t:aA}{cs:Array ao}(hb:dt w g t cs)(hg: ¬F g):dt w' g t cs:=(h.block g hb.lt hg).trans hb
def own (h:db F w w'){B:Nat}{e:aA}{size n:Nat}{v:ao}{xs:List ao}(ho:w.ownsRow B e size v n xs)(hg: ∀k,v.ownBlock=ae k-> ¬F k):w'.ownsRow B e size v n xs:=by
 refine⟨ho.1,?_⟩;rcases ho.2 with h0|⟨g,cap,cur,rfl,hb,lN,r⟩
 ·exact bm h0
 ·exact bO ⟨g,cap,cur,rfl,hb,(h.block g (aI.1 lN).1 (hg g rfl)).trans lN,r⟩
end db
def cM {w:ah}{B:Nat}{e:aA}{size n:Nat}{v:ao}{xs:List ao}(h:w.ownsRow B e size v n xs): ∃A c,v=.slice A n c/\n<=c/\c<=maxLen/\(0<n-> ∃g,A=ae ⟨g,0,ai⟩):=by
 rcases h.2 with⟨rfl,h0⟩|⟨g,cap,cur,rfl,_,_,h1,h2,_⟩
 ·exact⟨ai,0,by rw[h0],by omega,by decide,λh=>by omega⟩
 ·exact⟨_,cap,rfl,h1,h2,λ_=>⟨g,rfl⟩⟩
def mD {w:ah}{B:Nat}{e:aA}{size n c g:Nat}{xs:List ao}(h:w.ownsRow B e size (.slice (ae ⟨g,0,ai⟩) n c) n xs){k:Nat}(hk:k<n):row? w g (k *size) size=ae ((xs.drop (k *size)).take size).toArray:=by
 obtain⟨h1,h2|⟨g',cap,cur,e1,_,hg,h3,_,h5,h6⟩⟩:=h
 ·cases h2.1
 ·injection e1 with e1 e2 e3
  injection e1 with e1
  injection e1 with e1
  subst e1;unfold row?;rw[hg];simp only;have hle:(k+1) *size<=cap *size:=fC _ (by omega);have YB:(k+1) *size<=n *size:=fC _ (by omega);rw[gY,jE]at hle YB;rw[if_pos (by omega)];congr 1;apply oz;rw[Array.toList_extract,List.extract_eq_take_drop,iL,<-h6];simp only[List.drop_take,List.take_take];congr 1;omega
def eX {P:aS}{w:ah}{ops:Array Oper}{rest:List Oper}{o:Oper}{a:Act}{Q:Exit->Act->ah->Prop}(sN:o.guard=ai)(s x:cG)(t:aA)(ho:o.op=.call {callee:=.builtin .append,args:= #[s,x],argTypes:= #[t,t]})(base:Nat)(e:aA)(i:TypeInfo)(z:ao)(size bytes:Nat)(ht:P.underlying t=ae (.slice e))(hi:P.info? e=ae i)(hz:i.zero=ae z)(wy:i.size=size)(M3:i.bytes=bytes)(SG:z.cells.size=size)(kJ:0<size)(v:ao)(n:Nat)(xs:List ao)(hs:a.eval s=v)(jg:w.ownsRow base e size v n xs)(news:List ao)(hx:a.eval x=.slice (ae ⟨w.heap.size,0,ai⟩) 1 1)(hl:news.length=size)(h1: ∀u∈news,u.oneCell'=aw)(Yc:n+1<=maxLen)(rq:(n+1) *bytes<=140737488355328)(IW:base<=w.heap.size)(h: ∀v' w',w'.ownsRow base e size v' (n+1) (xs++news)->(w.alloc (.cells news.toArray e)).grownBy w' v.ownBlock->(v'.ownBlock=v.ownBlock\/v'.ownBlock=ae (w.heap.size+1))->wpList P ops Q rest (a.put o.dst v') w'):wpList P ops Q (o::rest) a (w.alloc (.cells news.toArray e)):=by
 refine wpList_append_own_at _ sN s x t ho base e i z size bytes ht hi hz wy M3 SG kJ v n xs hs (jg.alloc _) ⟨w.heap.size,0,ai⟩ 1 1 news hx (by rw[hl,jE]) ?_ h1 Yc rq (by simp;omega) ?_
 ·intro j u hu;rw[show(⟨w.heap.size,0,ai⟩:Addr).add j=⟨w.heap.size,j,ai⟩from by unfold Addr.add;split<;>simp_all];rw[cell_of_row _ w.heap.size j news.toArray e (0,0) (heap_alloc_new w _)];simpa using hu
 ·intro v' w' Ci hg _ vl;exact h v' w' Ci hg (by simpa using vl)
def tv {α:Type}{size:Nat}{f:α->List ao}(hf: ∀x,(f x).length=size)(l:List α):(l.flatMap f).length=l.length *size:=by
 induction l with
 |nil=>simp
 |cons a l ih=>rw[bN,aZ,ih,hf,aD,gY];omega
def mv {α:Type}{size:Nat}{f:α->List ao}(hf: ∀x,(f x).length=size): ∀(l:List α) (k:Nat) (h:k<l.length),((l.flatMap f).drop (k *size)).take size=f l[k]
 |a::l,0,_=>by rw[bN,Nat.zero_mul,List.drop_zero];rw[List.take_append_of_le_length (by rw[hf];exact ax _),<-hf a,dm];rfl
 |a::l,k+1,h=>by rw[bN,gY,jE,dA,<-hf a,qd,iU (by omega),cy,iL,hf a];exact mv hf l k (by simpa using h)
def rm {α:Type}{size:Nat}{f:α->List ao}(hf: ∀x,(f x).length=size)(l:List α)(k j:Nat)(h:k<l.length)(hj:j<size):(l.flatMap f)[k *size+j]? =(f l[k])[j]?:=by rw[<-mv hf l k h,ie,if_pos hj,List.getElem?_drop]
def tw {α:Type}{size:Nat}{f:α->List ao}(hf: ∀x,(f x).length=size): ∀(l:List α) (k j:Nat) (y:α) (u:ao) (h:k<l.length),j<size->f y=(f l[k]).set j u->(l.flatMap f).set (k *size+j) u=(l.set k y).flatMap f
 |a::l,0,j,y,u,_,hj,hy=>by simp only[List.getElem_cons_zero]at hy;rw[bN,Nat.zero_mul,bS,List.set_append_left _ _ (by rw[hf];exact hj),<-hy];rfl
 |a::l,k+1,j,y,u,h,hj,hy=>by
  rw[bN,oA _ _ (by rw[hf,gY];omega),hf];rw[show(k+1) *size+j-size=k *size+j from by rw[gY];omega];rw[tw hf l k j y u (by simpa using h) hj (by simpa using hy)]
  rfl
def tS {w w':ah}{B:Nat}{e:aA}{size n:Nat}{v:ao}{xs:List ao}(h:w.ownsRow B e size v n xs)(hb:Below w.heap.size w w'):w'.ownsRow B e size v n xs:=h.kept (row:=ai) ⟨hb.os,hb.tape,hb.output,hb.size,λk hk _=>hb.block k hk⟩ (by cases v.ownBlock<;>simp)
def hC (h:Int×Int):List ao:=[.int .i64 h.1,.int .i64 h.2]
def AV (h:Int×Int):(hC h).length=2:=rfl
def hL (h:Int×Int):List Int:=[h.1,h.2]
def kM {α:Type}(T E:aA)(size:Nat)(enc:α->List ao)(w:ah)(p:Nat)(xs:List α)(F:Nat->Prop):Prop:= ∃v,dt w p T #[v]/\w.ownsRow 0 E size v xs.length (xs.flatMap enc)/\v.ownBlock≠ae p/\F p/\ ∀k,v.ownBlock=ae k->F k
section
variable {α:Type} {T E:aA} {size:Nat} {enc:α->List ao} {w w' w3:ah} {p:Nat} {xs:List α} {F G:Nat->Prop}
def kM.only (h:kM T E size enc w p xs F)(ho:db G w w')(hd: ∀k,F k-> ¬G k):kM T E size enc w' p xs F:=by obtain⟨v,h1,h2,h3,h4,h5⟩:=h;exact⟨v,ho.blk h1 (hd p h4),ho.own h2 λk hk=>hd k (h5 k hk),h3,h4,h5⟩
def kM.mono (h:kM T E size enc w p xs F)(hd: ∀k,k<w.heap.size->F k->G k):kM T E size enc w p xs G:=by obtain⟨v,h1,h2,h3,h4,h5⟩:=h;exact⟨v,h1,h2,h3,hd p h1.lt h4,λk hk=>hd k (h2.lt k hk).2 (h5 k hk)⟩
def kM.after (h:kM T E size enc w p xs F)(hb:Below w.heap.size w w'):kM T E size enc w' p xs F:=by obtain⟨v,h1,h2,h3,h4,h5⟩:=h;exact⟨v,h1.after hb,h2.kept (row:=ai) ⟨hb.os,hb.tape,hb.output,hb.size,λk hk _=>hb.block k hk⟩ (by cases v.ownBlock<;>simp),h3,h4,h5⟩
def kM.slice (h:kM T E size enc w p xs F): ∃A c,w.cell? ⟨p,0,ai⟩=ae (.slice A xs.length c)/\w.frozen? ⟨p,0,ai⟩=ay/\xs.length<=c/\c<=maxLen/\w.ownsRow 0 E size (.slice A xs.length c) xs.length (xs.flatMap enc)/\(eA A xs.length c).ownBlock≠ae p/\F p/\ ∀k,(eA A xs.length c).ownBlock=ae k->F k:=by obtain⟨v,h1,h2,h3,h4,h5⟩:=h;obtain⟨A,c,rfl,vA,uL,hA⟩:=cM h2;exact⟨A,c,h1.cell 0,h1.frozen 0,vA,uL,h2,h3,h4,h5⟩
end
def BB:(Tryz.prog.info? 172).map (·.size)=ae 2:=by kernel_rfl
@[go_sem ↓] theorem ac9 (v:ao):eh 172 v=fA 172 v:=rfl
@[go_sem ↓] theorem acw (p v:ao):eZ 172 p v=dh 172 p v:=rfl
@[go_sem] theorem aaw (w:ah)(g o:Nat):(fA 172 (.pointer (ae ⟨g,o,ai⟩))).run aj w=match row? w g o 2 with|some cs=>.ok (.agg cs) w|none=>(jw 172 ⟨g,o,ai⟩).run aj w:=ga w _ g o 2 _ Tryz.underlying172 rfl BB
def UX (w:ah)(g o:Nat)(a b:ao):ah:=
 {w with heap:=w.heap.modify g λ
    | .cells cs e fr=>.cells ((cs.setIfInBounds o a).setIfInBounds (o+1) b) e fr
    |x=>x}
def N2 (w:ah)(g o:Nat)(a b:ao):UX w g o a b=(w.setCell ⟨g,o,ai⟩ a).setCell ⟨g,o+1,ai⟩ b:=by
 unfold UX dJ;simp only;congr 1;apply Array.ext_getElem?;intro k;simp only[bq]
 split
 ·cases w.heap[k]? with
  |none=>rfl
  |some x=>cases x<;>rfl
 ·rfl
def aco (cs:Array ao)(o:Nat)(a b:ao)(h:o+2<=cs.size):(List.take o cs.toList++a::b::List.drop (o+2) cs.toList).toArray=(cs.setIfInBounds o a).setIfInBounds (o+1) b:=by
 apply oz;apply mf;intro j;have hl:(List.take o cs.toList).length=o:=by rw[cK];simp;omega
 rw[Array.toList_setIfInBounds,Array.toList_setIfInBounds,fh,fh,de];simp only[Array.length_toList];rcases Nat.lt_trichotomy j o with h1|h1|h1
 ·rw[List.getElem?_append_left (by omega),if_neg (by omega),if_neg (by omega),ie,if_pos h1]
 ·rw[List.getElem?_append_right (by omega),hl,h1,Nat.sub_self,if_neg (by omega),if_pos rfl,if_pos (by omega)];rfl
 ·rw[List.getElem?_append_right (by omega),hl];by_cases h2:j=o+1
  ·rw[h2,if_pos rfl,if_pos (by omega),show o+1-o=1 from by omega];rfl
  ·rw[if_neg (by omega),if_neg (by omega),show j-o=(j-o-2)+2 from by omega,e8,e8,List.getElem?_drop,show o+2+(j-o-2)=j from by omega]
@[go_sem] theorem ZZ (w:ah)(g o:Nat)(x:Int)(b:Bool):(dh 172 (.pointer (ae ⟨g,o,ai⟩)) (.agg #[.int .i64 x,.bool b])).run aj w=if fits w g o 2=aw then .ok () (UX w g o (.int .i64 x) (.bool b))else(en 172 g o (.agg #[.int .i64 x,.bool b])).run aj w:=by
  split
  ·rename_i hf
   unfold fits at hf
   split at hf
   ·rename_i cs e hg
    have hn:o+2<=cs.size:=by simpa using hf
    cases hq:Tryz.prog.info? 172 with
    |none=>have:=BB;simp[hq]at this
    |some i=>
     have hs:i.size=2:=by have:=BB;simpa[hq]using this
     have gI:=run_storeCells_at aj g o e [.int .i64 x,.bool b] 0 cs w hg (by simp;omega) (by intro v hv;simp at hv;rcases hv with rfl|rfl<;>rfl);have hlen:(#[aF .i64 x,.bool b]:Array ao).size=i.size:=by rw[hs];rfl
     simp only[dh,eZ,Instr.sureAddr,storeVar,eH,sizeOf,typeInfo,run_program,ij,hq,Sem.run_pure,iQ,hlen,ne_eq,not_true_eq_false,if_false,gI];congr 1;unfold UX World.setRow;congr 1;apply Array.ext_getElem?;intro k;rw[bq,bq]
     split
     ·rename_i hk
      subst hk;rw[hg];simp;exact aco cs o _ _ hn
     ·rfl
   ·cases hf
  ·rfl
def XM (a c:Int)(b d:Bool)(w:ah):(binOp .eql 172 (.agg #[.int .i64 a,.bool b]) (.agg #[.int .i64 c,.bool d])).run aj w=.ok (.bool (decide (a=c)&&decide (b=d))) w:=by
 have hS:Tryz.prog.underlying 172=ae (.struct (Tryz.prog.fieldsOf 172)):=by kernel_rfl
 have hp:Tryz.prog.stoodInHeld 172=ay:=by kernel_rfl
 have u3:=Tryz.underlying3;have u4:=Tryz.underlying4;have a3:=Tryz.isAgg3;have z3:=Tryz.sizeOf3;have a4:=Tryz.isAgg4;have z4:=Tryz.sizeOf4;rw[run_eql_struct,show(10000:Nat)=9999+1 from rfl,run_equalIn_agg w 9999 172 _ _ hS hp];simp only[Program.fieldsOf,Tryz.underlying172];go_simp;by_cases h1:a=c<;>by_cases h2:b=d<;>simp[h1,h2]
def yh (x:Int×Bool):List ao:=[.int .i64 x.1,.bool x.2]
def oL (x:Int×Bool):(yh x).length=2:=rfl
def eM (w:ah)(p:Nat)(ls:List (Int×Bool))(F:Nat->Prop):Prop:= ∃v,dt w p 170 #[v]/\w.ownsRow 0 172 2 v ls.length (ls.flatMap yh)/\v.ownBlock≠ae p/\F p/\ ∀k,v.ownBlock=ae k->F k
def eM.only {w w':ah}{p:Nat}{ls:List (Int×Bool)}{F G:Nat->Prop}(h:eM w p ls F)(ho:db G w w')(hd: ∀k,F k-> ¬G k):eM w' p ls F:=by obtain⟨v,h1,h2,h3,h4,h5⟩:=h;exact⟨v,ho.blk h1 (hd p h4),ho.own h2 λk hk=>hd k (h5 k hk),h3,h4,h5⟩
def eM.mono {w:ah}{p:Nat}{ls:List (Int×Bool)}{F G:Nat->Prop}(h:eM w p ls F)(hd: ∀k,k<w.heap.size->F k->G k):eM w p ls G:=by obtain⟨v,h1,h2,h3,h4,h5⟩:=h;exact⟨v,h1,h2,h3,hd p h1.lt h4,λk hk=>hd k (h2.lt k hk).2 (h5 k hk)⟩
def eM.lt {w:ah}{p:Nat}{ls:List (Int×Bool)}{F:Nat->Prop}(h:eM w p ls F):p<w.heap.size:=by obtain⟨v,h1,_⟩:=h;exact h1.lt
def eM.facts {w:ah}{p:Nat}{ls:List (Int×Bool)}{F:Nat->Prop}(h:eM w p ls F): ∃A c,w.cell? ⟨p,0,ai⟩=ae (.slice A ls.length c)/\w.frozen? ⟨p,0,ai⟩=ay/\ls.length<=c/\c<=maxLen/\w.ownsRow 0 172 2 (.slice A ls.length c) ls.length (ls.flatMap yh)/\(eA A ls.length c).ownBlock≠ae p/\ ∀k,k<ls.length-> ∃g,A=ae ⟨g,0,ai⟩/\g≠p/\F g/\g<w.heap.size/\w.frozen? ⟨g,k *2,ai⟩=ay/\w.frozen? ⟨g,k *2+1,ai⟩=ay/\fits w g (k *2) 2=aw/\row? w g (k *2) 2=ae #[.int .i64 (ls.getD k (0,ay)).1,.bool (ls.getD k (0,ay)).2]/\w.cell? ⟨g,k *2,ai⟩=ae (.int .i64 (ls.getD k (0,ay)).1)/\w.cell? ⟨g,k *2+1,ai⟩=ae (.bool (ls.getD k (0,ay)).2):=by
 obtain⟨v,h1,h2,h3,h4,h5⟩:=h;obtain⟨A,c,rfl,vA,uL,hA⟩:=cM h2;refine⟨A,c,h1.cell 0,h1.frozen 0,vA,uL,h2,h3,λk hk=> ?_⟩;obtain⟨g,rfl⟩:=hA (by omega);have sN:ls.getD k (0,ay)=ls[k]:=by simp[bB,aq hk]
 rw[sN];have hr:=mD h2 hk;rw[mv oL ls k hk]at hr;have hk2:k *2+2<=ls.length *2:=by omega
 have hf:fits w g (k *2) 2=aw:=by
  obtain⟨_,h0|⟨g',cap,cur,e1,_,hg,h3',_,h5',_⟩⟩:=h2
  ·cases h0.1
  ·injection e1 with e1 e2 e3
   injection e1 with e1
   injection e1 with e1
   subst e1;unfold fits;rw[hg];simp;omega
 refine⟨g,rfl,λe=>h3 (by rw[e];rfl),h5 g rfl,(h2.lt g rfl).2,h2.frozenAt _,h2.frozenAt _,hf,hr,?_,?_⟩
 ·rw[h2.cellAt (k *2) (by omega),<-lC (k *2),rm oL ls k 0 hk (by omega)];rfl
 ·rw[h2.cellAt (k *2+1) (by omega),rm oL ls k 1 hk (by omega)];rfl
def eM.put {w:ah}{p:Nat}{ls:List (Int×Bool)}{F:Nat->Prop}(h:eM w p ls F){g k c:Nat}(hk:k<ls.length)(hg:w.cell? ⟨p,0,ai⟩=ae (.slice (ae ⟨g,0,ai⟩) ls.length c))(x:Int)(b:Bool):eM (UX w g (k *2) (.int .i64 x) (.bool b)) p (ls.set k (x,b)) F/\db F w (UX w g (k *2) (.int .i64 x) (.bool b)):=by
 obtain⟨v,h1,h2,h3,h4,h5⟩:=h;have hv:v=.slice (ae ⟨g,0,ai⟩) ls.length c:=by have:=h1.cell 0;rw[hg]at this;simpa using this.symm
 subst hv;rw[N2];have s1:=h2.stored (k *2) (.int .i64 x);have s2:=s1.1.stored (k *2+1) (.bool b);have eb:p≠g:=λe=>h3 (by rw[<-e];rfl)
 refine⟨⟨_,(h1.Hb eb _ _).Hb eb _ _,?_,h3,h4,h5⟩,(db.refl.setCell (bm (h5 g rfl)) _ _).setCell (bm (h5 g rfl)) _ _⟩;have:=s2.1;rw[<-lC (k *2),tw oL ls k 0 (x,ls[k].2) (.int .i64 x) hk (by omega) rfl,tw oL (ls.set k (x,ls[k].2)) k 1 (x,b) (.bool b) (by simpa using hk) (by omega) (by simp[yh])]at this;rw[List.set_set]at this;rw[de];exact this
def eM.live {w:ah}{p:Nat}{ls:List (Int×Bool)}{F:Nat->Prop}(h:eM w p ls F){g k c:Nat}(hk:k<ls.length)(hg:w.cell? ⟨p,0,ai⟩=ae (.slice (ae ⟨g,0,ai⟩) ls.length c))(b:Bool):eM (w.setCell ⟨g,k *2+1,ai⟩ (.bool b)) p (ls.set k ((ls.getD k (0,ay)).1,b)) F/\db F w (w.setCell ⟨g,k *2+1,ai⟩ (.bool b)):=by
 obtain⟨v,h1,h2,h3,h4,h5⟩:=h;have hv:v=.slice (ae ⟨g,0,ai⟩) ls.length c:=by have:=h1.cell 0;rw[hg]at this;simpa using this.symm
 subst hv;have s2:=h2.stored (k *2+1) (.bool b);have eb:p≠g:=λe=>h3 (by rw[<-e];rfl)
 have sN:ls.getD k (0,ay)=ls[k]:=by simp[bB,aq hk]
 refine⟨⟨_,h1.Hb eb _ _,?_,h3,h4,h5⟩,db.refl.setCell (bm (h5 g rfl)) _ _⟩;have:=s2.1;rw[tw oL ls k 1 (ls[k].1,b) (.bool b) hk (by omega) rfl]at this;rw[de,sN];exact this
def GL (F:Nat->Prop)(w w':ah):Nat->Prop:=λk=>F k\/w.heap.size<=k/\k<w'.heap.size
structure bU where
 at_:ah->(Nat->Prop)->Prop
 frame: ∀{w w':ah} {F G:Nat->Prop},at_ w F->db G w w'->(∀k,F k-> ¬G k)->at_ w' F
 cut: ∀{w:ah} {F G:Nat->Prop},at_ w F->(∀k,k<w.heap.size->F k->G k)->at_ w G
def Sep:List bU->ah->(Nat->Prop)->Prop
 | [],_,_=>True
 |A::l,w,F=> ∃F1 F2,A.at_ w F1/\Sep l w F2/\(∀k,F1 k-> ¬F2 k)/\ ∀k,F1 k\/F2 k->F k
section
variable {A A' B C D:bU} {l l':List bU} {w w' w0:ah} {F G:Nat->Prop}
def Sep.frame: ∀{l:List bU} {F:Nat->Prop},Sep l w F->db G w w'->(∀k,F k-> ¬G k)->Sep l w' F
 | [],_,_,_,_=>trivial
 |A::l,F,⟨F1,F2,h1,h2,h3,h4⟩,ho,hd=>⟨F1,F2,A.frame h1 ho λk hk=>hd k (h4 k (bm hk)),Sep.frame h2 ho λk hk=>hd k (h4 k (bO hk)),h3,h4⟩
def Sep.cut: ∀{l:List bU} {F G:Nat->Prop},Sep l w F->(∀k,k<w.heap.size->F k->G k)->Sep l w G
 | [],_,_,_,_=>trivial
 |A::l,F,G,⟨F1,F2,h1,h2,h3,h4⟩,hd=>
  ⟨λk=>F1 k/\k<w.heap.size,λk=>F2 k/\k<w.heap.size,A.cut h1 λk hk h=>⟨h,hk⟩,Sep.cut h2 λk hk h=>⟨h,hk⟩,λk a b=>h3 k a.1 b.1,λk h=>by
    rcases h with h|h
    ·exact hd k h.2 (h4 k (bm h.1))
    ·exact hd k h.2 (h4 k (bO h.1))⟩
def Sep.head (h:Sep (A::l) w F):A.at_ w F:=by obtain⟨F1,F2,h1,h2,h3,h4⟩:=h;exact A.cut h1 λk _ hk=>h4 k (bm hk)
def Sep.tail (h:Sep (A::l) w F):Sep l w F:=by obtain⟨F1,F2,h1,h2,h3,h4⟩:=h;exact h2.cut λk _ hk=>h4 k (bO hk)
def Sep.swap (h:Sep (A::B::l) w F):Sep (B::A::l) w F:=by
 obtain⟨F1,F2,h1,⟨F3,F4,g1,g2,g3,g4⟩,h3,h4⟩:=h;refine⟨F3,λk=>F1 k\/F4 k,g1,⟨F1,F4,h1,g2,λk a b=>h3 k a (g4 k (bO b)),λk h=>h⟩,λk a b=> ?_,λk h=> ?_⟩
 ·rcases b with b|b
  ·exact h3 k b (g4 k (bm a))
  ·exact g3 k a b
 ·rcases h with h|h|h
  ·exact h4 k (bO (g4 k (bm h)))
  ·exact h4 k (bm h)
  ·exact h4 k (bO (g4 k (bO h)))
def Sep.l0 {l l':List bU}(hl: ∀F,Sep l w F->Sep l' w F)(h:Sep (A::l) w F):Sep (A::l') w F:=by obtain⟨F1,F2,h1,h2,h3,h4⟩:=h;exact⟨F1,F2,h1,hl _ h2,h3,h4⟩
def Sep.perm (hp:l.Perm l'): ∀{F:Nat->Prop},Sep l w F->Sep l' w F:=by
 induction hp with
 |nil=>exact λh=>h
 |cons a _ ih=>exact λh=>h.l0 λ_=>ih
 |swap a b l=>exact λh=>h.swap
 |trans _ _ ih1 ih2=>exact λh=>ih2 (ih1 h)
structure In (F:Nat->Prop) (w0:ah) (l:List bU) (w:ah):Prop where
 sep:Sep l w (λk=>(F k\/w0.heap.size<=k)/\k<w.heap.size)
 only:db F w0 w
def In.nil (w:ah)(F:Nat->Prop):In F w [] w:=⟨trivial,db.refl⟩
def In.one (h:A.at_ w F):In F w [A] w:=⟨⟨λk=>F k/\k<w.heap.size,λ_=>False,A.cut h λk hk hf=>⟨hf,hk⟩,trivial,λ_ _ h=>h,λk h=>by rcases h with h|h;exact⟨bm h.1,h.2⟩;exact h.elim⟩,db.refl⟩
def In.start (h:Sep l w F):In F w l w:=⟨h.cut λk hk hf=>⟨bm hf,hk⟩,db.refl⟩
def In.perm (h:In F w0 l w)(hp:l.Perm l'):In F w0 l' w:=⟨h.sep.perm hp,h.only⟩
def In.swap (h:In F w0 (A::B::l) w):In F w0 (B::A::l) w:=⟨h.sep.swap,h.only⟩
def In.third (h:In F w0 (A::B::C::l) w):In F w0 (C::A::B::l) w:=⟨(h.sep.l0 λ_=>Sep.swap).swap,h.only⟩
def In.fourth (h:In F w0 (A::B::C::D::l) w):In F w0 (D::A::B::C::l) w:=⟨((h.sep.l0 λ_=>Sep.l0 λ_=>Sep.swap).l0 λ_=>Sep.swap).swap,h.only⟩
def In.drop (h:In F w0 (A::l) w):In F w0 l w:=⟨h.sep.tail,h.only⟩
def In.head (h:In F w0 (A::l) w): ∃F1,A.at_ w F1:=⟨_,h.sep.head⟩
def In.size (h:In F w0 l w):w0.heap.size<=w.heap.size:=h.only.size
def In.open_ (h:In F w0 (A::l) w): ∃F1,A.at_ w F1/\(∀k,F1 k->(F k\/w0.heap.size<=k)/\k<w.heap.size)/\ ∀{w':ah} {A':bU},A'.at_ w' (GL F1 w w')->db F1 w w'->In F w0 (A'::l) w':=by
 obtain⟨⟨F1,F2,h1,h2,h3,h4⟩,ho⟩:=h;refine⟨F1,h1,λk hk=>h4 k (bm hk),λ{w'} {A'} ha Wt=> ?_⟩;refine⟨⟨_,F2,ha,h2.frame Wt λk a b=>h3 k b a,λk a b=> ?_,λk h=> ?_⟩,ho.trans' Wt λk hk hf=> ?_⟩
 ·rcases a with a|a
  ·exact h3 k a b
  ·have:=(h4 k (bO b)).2;omega
 ·have hs:=Wt.size;have hs0:=ho.size;rcases h with(h|h)|h
  ·have:=h4 k (bm h);exact⟨this.1,by omega⟩
  ·exact⟨bO (by omega),h.2⟩
  ·have:=h4 k (bO h);exact⟨this.1,by omega⟩
 ·have:=h4 k (bm hf);rcases this.1 with h|h
  ·exact h
  ·omega
def In.new (h:In F w0 l w)(hb:Below w.heap.size w w')(ha:A.at_ w' (λk=>w.heap.size<=k)):In F w0 (A::l) w':=by
 obtain⟨hs,ho⟩:=h;have kJ:=hb.size;have aii:=ho.size;refine⟨⟨λk=>w.heap.size<=k/\k<w'.heap.size,_,A.cut ha λk hk hf=>⟨hf,hk⟩,hs.frame (G:=λk=>w.heap.size<=k) ?_ λk a b=>by omega,λk a b=>by omega,λk h=> ?_⟩,ho.trans (db.gA hb)⟩
 ·exact db.gA hb
 ·rcases h with h|h
  ·exact⟨bO (by omega),h.2⟩
  ·exact⟨h.1,by omega⟩
def In.below (h:In F w0 l w)(hb:Below w.heap.size w w'):In F w0 l w':=by have kJ:=hb.size;exact⟨(h.sep.frame (G:=λk=>w.heap.size<=k) (db.gA hb) λk a b=>by omega).cut λk _ hf=>⟨hf.1,by omega⟩,h.only.trans (db.gA hb)⟩
def In.drew (h:In F w0 l w):In F w0 l w.drew:=h.below (Below.refl _ _).drew
def In.done (h:In F w0 (A::l) w):A.at_ w (GL F w0 w)/\db F w0 w:=⟨A.cut h.sep.head λk _ hk=>by rcases hk.1 with h|h;exact bm h;exact bO ⟨h,hk.2⟩,h.only⟩
def In.jI (h:In (λ_=>False) w0 l w):Below w0.heap.size w0 w:=h.only.below (ax _) λ_ _ h=>h.elim
def In.fresh (h:In (λ_=>False) w0 (A::l) w):A.at_ w (λk=>w0.heap.size<=k):=A.cut h.sep.head λk _ hk=>by rcases hk.1 with h|h;exact h.elim;exact h
def In.aiw (h:In F w0 l w)(ht: ∀F,Sep l w F->Sep l' w F):In F w0 l' w:=⟨ht _ h.sep,h.only⟩
def In.old (h:In F w0 l w){k:Nat}(hk:k<w0.heap.size)(hF: ¬F k):w.heap[k]? =w0.heap[k]?:=h.only.block k hk hF
end
def br (g:Nat)(t:aA)(cs:Array ao):bU where
 at_ w F:=dt w g t cs/\F g
 frame h ho hd:=⟨ho.blk h.1 (hd _ h.2),h.2⟩
 cut h hd:=⟨h.1,hd _ h.1.lt h.2⟩
section
variable {l:List bU} {w w0:ah} {F:Nat->Prop} {g:Nat} {t:aA} {cs:Array ao}
def In.alloc (h:In F w0 l w)(t:aA)(cs:Array ao):In F w0 (br w.heap.size t cs::l) (w.alloc (.cells cs t)):=h.new ((Below.refl _ _).alloc (ax _) _) ⟨dt.new _ _ _,ax _⟩
def In.blk (h:In F w0 (br g t cs::l) w):dt w g t cs:=h.sep.head.1
def In.set (h:In F w0 (br g t cs::l) w)(i:Nat)(v:ao):In F w0 (br g t (cs.setIfInBounds i v)::l) (w.setCell ⟨g,i,ai⟩ v):=by obtain⟨F1,⟨h1,h2⟩,hF,hb⟩:=h.open_;exact hb (A':=br g t (cs.setIfInBounds i v)) ⟨h1.set i v,bm h2⟩ (db.refl.setCell (bm h2) _ _)
def db.putRow (w:ah)(g o:Nat)(xs:List Int):db (· =g) w (putRow w g o xs):=⟨rfl,rfl,rfl,by rw[jb];exact ax _,λq _ hq=>fz w g o xs q hq⟩
def In.put {ys:List Int}(h:In F w0 (br g t (ints ys)::l) w)(o:Nat)(xs:List Int):In F w0 (br g t (ints (ys.take o++xs++ys.drop (o+xs.length)))::l) (putRow w g o xs):=by obtain⟨F1,⟨h1,h2⟩,hF,hb⟩:=h.open_;exact hb (A':=br g t _) ⟨h1.put o xs,bm h2⟩ ((db.putRow w g o xs).mono λk _ e=>by rw[e];exact h2)
def In.eU {ys:List Int}(h:In F w0 (br g t (ints ys)::l) w)(xs:List Int)(hl:xs.length=ys.length):In F w0 (br g t (ints xs)::l) (putRow w g 0 xs):=by have:=h.put 0 xs;rwa[List.take_zero,cy,bS,hl,List.drop_length,ew]at this
def In.struct (h:In F w0 l w)(t:aA)(ys xs:List Int)(hl:xs.length=ys.length):In F w0 (br w.heap.size t (ints xs)::l) (Go.Proofs.YtknejlcijdngoaaGreat.putRow (w.alloc (.cells (ints ys) t)) w.heap.size 0 xs):=(h.alloc t (ints ys)).eU xs hl
end
def eD (E:aA)(size:Nat)(v:ao)(n:Nat)(xs:List ao):bU where
 at_ w F:=w.ownsRow 0 E size v n xs/\ ∀k,v.ownBlock=ae k->F k
 frame h ho hd:=⟨ho.own h.1 λk hk=>hd k (h.2 k hk),h.2⟩
 cut h hd:=⟨h.1,λk hk=>hd k (h.1.lt k hk).2 (h.2 k hk)⟩
def Col {α:Type}(T E:aA)(size:Nat)(enc:α->List ao)(p:Nat)(xs:List α):bU where
 at_ w F:=kM T E size enc w p xs F
 frame h ho hd:=h.only ho hd
 cut h hd:=h.mono hd
section
variable {κ:Type} [DecidableEq κ] {l:List bU} {ks:List κ} {f:κ->bU} {F:Nat->Prop} {w0 w:ah}
def T5 {k:κ}{g:κ->bU}(hn:ks.Nodup)(A:bU):(ks.erase k).map (λj=>if j=k then A else g j)=(ks.erase k).map g:=by apply dx;intro j hj;rw[if_neg];rintro rfl;exact(List.Nodup.not_mem_erase hn) hj
def In.KS (h:In F w0 (l++ks.map f) w)(hn:ks.Nodup){k:κ}(hk:k∈ks): ∃F1,(f k).at_ w F1/\(∀k,F1 k->(F k\/w0.heap.size<=k)/\k<w.heap.size)/\ ∀(w':ah) (A':bU),A'.at_ w' (GL F1 w w')->db F1 w w'->In F w0 (l++ks.map (λj=>if j=k then A' else f j)) w':=by
 have hp:(l++ks.map f).Perm (f k::(l++(ks.erase k).map f)):=(dy l ((List.perm_cons_erase hk).map f)).trans List.perm_middle
 obtain⟨F1,h1,h2,h3⟩:=(h.perm hp).open_;refine⟨F1,h1,h2,λw' A' ha ho=>(h3 ha ho).perm ?_⟩;have Nd:(l++ks.map (λj=>if j=k then A' else f j)).Perm ((if k=k then A' else f k)::(l++(ks.erase k).map (λj=>if j=k then A' else f j))):=(dy l ((List.perm_cons_erase hk).map (λj=>if j=k then A' else f j))).trans List.perm_middle
 rw[if_pos rfl,T5 hn]at Nd;exact Nd.symm
def In.ZI (h:In F w0 (l++ks.map f) w)(hn:ks.Nodup){k:κ}(hk:k∈ks): ∃F1,(f k).at_ w F1:=by obtain⟨F1,h1,_⟩:=h.KS hn hk;exact⟨F1,h1⟩
end
def Sep.join {w:ah}: ∀{l1 l2:List bU} {F1 F2:Nat->Prop},Sep l1 w F1->Sep l2 w F2->(∀k,F1 k-> ¬F2 k)->Sep (l1++l2) w (λk=>F1 k\/F2 k)
 | [],_,_,_,_,h2,_=>h2.cut λ_ _ h=>bO h
 |A::l1,_,_,_,⟨G1,G2,g1,g2,g3,g4⟩,h2,hd=>⟨G1,_,g1,Sep.join g2 h2 (λk a b=>hd k (g4 k (bO a)) b),λk a b=>by rcases b with b|b;exact g3 k a b;exact hd k (g4 k (bm a)) b,λk h=>by rcases h with h|h|h;exact bm (g4 k (bm h));exact bm (g4 k (bO h));exact bO h⟩
def Sep.part {w:ah}: ∀{l1 l2:List bU} {F:Nat->Prop},Sep (l1++l2) w F-> ∃F1 F2,Sep l1 w F1/\Sep l2 w F2/\(∀k,F1 k-> ¬F2 k)/\ ∀k,F1 k\/F2 k->F k
 | [],_,F,h=>⟨λ_=>False,F,trivial,h,λ_ h=>h.elim,λk h=>by rcases h with h|h;exact h.elim;exact h⟩
 |A::l1,l2,F,⟨G1,G2,g1,g2,g3,g4⟩=>by
  obtain⟨H1,H2,k1,k2,k3,k4⟩:=Sep.part g2;refine⟨λk=>G1 k\/H1 k,H2,⟨G1,H1,g1,k1,λk a b=>g3 k a (k4 k (bm b)),λk h=>h⟩,k2,λk a b=> ?_,λk h=> ?_⟩
  ·rcases a with a|a
   ·exact g3 k a (k4 k (bO b))
   ·exact k3 k a b
  ·rcases h with(h|h)|h
   ·exact g4 k (bm h)
   ·exact g4 k (bO (k4 k (bm h)))
   ·exact g4 k (bO (k4 k (bO h)))
def In.XJ {l:List bU}{F:Nat->Prop}{w0 w:ah}(h:In F w0 l w):Sep l w (GL F w0 w)/\db F w0 w:=⟨h.sep.cut λk _ hk=>by rcases hk.1 with h|h;exact bm h;exact bO ⟨h,hk.2⟩,h.only⟩
def An (w:ah)(t t':aA)(us zs xs:List Int):fits ((w.alloc (.cells (ints us) t)).alloc (.cells (ints zs) t')) w.heap.size 0 us.length=aw/\fits (putRow ((w.alloc (.cells (ints us) t)).alloc (.cells (ints zs) t')) w.heap.size 0 xs) (w.heap.size+1) 0 zs.length=aw:=by have h2:=dt.new (w.alloc (.cells (ints us) t)) t' (ints zs);rw[dw]at h2;exact⟨((dt.new w t (ints us)).alloc _).fits 0 _ (by rw[bD];omega),(h2.zW (g':=w.heap.size) 0 xs (by omega)).fits 0 _ (by rw[bD];omega)⟩
def In.Dz {F:Nat->Prop}{w0 w:ah}{l:List bU}(h:In F w0 l w)(t t':aA)(us zs xs ys:List Int)(h1:xs.length=us.length)(h2:ys.length=zs.length):In F w0 (br (w.heap.size+1) t' (ints ys)::br w.heap.size t (ints xs)::l) (Go.Proofs.YtknejlcijdngoaaGreat.putRow (Go.Proofs.YtknejlcijdngoaaGreat.putRow ((w.alloc (.cells (ints us) t)).alloc (.cells (ints zs) t')) w.heap.size 0 xs) (w.heap.size+1) 0 ys):=by have g:=(h.alloc t (ints us)).alloc t' (ints zs);rw[dw]at g;exact((g.swap.eU xs h1).swap).eU ys h2
def In.fifth {F:Nat->Prop}{w0 w:ah}{A B C D E:bU}{l:List bU}(h:In F w0 (A::B::C::D::E::l) w):In F w0 (E::A::B::C::D::l) w:=⟨((h.sep.l0 λ_=>Sep.l0 λ_=>Sep.l0 λ_=>Sep.swap).l0 λ_=>Sep.l0 λ_=>Sep.swap).l0 (λ_=>Sep.swap)|>.swap,h.only⟩
def zm:(Tryz.prog.info? 43).map (λi=>(i.zero,i.size,i.bytes))=ae (ae (.agg #[.int .i64 0,.int .i64 0]),2,16):=by kernel_rfl
def CS (A:Option Addr)(n c:Nat)(xs:List ao)(w:ah)(B:Nat)(h:Reads w B 2 A n xs)(h1: ∀u∈xs,u.oneCell'=aw)(hA:(A=ai/\n=0/\c=0)\/ ∃b o,A=ae ⟨b,o,ai⟩)(hn:n<=1000000):Calls aj 148 #[.slice A n c] w λe w'=> ∃v,e=.returned v/\w'.ownsRow w.heap.size 43 2 v n xs/\Below w.heap.size w w':=by
 have H:=af h;have H1:=af h1;clear h h1;have he:=λw E hE n c n' c' a=>Lib.run_eql_slice_nil (P:=aj) w 122 E a n c n' c' hE
 have he2:=λw n c n' c' a=>he w _ Tryz.underlying122 n c n' c' a
 clear he;rcases hA with⟨rfl,rfl,rfl⟩|⟨b,o,rfl⟩
 ·have hx:Hid (xs=[]):=by have:=H.out.1;exact ft (by omega)
  clear hn
  go_enter Tryz.func148,Tryz.ntmps148
  go_wp2_with fail
  go_ret;exact⟨_,rfl,by rw[hx.out];exact oh _ _ _ _,Below.refl _ _⟩
 ·skip
  have Et:Hid (∀j u,xs[j]? =ae u->w.cell? ⟨b,o+j,ai⟩=ae u):=by
   unfold Hid;intro j u hu;have hj:=(bz.1 hu).1;have hl:=H.out.1;obtain⟨b',o',e,_,hc⟩:=H.out.2 (by rcases lQ n with h|h;rw[h]at hl;omega;exact h);injection e with e
   injection e with e1 e2 e3
   subst e1;subst e2;exact hc j u hu
  obtain⟨i0,qE,uM,sX,tH⟩:=info_parts zm
  go_enter Tryz.func148,Tryz.ntmps148
  go_wp2_with (at_builtin;go_loud (refine wpList_append_own_at _ rfl _ _ _ rfl w.heap.size 43 i0 _ 2 16 Tryz.underlying122 qE uM sX tH rfl (by decide) _ 0 [] rfl ?_ ⟨b,o,ai⟩ n c xs rfl H.out.1 ?_ H1.out (by unfold maxLen;omega) (by omega) (by simp) ?_))
  case refine_1=>exact⟨rfl,bO ⟨w.heap.size,0,#[],rfl,ax _,heap_alloc_new w _,ax _,by decide,rfl,rfl⟩⟩
  case refine_2=>intro j u hu;have hj:=Et.out j u hu;rw[Addr.add_lit];exact(((Below.refl w.heap.size w).alloc (ax _) _).cell (p:=⟨b,o+j,ai⟩) (rX _ _ hj)).trans hj
  intro v' w' jg hg _ _;have HB:Hid (Below w.heap.size w w'):=((Below.refl w.heap.size w).alloc (ax _) _).grown hg (by simp) (λk hk=>by simp[fx]at hk;omega);have HO:=af jg;clear jg hg
  go_wp2_with fail
  go_ret;exact⟨_,rfl,HO.out,HB.out⟩
def lT (x:Int×Bool):Bool:= !x.2&&decide (x.1<1000000)
def uI (ls:List (Int×Bool)):Int:=if ls.findIdx lT<ls.length then(ls.findIdx lT:Nat)else-1
def Lq (x:Int)(b:Bool)(w:ah):Calls aj 173 #[.agg #[.int .i64 x,.bool b]] w λe w'=>e=.returned (.bool (lT (x,b)))/\Below w.heap.size w w':=by
 have hd:Hid (lT (x,b)=(!b&&decide (x<1000000))):=rfl;cases b
 all_goals
  go_enter Tryz.func173,Tryz.ntmps173
  go_wp2_with fail
  go_ret;exact⟨eu (by rw[hd.out];simp),(Below.refl _ _).alloc (ax _) _⟩
def SP (w:ah):Calls aj 144 #[] w λe w'=>e=.returned (.pointer (ae ⟨w.heap.size,0,ai⟩))/\eM w' w.heap.size [] (GL (λ_=>False) w w')/\Below w.heap.size w w':=by
 go_enter Tryz.func144,Tryz.ntmps144
 go_wp2_with fail
 go_ret;exact⟨rfl,⟨.slice ai 0 0,dt.new _ _ _,oh _ _ _ _,by simp[fx],bO ⟨ax _,by simp⟩,λk hk=>by simp[fx]at hk⟩,(Below.refl _ _).alloc (ax _) _⟩
def JB {w:ah}{B:Nat}{A:Option Addr}{c:Nat}{ls:List (Int×Bool)}(h:w.ownsRow B 172 2 (.slice A ls.length c) ls.length (ls.flatMap yh)){k:Nat}(hk:k<ls.length): ∃g,A=ae ⟨g,0,ai⟩/\row? w g (k *2) 2=ae #[.int .i64 (ls.getD k (0,ay)).1,.bool (ls.getD k (0,ay)).2]:=by
 obtain⟨A',c',e,vA,uL,hA⟩:=cM h;obtain⟨g,hg⟩:=hA (by omega);injection e with e1 e2 e3
 subst e1;subst hg;have sN:ls.getD k (0,ay)=ls[k]:=by simp[bB,aq hk]
 have hr:=mD h hk;rw[mv oL ls k hk]at hr;exact⟨g,rfl,by rw[sN];exact hr⟩
def Hn (A:Option Addr)(c:Nat)(ls:List (Int×Bool))(w:ah)(h:w.ownsRow 0 172 2 (.slice A ls.length c) ls.length (ls.flatMap yh))(hn:ls.length<=1000000):Calls aj 172 #[.slice A ls.length c,.func (.func 173) #[] #[]] w λe w'=>e=.returned (.int .i64 (uI ls))/\Below w.heap.size w w':=by
 have H:=af h;clear h
 go_enter Tryz.func172,Tryz.ntmps172
 go_wp2_with fail
 go_loopw [8] (λi w'=> ∃k:Nat,k<=ls.length/\i=.int .i64 k/\(∀j,j<k->lT (ls.getD j (0,ay))=ay)/\Below w.heap.size w w') (λi _=>ls.length-(intOf i).toNat)
 case atStart=>exact⟨0,by omega,rfl,λj hj=>by omega,Below.refl _ _⟩
 case round=>
  obtain⟨k,hk,rfl,Es,hb⟩:=hrel;have yo:=af Es;have xc:=af hb;clear Es hb;by_cases bJ:k<ls.length
  ·have vI:(k:Int)<ls.length:=by omega
   obtain⟨g,rfl,fg⟩:=JB (tS H.out xc.out) bJ;generalize hx:ls.getD k (0,ay)=x at *;obtain⟨x,b⟩:=x;have HX:=af hx;clear hx
   go_wp2_with fail
   refine(Lq x b _).mono ?_;rintro e w1 ⟨rfl,lJ⟩;have qk:=af (xc.out.trans (lJ.mono xc.out.size));clear lJ;cases hF:lT (x,b)
   ·have HF:=af hF;clear hF
    go_wp2_with fail
    go_roundw
    case rel=>
     refine⟨k+1,by omega,by go_num,λj hj=> ?_,qk.out⟩;by_cases yy:j=k
     ·rw[yy,HX.out];exact HF.out
     ·exact yo.out j (by omega)
    case measure=>simp[intOf];omega
   ·have HIX:Hid (uI ls=(k:Int)):=by
     have:ls.findIdx lT=k:=by
      rw[List.findIdx_eq bJ];have sN:ls.getD k (0,ay)=ls[k]:=by simp[bB,aq bJ]
      refine⟨by rw[<-sN,HX.out];exact hF,λj hj=> ?_⟩;have:=yo.out j hj;simpa[bB,aq (show j<ls.length by omega)]using this
     unfold Hid uI;rw[this,if_pos bJ]
    clear hF
    go_wp2_with fail
    go_ret;exact⟨gd HIX.out.symm,qk.out⟩
  ·have HIX:Hid (uI ls= -1):=by unfold Hid uI;rw[if_neg];intro C0;have h1:=List.findIdx_getElem (w:=C0);have h2:=yo.out (ls.findIdx lT) (by omega);simp only[bB,aq C0,bT]at h2;rw[h2]at h1;exact absurd h1 (by simp)
   go_wp2_with fail
   go_ret;exact⟨gd HIX.out.symm,xc.out⟩
def zl:(Tryz.prog.info? 149).map (λi=>(i.zero,i.size,i.bytes))=ae (ae (.agg #[.int .i64 0,.int .i64 0,.int .i64 0,.int .i64 0,.int .i64 0,.int .i64 0,.int .i64 0,.int .i64 0,.int .i64 0,.int .i64 0,.int .i64 0,.int .i64 0,.int .i64 0,.int .i64 0,.int .i64 0,.int .i64 0,.int .i64 0,.int .i64 0,.int .i64 0,.int .i64 0]),20,160):=by kernel_rfl
def CR (A:Option Addr)(n c:Nat)(xs:List ao)(w:ah)(B:Nat)(h:Reads w B 20 A n xs)(h1: ∀u∈xs,u.oneCell'=aw)(hA:(A=ai/\n=0/\c=0)\/ ∃ad,A=ae ad)(hn:n<=879609302195):Calls aj 83 #[.slice A n c] w λe w'=> ∃v,e=.returned v/\w'.ownsRow w.heap.size 149 20 v n xs/\Below w.heap.size w w':=by
 have H:=af h;have H1:=af h1;clear h h1;have he:=λw E hE n c n' c' a=>Lib.run_eql_slice_nil (P:=aj) w 85 E a n c n' c' hE
 have he2:=λw n c n' c' a=>he w _ Tryz.underlying85 n c n' c' a
 clear he;rcases hA with⟨rfl,rfl,rfl⟩|⟨ad,rfl⟩
 ·have hx:Hid (xs=[]):=by have:=H.out.1;exact ft (by omega)
  clear hn
  go_enter Tryz.func83,Tryz.ntmps83
  go_wp2_with fail
  go_ret;exact⟨_,rfl,by rw[hx.out];exact oh _ _ _ _,Below.refl _ _⟩
 ·skip
  have Et:Hid (∀j u,xs[j]? =ae u->w.cell? (ad.add j)=ae u):=by
   unfold Hid;intro j u hu;have hj:=(bz.1 hu).1;have hl:=H.out.1;obtain⟨b',o',e,_,hc⟩:=H.out.2 (by rcases lQ n with h|h;rw[h]at hl;omega;exact h);injection e with e
   subst e;rw[Addr.add_lit];exact hc j u hu
  obtain⟨i0,qE,uM,sX,tH⟩:=info_parts zl
  go_enter Tryz.func83,Tryz.ntmps83
  go_wp2_with (at_builtin;go_loud (refine wpList_append_own_at _ rfl _ _ _ rfl w.heap.size 149 i0 _ 20 160 Tryz.underlying85 qE uM sX tH rfl (by decide) _ 0 [] rfl ?_ ad n c xs rfl H.out.1 ?_ H1.out (by unfold maxLen;omega) (by omega) (by simp) ?_))
  case refine_1=>exact⟨rfl,bO ⟨w.heap.size,0,#[],rfl,ax _,heap_alloc_new w _,ax _,by decide,rfl,rfl⟩⟩
  case refine_2=>intro j u hu;have hj:=Et.out j u hu;exact(((Below.refl w.heap.size w).alloc (ax _) _).cell (p:=ad.add j) (rX _ _ hj)).trans hj
  intro v' w' jg hg _ _;have HB:Hid (Below w.heap.size w w'):=((Below.refl w.heap.size w).alloc (ax _) _).grown hg (by simp) (λk hk=>by simp[fx]at hk;omega);have HO:=af jg;clear jg hg
  go_wp2_with fail
  go_ret;exact⟨_,rfl,HO.out,HB.out⟩
def iD {w w':ah}{g o n:Nat}{x:Array ao}(hb:Below w.heap.size w w')(h:row? w g o n=ae x):row? w' g o n=ae x:=by
 have bJ:g<w.heap.size:=by
  unfold row? at h
  split at h
  ·rename_i hg;exact(aI.1 hg).1
  ·cases h
 rw[kB hb bJ];exact h
def Bt {w:ah}{g o n:Nat}{x:Array ao}(ob:Obj)(h:row? w g o n=ae x):row? (w.alloc ob) g o n=ae x:=iD ((Below.refl _ _).alloc (ax _) _) h
def In.Zi {G:Nat->Prop}{w0 w:ah}{l:List bU}(h:In G w0 l w)(E:aA)(size n:Nat)(xs:List ao)(hl:xs.length=n *size)(hn:n<=maxLen):In G w0 (eD E size (.slice (ae ⟨w.heap.size,0,ai⟩) n n) n xs::l) (w.alloc (.cells xs.toArray E)):=h.new (A:=eD E size (.slice (ae ⟨w.heap.size,0,ai⟩) n n) n xs) ((Below.refl _ _).alloc (ax _) _) ⟨⟨hl,bO ⟨w.heap.size,n,xs.toArray,rfl,cE _,heap_alloc_new w _,ax _,hn,by simpa using hl,by simp[<-hl]⟩⟩,λk hk=>by simp[fx]at hk;omega⟩
def EV {α:Type}{enc:α->List ao}{f:α->List Int}{size:Nat}{w:ah}{E:aA}{v:ao}{xs:List α}(he: ∀x,enc x=(f x).map (aF .i64))(hf: ∀x,(f x).length=size)(h:w.ownsRow 0 E size v xs.length (xs.flatMap enc)): ∃A c,v=.slice A xs.length c/\xs.length<=c/\c<=maxLen/\fi w w.heap.size size A (xs.map f)/\(0<xs.length-> ∃g,A=ae ⟨g,0,ai⟩):=by obtain⟨A,c,rfl,vA,uL,hA⟩:=cM h;refine⟨A,c,rfl,vA,uL,⟨λr hr=>by obtain⟨x,_,rfl⟩:=aH.1 hr;exact hf x,λh0=> ?_⟩,hA⟩;rw[aL]at h0;obtain⟨g,rfl⟩:=hA h0;refine⟨g,0,rfl,(h.lt g rfl).2,λk r hr=> ?_⟩;rw[dN]at hr;obtain⟨x,hx,rfl⟩:=aJ.1 hr;obtain⟨hk,rfl⟩:=bz.1 hx;have:=mD h hk;rw[mv (λx=>by rw[he,aL,hf]) xs k hk,he]at this;rw[bS];exact this
def OP {P:aS}{f:bK}{args:Array ao}{w:ah}{v:ao}(h:Calls P f args w λe w'=>e=.returned v/\w=w'):Calls P f args w λe w'=>e=.returned v/\w'=w:=h.mono λ_ _ ⟨h1,h2⟩=>⟨h1,h2.symm⟩
def R7 (n:Int)(w:ah):Calls aj 90 #[.int .i64 n] w λe w'=>e=.returned (.int .i64 (CU n))/\w=w':=by
 have hd:Hid (CU n=if n< -1000000000 then-1000000000 else if 1000000000<n then 1000000000 else n):=rfl
 go_enter Tryz.func90,Tryz.ntmps90
 go_wp2_with fail
 all_goals go_ret
 all_goals refine⟨gd ?_,rfl⟩
 all_goals rw[hd.out]
 all_goals (split<;>(try split)<;>omega)
def XF (n:Int)(w:ah):Calls aj 90 #[.int .i64 n] w λe w'=>e=.returned (.int .i64 (CU n))/\w'=w:=(R7 n w).mono λ_ _ h=>⟨h.1,h.2.symm⟩
def DK (w:ah)(g:Nat)(b:aQ)(s:Sys)(w1:ah):Prop:=dt w1 g 48 (ints b.list)/\dt w1 (g+1) 54 (ints s.list)/\dt w1 (g+1+1) 48 (ints [0,0,0,0,0,0,0,0,0])/\Below g w w1
def DK.after {w w1 w2:ah}{g:Nat}{b:aQ}{s:Sys}(h:DK w g b s w1)(hb:Below w1.heap.size w1 w2):DK w g b s w2:=⟨h.1.after hb,h.2.1.after hb,h.2.2.1.after hb,h.2.2.2.trans (hb.mono (by have:=h.1.lt;omega))⟩
def DK.facts {w w1:ah}{g:Nat}{b:aQ}{s:Sys}(h:DK w g b s w1)(hb:b.v.length=8):w1.cell? ⟨g,0,ai⟩=ae (.int .i64 b.k)/\w1.cell? ⟨g+1,3,ai⟩=ae (.int .i64 s.read)/\w1.cell? ⟨g+1,4,ai⟩=ae (.int .i64 s.write)/\w1.cell? ⟨g+1,5,ai⟩=ae (.int .i64 s.act)/\w1.cell? ⟨g+1,6,ai⟩=ae (.int .i64 s.n)/\row? w1 (g+1) 0 3=ae (ints s.q.list)/\row? w1 g 0 9=ae (ints b.list)/\fits w1 (g+1+1) 0 9=aw:=⟨h.1.cell 0,h.2.1.cell 3,h.2.1.cell 4,h.2.1.cell 5,h.2.1.cell 6,h.2.1.eJ 0 3 (by simp[Sys.list]),h.1.bt (by simp[aQ.list,hb]),h.2.2.1.fits 0 9 (by decide)⟩
def JG {s:Sys}(h:fa s=0):cY s.q.qx=aw/\cY s.q.nt=aw/\cY s.q.any=aw/\cY s.read=aw/\cY s.write=aw/\1<=s.act/\s.act<=3/\ -1000000<=s.n/\s.n<=1000000/\(s.act=3->s.n=0)/\(s.act≠2->s.read=0):=by
 unfold fa at h
 split at h
 ·omega
 ·rename_i hq
  split at h
  ·omega
  ·split at h
   ·omega
   ·rename_i h1 h2
    have vm:kr s.q=0:=by omega
    unfold kr at vm
    split at vm
    ·rename_i h3
     simp only[aG]at h3;simp only[gi,iT,decide_eq_true_eq,aG,not_or,not_and]at h1 h2;refine⟨h3.1.1,h3.1.2,h3.2,by simpa using h1.1.1.1.1.1,by simpa using h1.1.1.1.1.2,by omega,by omega,by omega,by omega,?_,?_⟩
     ·intro h;have:=h2.1 h;omega
     ·intro h;have:=h2.2 h;omega
    ·omega
def I6 {m:Int}:cY m=aw↔0<=m/\m<=255:=by simp[cY]
def FD (b:aQ)(he: ∀j,j<8->(b.k.toNat.testBit j=ay->b.v.getD j 0=0)/\ -1000000000<=b.v.getD j 0/\b.v.getD j 0<=1000000000)(s:Sys)(l:List Nat)(hl: ∀k∈l,k<8):s.n-1000000000 *l.length<=oe b s l/\oe b s l<=s.n+1000000000 *l.length:=by
 have h: ∀(l:List Nat) (a:Int),(∀k∈l,k<8)->a-1000000000 *l.length<=l.foldl (λa k=>a+b.v.getD k 0) a/\l.foldl (λa k=>a+b.v.getD k 0) a<=a+1000000000 *l.length:=by
  intro l
  induction l with
  |nil=>intro a _;simp
  |cons k l ih=>
   intro a hl;have h1:=ih (a+b.v.getD k 0) λq hq=>hl q (by simp[hq])
   have h2:=(he k (hl k (by simp))).2;rw[l9,aD];omega
 exact h l s.n hl
def Rn (b:aQ)(s:Sys)(l:List Nat)(k:Nat):oe b s (l++[k])=oe b s l+b.v.getD k 0:=by simp[oe]
def pQ (w:ah)(g g6:Nat)(b:aQ)(s:Sys)(A:Option Addr)(q:Nat)(l:List Int)(vals:List Int)(w1:ah):Prop:=DK w g b s w1/\dt w1 g6 48 (ints (b.k::vals))/\g+2<g6/\sE w1 g6 A q l
def pQ.after {w w1 w2:ah}{g g6:Nat}{b:aQ}{s:Sys}{A:Option Addr}{q:Nat}{l vals:List Int}(h:pQ w g g6 b s A q l vals w1)(hb:Below w1.heap.size w1 w2):pQ w g g6 b s A q l vals w2:=⟨h.1.after hb,h.2.1.after hb,h.2.2.1,Reads.below h.2.2.2 (hb.mono (by have:=h.2.1.lt;omega))⟩
def pQ.set {w w1:ah}{g g6:Nat}{b:aQ}{s:Sys}{A:Option Addr}{q:Nat}{l vals:List Int}(h:pQ w g g6 b s A q l vals w1)(k:Nat)(x:Int):pQ w g g6 b s A q l (vals.set k x) (w1.setCell ⟨g6,1+k,ai⟩ (.int .i64 x)):=by
 obtain⟨⟨h1,h2,h3,h4⟩,h5,h6,h7⟩:=h;refine⟨⟨h1.Hb (by omega) _ _,h2.Hb (by omega) _ _,h3.Hb (by omega) _ _,h4.setCell (p:=⟨g6,1+k,ai⟩) (by show g<=g6;omega) _⟩,?_,h6,?_⟩
 ·have:=h5.set (1+k) (.int .i64 x);rwa[ints_set,dA 1 k,List.set_cons_succ,dA k 1]at this
 ·exact Reads.keep h7 λb' o jP=>World.cell?_setCell_other w1 ⟨g6,1+k,ai⟩ ⟨b',o,ai⟩ _ (λe=>by injection e;omega)
def pQ.drew {w w1:ah}{g g6:Nat}{b:aQ}{s:Sys}{A:Option Addr}{q:Nat}{l vals:List Int}(h:pQ w g g6 b s A q l vals w1):pQ w g g6 b s A q l vals w1.drew:=h.after (Below.refl _ _).drew
def wA {w:ah}{B:Nat}{A:Option Addr}{M j:Nat}(h:sE w B A (kinds M).length (eQ M))(hj:j<(kinds M).length): ∃bl o k,A=ae ⟨bl,o,ai⟩/\w.cell? ⟨bl,o+j,ai⟩=ae (.int .i64 ((k:Nat):Int))/\Hid (k=(kinds M).getD j 0)/\k∈kinds M/\k<8/\Hid ((kinds M).take (j+1)=(kinds M).take j++[k]):=by
 obtain⟨bl,o,hA,_,hl,hc⟩:=h.at_ hj;have hk:(eQ M)[j]=(((kinds M)[j]:Nat):Int):=by simp[eQ]
 rw[hk]at hc;exact⟨bl,o,(kinds M)[j],hA,hc,by simp[Hid,bB,aq hj],bg hj,((jN M _).1 (bg hj)).1,bh hj⟩
def XI (b:aQ)(s:Sys)(hb:b.v.length=8)(he:bI b=0)(hs:fa s=0)(w:ah):Calls aj 39 #[.agg (ints b.list),.agg (ints s.list)] w λe w'=>e=.returned (.agg (ints (cD b s).list))/\Below w.heap.size w w':=by
 obtain⟨hk,hv⟩:=mU b he;obtain⟨_,_,_,hr,YR,aiB,aiC,hn1,hn2,hsw,Qf⟩:=JG hs;obtain⟨Uu,Qj⟩:=KG b.k s.write hk (I6.1 YR);obtain⟨hr1,Aw⟩:=KG b.k s.read hk (I6.1 hr);have HW:=af Uu;have HR:=af hr1;have HB:=af hb;have HV:=af hv;clear hb he hs hr YR Uu hr1 hsw Qf hv;have zJ:b.list.length=9:=by simp[aQ.list,HB.out]
 go_enter Tryz.func39,Tryz.ntmps39
 go_upto_region 1 with(fail)
 refine bZ (DK w w.heap.size b s) ?_ ?_
 ·obtain⟨h1,h2,h3⟩:=ahC w 48 54 48 (ints b.list) (ints s.list) (ints [0,0,0,0,0,0,0,0,0]);exact⟨h1,h2,h3,(((Below.refl _ _).alloc (ax _) _).alloc (by simp) _).alloc (by simp;omega) _⟩
 intro w1 hM;obtain⟨f0,f3,f4,f5,f6,fq,fb,ff⟩:=hM.facts HB.out;have HM:=af hM;clear hM
 go_wp2_with fail
 refine(EI _ _ _).mono ?_;rintro e w2 ⟨rfl,gF⟩;have CO:=af (HM.out.after gF);clear f0 f3 f4 f5 f6 fq fb ff gF HM;obtain⟨f0,f3,f4,f5,f6,fq,fb,ff⟩:=CO.out.facts HB.out;by_cases hq:fO b.k s.q=aw
 ·have hd:Hid (cD b s=⟨b.k,rO (jq b s (wl b s)) (wl b s) b.v (wl b s).length⟩):=by unfold Hid cD;rw[if_pos hq]
  rw[hq];clear hq;have ahL:Hid (m8 (bits .and .i64 b.k s.write)=b.k.toNat &&& s.write.toNat):=by unfold Hid;rw[HW.out];unfold m8;omega
  have ahK:Hid (m8 (bits .and .i64 b.k s.read)=b.k.toNat &&& s.read.toNat):=by unfold Hid;rw[HR.out];unfold m8;omega
  have hwl:Hid (wl b s=kinds (b.k.toNat &&& s.write.toNat)):=rfl;have Dn:Hid (rl b s=kinds (b.k.toNat &&& s.read.toNat)):=rfl;generalize b.k.toNat &&& s.write.toNat=M at *;generalize b.k.toNat &&& s.read.toNat=N at *
  go_wp2_with fail
  refine(wD _ _).mono ?_;rintro e w3 ⟨v,rfl,ho,IV⟩;rw[ahL.out]at ho;obtain⟨A,c,rfl,hr⟩:=ho.form;have hlen:(eQ M).length=(kinds M).length:=by simp[eQ]
  rw[hlen]at hr|-;clear hlen;have RS:=af (CO.out.after IV);clear f0 f3 f4 f5 f6 fq fb ff;obtain⟨f0,f3,f4,f5,f6,fq,fb,ff⟩:=RS.out.facts HB.out;have hfz:fits (w3.alloc (.cells (ints [0,0,0,0,0,0,0,0,0]) 48)) w3.heap.size 0 9=aw:=(dt.new w3 48 (ints [0,0,0,0,0,0,0,0,0])).fits 0 9 (by decide);have HO:=af ho;have HR3:=af hr;clear ho hr CO IV
  go_upto_region 5 with(fail)
  have Wl:w.heap.size+2<w3.heap.size:=by have:=RS.out.2.2.1.lt;omega
  refine bZ (pQ w w.heap.size w3.heap.size b s A (kinds M).length (eQ M) b.v) ?_ ?_
  ·have af2:Below w3.heap.size w3 (putRow (w3.alloc (.cells (ints [0,0,0,0,0,0,0,0,0]) 48)) w3.heap.size 0 b.list):=jL ((Below.refl _ _).alloc (ax _) _) (ax _) _ _
   exact⟨RS.out.after af2,(dt.new w3 48 (ints [0,0,0,0,0,0,0,0,0])).eU b.list zJ,Wl,Reads.below HR3.out af2⟩
  clear hfz HR3 HO;intro w4 hM4;have HM4:=af hM4;clear hM4 RS f0 f3 f4 f5 f6 fq fb ff;generalize w3.heap.size=g6 at *;obtain⟨f0,f3,f4,f5,f6,fq,fb,ff⟩:=HM4.out.1.facts HB.out
  go_wp2_with fail
  refine(wD _ _).mono ?_;rintro e w5 ⟨v,rfl,ho,Wh⟩;rw[ahK.out]at ho;obtain⟨A5,c5,rfl,hr5⟩:=ho.form;have hlen:(eQ N).length=(kinds N).length:=by simp[eQ]
  rw[hlen]at hr5|-;clear hlen;have HM5:=af (HM4.out.after Wh);have HR5:=af hr5;clear f0 f3 f4 f5 f6 fq fb ff ho hr5 HM4;obtain⟨f0,f3,f4,f5,f6,fq,fb,ff⟩:=HM5.out.1.facts HB.out;clear Wh;have hn8:=qF N
  go_wp2_with fail
  go_loop [7,35] (λsm i=> ∃j:Nat,j<=(kinds N).length/\i=.int .i64 j/\sm=.int .i64 (oe b s ((kinds N).take j))) (λ_ i=>(kinds N).length-(intOf i).toNat)
  case atStart=>exact⟨0,cE _,rfl,rfl⟩
  case round=>
   obtain⟨j,hj,rfl,rfl⟩:=hrel;by_cases bJ:j<(kinds N).length
   ·obtain⟨bl,o,k,rfl,hc,_,Yy,tD,Qi⟩:=wA HR5.out bJ;have hcv:w5.cell? ⟨w.heap.size,1+k,ai⟩=ae (.int .i64 (b.v.getD k 0)):=by rw[HM5.out.1.1.cell,lg,dA];simp only[aQ.list,e8];rw[aq (by rw[HB.out];exact tD)];simp[bB,aq (show k<b.v.length by rw[HB.out];exact tD)]
    obtain⟨xY,KA⟩:=(HV.out k tD).2;obtain⟨C2,tF⟩:=FD b HV.out s ((kinds N).take j) (λq hq=>((jN N q).1 (pN hq)).1);have sa:((kinds N).take j).length<=8:=by rw[cK];omega
    have hsn:Hid (oe b s ((kinds N).take (j+1))=oe b s ((kinds N).take j)+b.v.getD k 0):=by unfold Hid;rw[Qi.out,Rn]
    clear Qi;generalize b.v.getD k 0=x at *;generalize oe b s ((kinds N).take j)=S at *;generalize ((kinds N).take j).length=L at *
    go_wp2
    go_round
    case rel=>exact⟨j+1,by omega,by go_num,by rw[hsn.out]⟩
    case measure=>simp[intOf];omega
   ·have hjq:j=(kinds N).length:=by omega
    subst hjq;have HS:Hid (oe b s ((kinds N).take (kinds N).length)=oe b s (rl b s)):=by unfold Hid;rw[dm,Dn.out]
    obtain⟨C2,tF⟩:=FD b HV.out s ((kinds N).take (kinds N).length) (λq hq=>((jN N q).1 (pN hq)).1);rw[cK,Nat.min_self]at C2 tF;generalize oe b s ((kinds N).take (kinds N).length)=S at *;clear bJ hj HR5;have hm8:=qF M;have Yi:=HM5.out
    go_wp2_with fail
    go_loopw [48] (λi wr=> ∃j:Nat,j<=(kinds M).length/\i=.int .i64 j/\pQ w w.heap.size g6 b s A (kinds M).length (eQ M) (rO (jq b s (wl b s)) (wl b s) b.v j) wr) (λi _=>(kinds M).length-(intOf i).toNat)
    case atStart=>exact⟨0,cE _,rfl,Yi⟩
    case round=>
     clear f0 f3 f4 f5 f6 fq fb ff Yi HM5;obtain⟨j,hj,rfl,hMr⟩:=hrel;have Xc:=af hMr;clear hMr;obtain⟨f0,f3,f4,f5,f6,fq,fb,ff⟩:=Xc.out.1.facts HB.out;have Ww:Hid ((rO (jq b s (wl b s)) (wl b s) b.v j).length=8):=by unfold Hid;rw[zS,HB.out]
     by_cases bJ:j<(kinds M).length
     ·obtain⟨bl,o,k,rfl,hc,vH,Yy,tD,Qi⟩:=wA Xc.out.2.2.2 bJ;have hcv:wr.cell? ⟨w.heap.size,1+k,ai⟩=ae (.int .i64 (b.v.getD k 0)):=by rw[Xc.out.1.1.cell,lg,dA];simp only[aQ.list,e8];rw[aq (by rw[HB.out];exact tD)];simp[bB,aq (show k<b.v.length by rw[HB.out];exact tD)]
      have hco:wr.cell? ⟨g6,1+k,ai⟩=ae (.int .i64 ((rO (jq b s (wl b s)) (wl b s) b.v j).getD k 0)):=by rw[Xc.out.2.1.cell,lg,dA,e8];rw[aq (by rw[Ww.out];exact tD)];simp[bB,aq (show k<(rO (jq b s (wl b s)) (wl b s) b.v j).length by rw[Ww.out];exact tD)]
      have hfo:wr.frozen? ⟨g6,1+k,ai⟩=ay:=Xc.out.2.1.frozen _;obtain⟨xY,KA⟩:=(HV.out k tD).2;have eP:Hid (∀x,x=jq b s (wl b s) j->pQ w w.heap.size g6 b s (ae ⟨bl,o,ai⟩) (kinds M).length (eQ M) (rO (jq b s (wl b s)) (wl b s) b.v (j+1)) (wr.setCell ⟨g6,1+k,ai⟩ (.int .i64 x))):=by intro x hx;have:=Xc.out.set k x;rw[hx,vH.out]at this;unfold rO;rw[hwl.out]at this|-;rw[hx,hwl.out,vH.out];exact this
      have hnv:Hid (jq b s (wl b s) j=if s.act=1 then CU (b.v.getD k 0+s.n)else if s.act=2 then CU S else b.v.getD ((kinds M).getD ((j+1) % (kinds M).length) 0) 0):=by unfold Hid jq;rw[hwl.out,<-vH.out,HS.out]
      generalize (rO (jq b s (wl b s)) (wl b s) b.v j).getD k 0=y at *;generalize hx:b.v.getD k 0=x at *;have HX:=af hx;clear hx;by_cases Sv:s.act=1
      ·have afY:(s.act==1)=aw:=by simpa using Sv
       have Ur:Hid (CU (x+s.n)=jq b s (wl b s) j):=by unfold Hid;rw[hnv.out,if_pos Sv]
       clear Sv;have aiT:(k:Int)<8:=by omega
       have Nn:IntKind.i64.wrap (x+s.n)=x+s.n:=IntWalk.i64_in _ (by omega)
       go_upto_region 16 with(fail)
       go_still_tail 11,(by kernel_rfl)
       still_call (XF _ _)
       repeat still_step
       refine wpStill_nil ?_;change wpList _ _ _ _ _ wr.drew;rw[Ur.out]
       go_wp2_with fail
       go_roundw
       case rel=>exact⟨j+1,by omega,by go_num,(eP.out _ rfl).drew⟩
       case measure=>simp[intOf];omega
      ·by_cases ha2:s.act=2
       ·have afY:(s.act==1)=ay:=by simpa using Sv
        have ahO:(s.act==2)=aw:=by simpa using ha2
        have Ur:Hid (CU S=jq b s (wl b s) j):=by unfold Hid;rw[hnv.out,if_neg Sv,if_pos ha2]
        clear Sv ha2
        go_wp2_with fail
        refine(R7 _ _).mono ?_;rintro e w' ⟨rfl,rfl⟩;rw[Ur.out]
        go_wp2_with fail
        go_roundw
        case rel=>exact⟨j+1,by omega,by go_num,eP.out _ rfl⟩
        case measure=>simp[intOf];omega
       ·have afY:(s.act==1)=ay:=by simpa using Sv
        have ahO:(s.act==2)=ay:=by simpa using ha2
        have aiM:(s.act==3)=aw:=by simp;omega
        have aic:(j+1) % (kinds M).length<(kinds M).length:=Nat.mod_lt _ (by omega);obtain⟨_,_,k',LP,Wj,agm,ah8,agk,ail⟩:=wA Xc.out.2.2.2 aic;simp only[dS,Addr.mk.injEq,and_true]at LP;obtain⟨rfl,rfl⟩:=LP;have Ur:Hid (b.v.getD k' 0=jq b s (wl b s) j):=by unfold Hid;rw[hnv.out,if_neg Sv,if_neg ha2,agm.out]
        have ahY:wr.cell? ⟨w.heap.size,1+k',ai⟩=ae (.int .i64 (b.v.getD k' 0)):=by rw[Xc.out.1.1.cell,lg,dA];simp only[aQ.list,e8];rw[aq (by rw[HB.out];exact agk)];simp[bB,aq (show k'<b.v.length by rw[HB.out];exact agk)]
        rw[Ur.out]at ahY;have hme:((j:Int)+1) % ((kinds M).length:Int)=(((j+1) % (kinds M).length:Nat):Int):=by push_cast;rfl
        clear Sv ha2 agm ah8 ail Ur;generalize (j+1) % (kinds M).length=i' at *;have h8i:(k':Int)<8:=by omega
        go_wp2_with fail
        go_roundw
        case rel=>exact⟨j+1,by omega,by go_num,eP.out _ rfl⟩
        case measure=>simp[intOf];omega
     ·have hjq:j=(kinds M).length:=by omega
      subst hjq;have hd':Hid (cD b s=⟨b.k,rO (jq b s (wl b s)) (wl b s) b.v (kinds M).length⟩):=by unfold Hid;rw[hd.out];rw[hwl.out]
      have Wr:(b.k::rO (jq b s (wl b s)) (wl b s) b.v (kinds M).length).length=9:=by rw[aD,Ww.out]
      have afQ:row? wr g6 0 9=ae (ints (b.k::rO (jq b s (wl b s)) (wl b s) b.v (kinds M).length)):=Xc.out.2.1.bt Wr;generalize rO (jq b s (wl b s)) (wl b s) b.v (kinds M).length=V at *
      go_wp2_with fail
      refine bodyPost_ret (v:=.agg (ints (b.k::V))) (results_cell_row rfl _ _ (w.heap.size+1+1) 48 (ints (b.k::V)) (0,0) _ rfl (Xc.out.1.2.2.1.eU _ Wr) Tryz.underlying48 rfl (by rw[bD,Wr];exact lR)) rfl ?_;exact⟨by rw[hd'.out];rfl,jL Xc.out.1.2.2.2 (by omega) _ _⟩
 ·have hd:Hid (cD b s=b):=by unfold Hid cD;rw[if_neg hq]
  have vm:fO b.k s.q=ay:=by simpa using hq
  rw[vm];clear hq vm
  go_wp2_with fail
  refine bodyPost_ret (v:=.agg (ints b.list)) (results_cell_row rfl _ _ (w.heap.size+1+1) 48 (ints b.list) (0,0) _ rfl (CO.out.2.2.1.eU _ zJ) Tryz.underlying48 rfl (by rw[bD,zJ];exact lR)) rfl ?_;exact⟨by rw[hd.out],jL CO.out.2.2.2 (by omega) _ _⟩
def TT (s t:Sys)(w:ah):Calls aj 87 #[.agg (ints s.list),.agg (ints t.list)] w λe w'=>e=.returned (.bool (gQ s t))/\Below w.heap.size w w':=by
 have hd:Hid (gQ s t=(bits .or .i64 (bits .and .i64 s.write (bits .or .i64 t.read t.write)) (bits .and .i64 t.write s.read) !=0)):=rfl
 go_enter Tryz.func87,Tryz.ntmps87
 go_upto_region 1 with(fail)
 obtain⟨h1,h2⟩:=ahB w 54 54 (ints s.list) (ints t.list);refine bZ (λw'=>dt w' w.heap.size 54 (ints s.list)/\dt w' (w.heap.size+1) 54 (ints t.list)/\Below w.heap.size w w') ⟨h1,h2,((Below.refl _ _).alloc (ax _) _).alloc (by simp) _⟩ ?_;rintro w1 ⟨h1,h2,h3⟩;have H3:=af h3;have c1:w1.cell? ⟨w.heap.size,3,ai⟩=ae (.int .i64 s.read):=h1.cell 3;have c2:w1.cell? ⟨w.heap.size,4,ai⟩=ae (.int .i64 s.write):=h1.cell 4;have c3:w1.cell? ⟨w.heap.size+1,3,ai⟩=ae (.int .i64 t.read):=h2.cell 3;have c4:w1.cell? ⟨w.heap.size+1,4,ai⟩=ae (.int .i64 t.write):=h2.cell 4;clear h1 h2 h3
 go_wp2_with fail
 go_ret;exact⟨eu hd.out.symm,H3.out⟩
def After.row {W:ah}{g n:Nat}{t:aA}{xs:List Int}(h:dt W g t (ints xs))(hn:xs.length=n)(a:After W):row? a.w g 0 n=ae (ints xs):=(h.after a.below).bt hn
end
namespace Rel
open Go.Conc Go.ConcN
open Go.ConcR (KK WgAt rd wr Payload DC0 stA smA Bk)
def AO {α:Type}{p q:α->Bool}: ∀{l:List α},(∀x∈l,p x=aw->q x=aw)->(∃y∈l,q y=aw/\p y=ay)->l.countP p<l.countP q
 | [],_,h=>by obtain⟨y,hy,_⟩:=h;cases hy
 |x::l,h,⟨y,hy,h1,h2⟩=>by
  have hle:l.countP p<=l.countP q:=List.countP_mono_left λz hz=>h z (by simp[hz])
  rcases cj.1 hy with rfl|hy
  ·simp only[List.countP_cons,h1,h2,if_true,dP,if_false];omega
  ·have:=AO (l:=l) (λz hz=>h z (by simp[hz])) ⟨y,hy,h1,h2⟩;simp only[List.countP_cons];have hx:=h x (by simp);cases hp:p x with
   |false=>cases hq:q x<;>simp<;>omega
   |true=>rw[hx hp];simp;omega
def NC (ops:Array Oper):Bool:=(bP ops.size).all λi=>((ops[i]?).map λo=>o.after.all λe=>decide (e.on<i)).getD ay
def Ht {ops:Array Oper}(h:NC ops=aw){listed:Array Bool}(hs:listed.size=ops.size)(hr:ig .any ops listed=[]): ∀i,i<ops.size->listed.getD i aw=aw:=by
 intro i
 induction i using mQ with
 |_ i ih=>
  intro hi;cases hl:listed.getD i aw with
  |true=>rfl
  |false=>
   exfalso;have hm:i∈ig .any ops listed:=by
    unfold ig;refine cm.2 ⟨ng.2 hi,?_⟩;have ha:=List.all_eq_true.1 h i (ng.2 hi);rw[hl];cases ho:ops[i]? with
    |none=>rw[ho]at ha;cases ha
    |some o=>
     rw[ho]at ha;simp only[fS,bT,Bool.not_false,Bool.true_and]at ha|-;refine eY.2 λj hj=> ?_
     have:=of_decide_eq_true (eY.1 ha j hj);have h2:=ih _ this (by omega);have bJ:o.after[j].on<listed.size:=by omega
     rw[bH,aX bJ]at h2|-;simp only[bT]at h2|-;rw[h2];simp
   rw[hr]at hm;cases hm
section
variable [Payload] {φ:Ph} {b:bp} {k:List Item} {cs:List bp} {ops:Array Oper}
def Ph.WT.Xm (I:Array Bool->Act->ah->Gh->Prop)(abm: ∀listed a w γ,I listed a w γ->ig .any ops listed=[]->φ.WT γ (G (b.at a (.inRegion ops []::k)) cs) w)(eP: ∀listed a w γ,listed.size=ops.size->I listed a w γ-> ∀i∈ig .any ops listed,∀rest,(∀a' w' γ',I (listed.setIfInBounds i aw) a' w' γ'->φ.WT γ' (G (b.at a' (.inRegion ops rest::k)) cs) w')->φ.WT γ (G (b.at a (.inRegion ops (i::rest)::k)) cs) w): ∀(fuel t:Nat) (listed:Array Bool) (a:Act) (w:ah) (γ:Gh),listed.size=ops.size->(bP ops.size).countP (λi=> !listed.getD i aw)<=fuel->I listed a w γ->φ.WT γ (G (b.at a (.inRegion ops (Region.linearise.go .any ops fuel t listed [])::k)) cs) w:=by
 intro fuel
 induction fuel with
 |zero=>
  intro t listed a w γ hs hc hI;refine abm listed a w γ hI ?_;have h0:(bP ops.size).countP (λi=> !listed.getD i aw)=0:=by omega
  rw[List.countP_eq_zero]at h0;unfold ig;refine List.filter_eq_nil_iff.2 λi hi=> ?_
  have:=h0 i hi;simp only[iT]at this;simp only[aG,iT,not_and];intro h;rw[h]at this;exact absurd rfl this
 |succ fuel ih=>
  intro t listed a w γ hs hc hI;simp only[Region.linearise.go];change φ.WT γ (G (b.at a (.inRegion ops (match (ig .any ops listed)[t % (ig .any ops listed).length]? with
   |some i=>Region.linearise.go .any ops fuel (t / (ig .any ops listed).length) (listed.setIfInBounds i aw) [i]
   |none=>[].reverse)::k)) cs) w
  cases hi:(ig .any ops listed)[t % (ig .any ops listed).length]? with
  |none=>
   have Uq:ig .any ops listed=[]:=by
    cases hr:ig .any ops listed with
    |nil=>rfl
    |cons x xs=>rw[hr]at hi;have bJ:t % (x::xs).length<(x::xs).length:=Nat.mod_lt _ (by simp);simp at hi;simp at bJ;omega
   exact abm listed a w γ hI Uq
  |some i=>
   simp only[];rw[linearise_go_acc,List.reverse_singleton,List.singleton_append];have hm:=pM hi;refine eP listed a w γ hs hI i hm _ λa' w' γ' hI'=>ih _ _ a' w' γ' (by simpa using hs) ?_ hI'
   have Ws:=hm;unfold ig at Ws;obtain⟨hr,hp⟩:=cm.1 Ws;have hl:listed.getD i aw=ay:=by simp only[aG,iT]at hp;exact hp.1
   have bJ:i<listed.size:=by have:=ng.1 hr;omega
   have:(bP ops.size).countP (λj=> !(listed.setIfInBounds i aw).getD j aw)<(bP ops.size).countP (λj=> !listed.getD j aw):=by
    refine AO (λj _ hj=> ?_) ⟨i,hr,by rw[hl];rfl,?_⟩
    ·by_cases e:i=j
     ·subst e;rw[hl];rfl
     ·rw[bH,aK e,<-bH]at hj;exact hj
    ·rw[bH,aU bJ]
     rfl
   omega
def Ph.WT.drawn (O:φ.Ok){γ:Gh}{w:ah}{a:Act}(hm:φ.P.follows .mixedOrders=aw){id:Nat}(h: ∀n,φ.WT γ (G (b.at a (.inRegion ops (Region.linearise .any ops n)::k)) cs) w):φ.WT γ (G (b.at a (.code (.region id ops aw)::k)) cs) w:=by
 refine .step (λaz=>G (b.at a (.inRegion ops (Region.linearise .any ops (az.tape az.drawn (.order b.fn id)))::k)) cs) (λaz=>{az with drawn:=az.drawn+1}) (λ_=> #[]) rfl (λaz _=>⟨?_,λ_ _ _ _=>rfl,λ_ _ _=>rfl,λ_ _=>rfl,ax _,rfl,rfl,rfl,by simp⟩) λaz hr=> ?_
 ·simp[G,stepG,ji,Frame.at,choose,Sem.run,gw,Question.forced,Question.cut,Region.schedule,hm]
 ·rw[Gh.IM γ (w:=az) (w':={az with drawn:=az.drawn+1}) rfl];exact(h _).rely O (hr.trans ⟨λ_ _=>rfl,λ_ _=>rfl,λ_ _ _ _=>rfl,λ_ _=>rfl,λh=>h,ax _,rfl,rfl,rfl⟩)
end
end Rel
section
open Go.RowKit
def Ak {P:aS}{ops:Array Oper}{o:Oper}{a:Act}{w:ah}{K:Act->ah->Prop}{Q:Exit->Act->ah->Prop}{X:Prop}(sN:o.guard=ai)(s x:cG)(t:aA)(ho:o.op=.call {callee:=.builtin .append,args:= #[s,x],argTypes:= #[t,t]})(base:Nat)(e:aA)(i:TypeInfo)(z:ao)(size bytes:Nat)(ht:P.underlying t=ae (.slice e))(hi:P.info? e=ae i)(hz:i.zero=ae z)(wy:i.size=size)(M3:i.bytes=bytes)(SG:z.cells.size=size)(kJ:0<size)(v:ao)(n:Nat)(xs:List ao)(hs:a.eval s=v)(jg:w.ownsRow base e size v n xs)(news:List ao)(hx:a.eval x=.slice (ae ⟨w.heap.size,0,ai⟩) 1 1)(hl:news.length=size)(h1: ∀u∈news,u.oneCell'=aw)(Yc:n+1<=maxLen)(rq:(n+1) *bytes<=140737488355328)(IW:base<=w.heap.size)(h: ∀v' w',w'.ownsRow base e size v' (n+1) (xs++news)->(w.alloc (.cells news.toArray e)).grownBy w' v.ownBlock->(v'.ownBlock=v.ownBlock\/v'.ownBlock=ae (w.heap.size+1))->K (a.put o.dst v') w'):if bu o (yielded ops a.tmps)=aw then Oper.wp P o a (w.alloc (.cells news.toArray e)) K Q else X:=by
 have hw:bu o (yielded ops a.tmps)=aw:=by simp[bu,sN]
 rw[if_pos hw];have Et: ∀j u,news[j]? =ae u->(w.alloc (.cells news.toArray e)).cell? ((⟨w.heap.size,0,ai⟩:Addr).add j)=ae u:=by intro j u hu;rw[show(⟨w.heap.size,0,ai⟩:Addr).add j=⟨w.heap.size,j,ai⟩from by unfold Addr.add;split<;>simp_all];rw[cell_of_row _ w.heap.size j news.toArray e (0,0) (heap_alloc_new w _)];simpa using hu
 obtain⟨v',w',hr,h2,h3,h4,h5⟩:=run_append_own_at (P:=P) (w.alloc (.cells news.toArray e)) base t o.type e i z size bytes ht hi hz wy M3 SG kJ v n xs (jg.alloc _) ⟨w.heap.size,0,ai⟩ 1 1 news (by rw[hl,jE]) Et h1 Yc rq (by simp;omega);unfold Oper.wp;simp[execOp,ho,resolve,invoke,builtin,hs,hx,hr,dQ];exact h v' w' h2 h3 (by simpa using h5)
def Kr (w:ah)(row:Option Nat):w.grownBy w row:=⟨rfl,rfl,rfl,ax _,λ_ _ _=>rfl⟩
section
variable {P:aS} {w:ah}
def wQ (t ty E:aA)(i:TypeInfo)(z:ao)(size bytes:Nat)(ht:P.underlying t=ae (.slice E))(hi:P.info? E=ae i)(hz:i.zero=ae z)(wy:i.size=size)(M3:i.bytes=bytes)(SG:z.cells.size=size)(kJ:0<size){v u:ao}{n m:Nat}{xs news:List ao}(jg:w.ownsRow 0 E size v n xs)(aei:w.ownsRow 0 E size u m news)(h1: ∀x∈news,x.oneCell'=aw)(Yc:n+m<=maxLen)(rq:(n+m) *bytes<=140737488355328): ∃v' w',(Builtin.append_ #[t,t] ty #[v,u]).run P w=.ok v' w'/\w'.ownsRow 0 E size v' (n+m) (xs++news)/\w.grownBy w' v.ownBlock/\(v'.ownBlock=v.ownBlock\/v'.ownBlock=ae w.heap.size):=by
 obtain⟨hl,h|⟨g,cap,cur,rfl,_,hg,vA,uL,hc3,hc4⟩⟩:=aei
 ·obtain⟨rfl,rfl⟩:=h;have hn:news=[]:=ft (by omega);subst hn;refine⟨v,w,run_append_owned_none (P:=P) (w:=w) 0 t ty E i size ht hi v n xs jg,by simpa using jg,Kr _ _,bm rfl⟩
 ·obtain⟨v',w',hr,h2,h3,_,h5⟩:=run_append_own_at (P:=P) w 0 t ty E i z size bytes ht hi hz wy M3 SG kJ v n xs jg ⟨g,0,ai⟩ m cap news hl (λj x hx=>by
   rw[show(⟨g,0,ai⟩:Addr).add j=⟨g,j,ai⟩from by unfold Addr.add;split<;>simp_all];rw[cell_of_row w g j cur E (0,0) hg,<-hx,<-hc4,ie,if_pos]
   ·simp
   ·have:=(bz.1 hx).1;omega) h1 Yc rq (cE _)
  exact⟨v',w',hr,h2,h3,h5⟩
def Dc {ops:Array Oper}{o:Oper}{a:Act}{K:Act->ah->Prop}{Q:Exit->Act->ah->Prop}{X:Prop}(sN:o.guard=ai)(s x:cG)(t:aA)(ho:o.op=.call {callee:=.builtin .append,args:= #[s,x],argTypes:= #[t,t]})(E:aA)(i:TypeInfo)(z:ao)(size bytes:Nat)(ht:P.underlying t=ae (.slice E))(hi:P.info? E=ae i)(hz:i.zero=ae z)(wy:i.size=size)(M3:i.bytes=bytes)(SG:z.cells.size=size)(kJ:0<size){v u:ao}{n m:Nat}{xs news:List ao}(hs:a.eval s=v)(hx:a.eval x=u)(jg:w.ownsRow 0 E size v n xs)(aei:w.ownsRow 0 E size u m news)(h1: ∀x∈news,x.oneCell'=aw)(Yc:n+m<=maxLen)(rq:(n+m) *bytes<=140737488355328)(h: ∀v' w',w'.ownsRow 0 E size v' (n+m) (xs++news)->w.grownBy w' v.ownBlock->(v'.ownBlock=v.ownBlock\/v'.ownBlock=ae w.heap.size)->K (a.put o.dst v') w'):if bu o (yielded ops a.tmps)=aw then Oper.wp P o a w K Q else X:=by
 have hw:bu o (yielded ops a.tmps)=aw:=by simp[bu,sN]
 rw[if_pos hw];obtain⟨v',w',hr,h2,h3,h4⟩:=wQ (P:=P) (w:=w) t o.type E i z size bytes ht hi hz wy M3 SG kJ jg aei h1 Yc rq;unfold Oper.wp;simp[execOp,ho,resolve,invoke,builtin,hs,hx,hr,dQ];exact h v' w' h2 h3 h4
end
section
variable {G:Nat->Prop} {w0 w w':ah} {l:List bU} {E:aA} {size n m:Nat} {v v':ao} {xs news:List ao}
def In.aaR (h:In G w0 (eD E size v n xs::l) w)(jg:w'.ownsRow 0 E size v' (n+m) (xs++news))(hg:w.grownBy w' v.ownBlock)(wx:v'.ownBlock=v.ownBlock\/v'.ownBlock=ae w.heap.size):In G w0 (eD E size v' (n+m) (xs++news)::l) w':=by
 obtain⟨F1,⟨h1,h2⟩,_,jQ⟩:=h.open_;refine jQ (A':=eD E size v' (n+m) (xs++news)) ⟨jg,λk hk=> ?_⟩ (db.grown (F:=F1) hg λk hk=>h2 k hk);rcases wx with e|e
 ·exact bm (h2 k (by rw[<-e];exact hk))
 ·rw[hk]at e;injection e with e
  exact bO ⟨by omega,(gJ jg k hk).2⟩
def In.aex (h:In G w0 l w)(E:aA)(cs:List ao):In G w0 (eD E cs.length (.slice (ae ⟨w.heap.size,0,ai⟩) 1 1) 1 cs::l) (w.alloc (.cells cs.toArray E)):=h.new (A:=eD E cs.length (.slice (ae ⟨w.heap.size,0,ai⟩) 1 1) 1 cs) ((Below.refl _ _).alloc (ax _) _) ⟨⟨by simp,bO ⟨w.heap.size,1,cs.toArray,rfl,cE _,heap_alloc_new w _,ax _,by unfold maxLen;omega,by simp,by simp⟩⟩,λk hk=>by simp[fx]at hk;omega⟩
end
end
section
open Go.RowKit Go.Shelf Go.Sort
section
variable {α:Type} [Inhabited α] {enc:α->List ao} {k:Nat}
def zC (hk: ∀x,(enc x).length=k)(d:Array α):(flatK enc k d).toList=d.toList.flatMap enc:=by
 apply mf;intro t;have hl:=tv hk d.toList;by_cases ht:t<d.size *k
 ·have hk0:0<k:=by rcases lQ k with h|h;subst h;simp at ht;exact h
  have hd:t / k<d.size:=(Nat.div_lt_iff_lt_mul hk0).2 ht;have hm:=Nat.mod_lt t hk0;have h1:=get_flatK enc k d t ht;have e1:(flatK enc k d).toList[t]? =ae ((enc d[t / k]!)[t % k]!):=by rw[Array.getElem?_toList,aX (by simpa using ht),<-h1];rw[getElem!_pos (flatK enc k d) t (by simpa using ht)]
  have e2:=rm hk d.toList (t / k) (t % k) (by simpa using hd) hm;rw[Nat.mul_comm,Nat.div_add_mod]at e2;rw[e1,e2];have e3:d[t / k]! =d.toList[t / k]'(by simpa using hd):=by rw[getElem!_pos d (t / k) hd];simp
  rw[e3];have e4:t % k<(enc (d.toList[t / k]'(by simpa using hd))).length:=by rw[hk];exact hm
  rw[aq e4,getElem!_pos (enc (d.toList[t / k]'(by simpa using hd))) _ e4]
 ·rw[jz (by simp;omega),jz (by rw[hl];simp;omega)]
def zK (hk: ∀x,(enc x).length=k){w:ah}{E:aA}{g c:Nat}{xs:List α}(h:w.ownsRow 0 E k (.slice (ae ⟨g,0,ai⟩) xs.length c) xs.length (xs.flatMap enc)):HoldsK enc k w g 0 xs.toArray:=by
 intro j hj;rw[size_flatK]at hj;have Um:j<xs.length *k:=by simpa using hj
 have hl:=tv hk xs;have e1:(flatK enc k xs.toArray)[j]! =(xs.flatMap enc)[j]'(by omega):=by rw[getElem!_pos (flatK enc k xs.toArray) j (by simpa using hj),<-Array.getElem_toList];simp only[zC hk]
 refine⟨?_,by rw[bS];exact h.frozenAt _⟩;rw[bS,World.ownsRow.cellAt h j Um,e1,aq (by omega)]
 rfl
def Cv (w:ah)(g m:Nat)(d:Array α)(os:Array Obj):db (· =g) w (sortWorldK enc k w g 0 m d os):=by
 refine⟨rfl,rfl,rfl,?_,λq hq eb=> ?_⟩
 ·show w.heap.size<=((w.heap.modify g _)++os).size;simp
 ·show((w.heap.modify g _)++os)[q]? =_;rw[Array.getElem?_append_left (by simpa using hq),bq,if_neg (λe=>eb e.symm)]
def EZ (hk: ∀x,(enc x).length=k){w:ah}{E:aA}{g c:Nat}{xs:List α}(h:w.ownsRow 0 E k (.slice (ae ⟨g,0,ai⟩) xs.length c) xs.length (xs.flatMap enc))(m:Nat)(d:Array α)(hd:d.size=xs.length)(os:Array Obj):(sortWorldK enc k w g 0 m d os).ownsRow 0 E k (.slice (ae ⟨g,0,ai⟩) d.toList.length c) d.toList.length (d.toList.flatMap enc):=by
 have bJ:=(h.lt g rfl).2;obtain⟨hl,h0|⟨g',cap,cur,e,_,hg,h1,h2,h3,h4⟩⟩:=h
 ·cases h0.1
 ·injection e with e1 e2 e3
  injection e1 with e1
  injection e1 with e1
  subst e1;subst e3;have hdl:d.toList.length=xs.length:=by simpa using hd
  refine⟨tv hk _,bO ⟨g,c,putCells id 0 (flatK enc k d) cur,rfl,cE _,?_,by omega,h2,by simpa[putCells]using h3,?_⟩⟩
  ·show((w.heap.modify g _)++os)[g]? =_;rw[Array.getElem?_append_left (by simpa using bJ),bq,if_pos rfl,hg]
   rfl
  ·rw[hdl];have kJ:xs.length *k<=cur.size:=by rw[h3];exact fC k h1
   apply mf;intro t;have GI:=tv hk d.toList;rw[hdl]at GI;by_cases ht:t<xs.length *k
   ·rw[ie,if_pos ht,Array.getElem?_toList];unfold putCells;rw[Array.getElem?_mapIdx,aX (by omega)];simp only[fS];have hts:t<(flatK enc k d).size:=by rw[size_flatK,hd];exact ht
    rw[if_pos ⟨cE _,by omega⟩,Nat.sub_zero,getElem!_pos (flatK enc k d) t hts,<-Array.getElem_toList];simp only[zC hk,id];rw[aq]
   ·rw[ie,if_neg ht,jz (by omega)]
end
section
variable {α:Type} [Inhabited α] {enc:α->List ao} {k:Nat} {ρ:Ren} {G:Nat->Prop} {w0 w:ah} {l:List bU} {v:ao} {xs:List α}
def Ln (L:SlLaysF0.n6 aj ρ)(aE: ∀w,(isAgg (ρ.t 24)).run aj w=.ok aw w)(zE: ∀w,(Go.sizeOf (ρ.t 24)).run aj w=.ok k w)(hk: ∀x,(enc x).length=k)(h1: ∀x,∀u∈enc x,u.oneCell'=aw)(cf:α->α->Int)(hO:SWO (ltOf cf))(g:Nat)(eg: ∀args w,(callFunc g args).run aj w=.ok (.enter g args) w)(ahW: ∀blk off size w,CmpLays aj g #[] enc k cf blk off size w)(E:aA)(h:In G w0 (eD E k v xs.length (xs.flatMap enc)::l) w)(hl:xs.length<=1099511627776):Calls aj (ρ.f 6) #[v,.func (.func g) #[] #[]] w λe w'=>e=.returned (.tuple #[])/\ ∃ys:List α,ys.Perm xs/\ys.Pairwise (λa b=>decide (cf b a<0)=ay)/\In G w0 (eD E k v ys.length (ys.flatMap enc)::l) w':=by
 obtain⟨F1,⟨hA,hF⟩,_,jQ⟩:=h.open_;obtain⟨A,c,rfl,vA,uL,hg⟩:=cM hA;by_cases h0:xs.length=0
 ·have hx:xs=[]:=ft h0;subst hx;exact(AnyF.slices_SortFunc_none L A c (.func (.func g) #[] #[]) w).mono λe w' ⟨he,hw⟩=>⟨he,[],qK _,List.Pairwise.nil,by rw[hw];exact h⟩
 ·obtain⟨b,rfl⟩:=hg (by omega);have bJ:=(hA.lt b rfl).2;have CZ:=AnyQ.slices_SortFunc L k aE zE enc hk h1 cf hO g #[] b 0 c xs.toArray w eg (ahW b 0 _ w) (zK hk hA) bJ (by simp;omega);refine CZ.mono ?_;rintro e w' ⟨he,d',n,os,⟨hs,_,hp⟩,abr,rfl⟩;have Nh:d'.size=xs.length:=by simpa using hs
  refine⟨he,d'.toList,?_,?_,?_⟩
  ·have e1:d'.extract 0 xs.toArray.size=d':=by rw[<-hs];exact Array.extract_size
   have e2:xs.toArray.extract 0 xs.toArray.size=xs.toArray:=Array.extract_size;rw[e1,e2]at hp;exact hp
  ·rw[lO];intro i j hi hj M9;have:=abr i j (cE _) M9 (by rw[<-hs];simpa using hj);rw[getElem!_pos d' j (by simpa using hj),getElem!_pos d' i (by simpa using hi)]at this;exact this
  ·have hv:d'.toList.length=xs.length:=by simpa using Nh
   refine jQ (A':=eD E k (.slice (ae ⟨b,0,ai⟩) xs.length c) d'.toList.length (d'.toList.flatMap enc)) ⟨?_,λq hq=>bm (hF q hq)⟩ ((Cv w b n d' os).mono λq _ e=>by subst e;exact hF _ rfl);have:=EZ hk hA n d' Nh os;rw[hv]at this|-;exact this
end
end
section
open Go.RowKit Go.Shelf
def wR:Ren:=⟨λ|6=>141|14=>184|15=>150|28=>193|29=>194|20=>219|21=>220|22=>221|23=>222|24=>223|25=>224|26=>225|27=>226|46=>242|47=>228|48=>229|49=>243|50=>244|57=>249|n=>n,λ|22=>122|24=>43|25=>146|3=>3|39=>230|0=>0|53=>187|55=>184|4=>4|46=>257|45=>256|50=>261|5=>5|9=>9|66=>289|70=>292|76=>303|77=>304|n=>n,λn=>n⟩
def Fx:SlLaysF0.n6 aj wR:={mixed:=by kernel_rfl,
                               f6:=⟨Tryz.f141.name,by decide,Tryz.func141.trans (congrArg ae (by kernel_rfl))⟩,
                               f14:=⟨Tryz.f184.name,by decide,Tryz.func184.trans (congrArg ae (by kernel_rfl))⟩,
                               f15:=Tryz.func150.trans (congrArg ae (by kernel_rfl)),
                               f20:=⟨Tryz.f219.name,by decide,Tryz.func219.trans (congrArg ae (by kernel_rfl))⟩,
                               f21:=⟨Tryz.f220.name,by decide,Tryz.func220.trans (congrArg ae (by kernel_rfl))⟩,
                               f22:=⟨Tryz.f221.name,by decide,Tryz.func221.trans (congrArg ae (by kernel_rfl))⟩,
                               f23:=⟨Tryz.f222.name,by decide,Tryz.func222.trans (congrArg ae (by kernel_rfl))⟩,
                               f24:=⟨Tryz.f223.name,by decide,Tryz.func223.trans (congrArg ae (by kernel_rfl))⟩,
                               f25:=⟨Tryz.f224.name,by decide,Tryz.func224.trans (congrArg ae (by kernel_rfl))⟩,
                               f26:=⟨Tryz.f225.name,by decide,Tryz.func225.trans (congrArg ae (by kernel_rfl))⟩,
                               f27:=⟨Tryz.f226.name,by decide,Tryz.func226.trans (congrArg ae (by kernel_rfl))⟩,
                               f28:=Tryz.func193.trans (congrArg ae (by kernel_rfl)),
                               f29:=Tryz.func194.trans (congrArg ae (by kernel_rfl)),
                               f46:=⟨Tryz.f242.name,by decide,Tryz.func242.trans (congrArg ae (by kernel_rfl))⟩,
                               f47:=Tryz.func228.trans (congrArg ae (by kernel_rfl)),
                               f48:=Tryz.func229.trans (congrArg ae (by kernel_rfl)),
                               f49:=⟨Tryz.f243.name,by decide,Tryz.func243.trans (congrArg ae (by kernel_rfl))⟩,
                               f50:=⟨Tryz.f244.name,by decide,Tryz.func244.trans (congrArg ae (by kernel_rfl))⟩,
                               f57:=⟨Tryz.f249.name,by decide,Tryz.func249.trans (congrArg ae (by kernel_rfl))⟩,
                               t0:=Tryz.underlying0,
                               a0:=Tryz.isAgg0,
                               z0:=Tryz.sizeOf0,
                               v0:=Tryz.zeroValue0,
                               t3:=Tryz.underlying3,
                               a3:=Tryz.isAgg3,
                               z3:=Tryz.sizeOf3,
                               v3:=Tryz.zeroValue3,
                               t4:=Tryz.underlying4,
                               a4:=Tryz.isAgg4,
                               z4:=Tryz.sizeOf4,
                               v4:=Tryz.zeroValue4,
                               t5:=Tryz.underlying5,
                               a5:=Tryz.isAgg5,
                               z5:=Tryz.sizeOf5,
                               v5:=Tryz.zeroValue5,
                               t9:=Tryz.underlying9,
                               a9:=Tryz.isAgg9,
                               z9:=Tryz.sizeOf9,
                               v9:=Tryz.zeroValue9,
                               t22:=Tryz.underlying122,
                               a22:=Tryz.isAgg122,
                               z22:=Tryz.sizeOf122,
                               v22:=Tryz.zeroValue122,
                               t25:=Tryz.underlying146,
                               a25:=Tryz.isAgg146,
                               z25:=Tryz.sizeOf146,
                               v25:=Tryz.zeroValue146,
                               t39:=Tryz.underlying230,
                               a39:=Tryz.isAgg230,
                               z39:=Tryz.sizeOf230,
                               v39:=Tryz.zeroValue230,
                               t45:=Tryz.underlying256,
                               a45:=Tryz.isAgg256,
                               z45:=Tryz.sizeOf256,
                               v45:=Tryz.zeroValue256,
                               t46:=Tryz.underlying257,
                               a46:=Tryz.isAgg257,
                               z46:=Tryz.sizeOf257,
                               v46:=Tryz.zeroValue257,
                               t50:=Tryz.underlying261,
                               a50:=Tryz.isAgg261,
                               z50:=Tryz.sizeOf261,
                               v50:=Tryz.zeroValue261,
                               t53:=Tryz.underlying187,
                               a53:=Tryz.isAgg187,
                               z53:=Tryz.sizeOf187,
                               v53:=Tryz.zeroValue187,
                               t55:=Tryz.underlying184,
                               a55:=Tryz.isAgg184,
                               z55:=Tryz.sizeOf184,
                               v55:=Tryz.zeroValue184,
                               t66:=Tryz.underlying289,
                               a66:=Tryz.isAgg289,
                               z66:=Tryz.sizeOf289,
                               v66:=Tryz.zeroValue289,
                               t70:=Tryz.underlying292,
                               a70:=Tryz.isAgg292,
                               z70:=Tryz.sizeOf292,
                               v70:=Tryz.zeroValue292,
                               t76:=Tryz.underlying303,
                               a76:=Tryz.isAgg303,
                               z76:=Tryz.sizeOf303,
                               v76:=Tryz.zeroValue303,
                               t77:=Tryz.underlying304,
                               a77:=Tryz.isAgg304,
                               z77:=Tryz.sizeOf304,
                               v77:=Tryz.zeroValue304}
def Ai:Ren:=⟨λ|6=>100|14=>152|15=>150|28=>193|29=>194|20=>195|21=>196|22=>197|23=>198|24=>199|25=>200|26=>201|27=>202|46=>232|47=>228|48=>229|49=>233|50=>234|57=>246|n=>n,λ|22=>34|24=>45|25=>177|3=>3|39=>230|0=>0|53=>187|55=>184|4=>4|46=>257|45=>256|50=>261|5=>5|9=>9|66=>289|70=>292|76=>303|77=>304|n=>n,λn=>n⟩
def Lm:SlLaysF0.n6 aj Ai:={mixed:=by kernel_rfl,
                               f6:=⟨Tryz.f100.name,by decide,Tryz.func100.trans (congrArg ae (by kernel_rfl))⟩,
                               f14:=⟨Tryz.f152.name,by decide,Tryz.func152.trans (congrArg ae (by kernel_rfl))⟩,
                               f15:=Tryz.func150.trans (congrArg ae (by kernel_rfl)),
                               f20:=⟨Tryz.f195.name,by decide,Tryz.func195.trans (congrArg ae (by kernel_rfl))⟩,
                               f21:=⟨Tryz.f196.name,by decide,Tryz.func196.trans (congrArg ae (by kernel_rfl))⟩,
                               f22:=⟨Tryz.f197.name,by decide,Tryz.func197.trans (congrArg ae (by kernel_rfl))⟩,
                               f23:=⟨Tryz.f198.name,by decide,Tryz.func198.trans (congrArg ae (by kernel_rfl))⟩,
                               f24:=⟨Tryz.f199.name,by decide,Tryz.func199.trans (congrArg ae (by kernel_rfl))⟩,
                               f25:=⟨Tryz.f200.name,by decide,Tryz.func200.trans (congrArg ae (by kernel_rfl))⟩,
                               f26:=⟨Tryz.f201.name,by decide,Tryz.func201.trans (congrArg ae (by kernel_rfl))⟩,
                               f27:=⟨Tryz.f202.name,by decide,Tryz.func202.trans (congrArg ae (by kernel_rfl))⟩,
                               f28:=Tryz.func193.trans (congrArg ae (by kernel_rfl)),
                               f29:=Tryz.func194.trans (congrArg ae (by kernel_rfl)),
                               f46:=⟨Tryz.f232.name,by decide,Tryz.func232.trans (congrArg ae (by kernel_rfl))⟩,
                               f47:=Tryz.func228.trans (congrArg ae (by kernel_rfl)),
                               f48:=Tryz.func229.trans (congrArg ae (by kernel_rfl)),
                               f49:=⟨Tryz.f233.name,by decide,Tryz.func233.trans (congrArg ae (by kernel_rfl))⟩,
                               f50:=⟨Tryz.f234.name,by decide,Tryz.func234.trans (congrArg ae (by kernel_rfl))⟩,
                               f57:=⟨Tryz.f246.name,by decide,Tryz.func246.trans (congrArg ae (by kernel_rfl))⟩,
                               t0:=Tryz.underlying0,
                               a0:=Tryz.isAgg0,
                               z0:=Tryz.sizeOf0,
                               v0:=Tryz.zeroValue0,
                               t3:=Tryz.underlying3,
                               a3:=Tryz.isAgg3,
                               z3:=Tryz.sizeOf3,
                               v3:=Tryz.zeroValue3,
                               t4:=Tryz.underlying4,
                               a4:=Tryz.isAgg4,
                               z4:=Tryz.sizeOf4,
                               v4:=Tryz.zeroValue4,
                               t5:=Tryz.underlying5,
                               a5:=Tryz.isAgg5,
                               z5:=Tryz.sizeOf5,
                               v5:=Tryz.zeroValue5,
                               t9:=Tryz.underlying9,
                               a9:=Tryz.isAgg9,
                               z9:=Tryz.sizeOf9,
                               v9:=Tryz.zeroValue9,
                               t22:=Tryz.underlying34,
                               a22:=Tryz.isAgg34,
                               z22:=Tryz.sizeOf34,
                               v22:=Tryz.zeroValue34,
                               t25:=Tryz.underlying177,
                               a25:=Tryz.isAgg177,
                               z25:=Tryz.sizeOf177,
                               v25:=Tryz.zeroValue177,
                               t39:=Tryz.underlying230,
                               a39:=Tryz.isAgg230,
                               z39:=Tryz.sizeOf230,
                               v39:=Tryz.zeroValue230,
                               t45:=Tryz.underlying256,
                               a45:=Tryz.isAgg256,
                               z45:=Tryz.sizeOf256,
                               v45:=Tryz.zeroValue256,
                               t46:=Tryz.underlying257,
                               a46:=Tryz.isAgg257,
                               z46:=Tryz.sizeOf257,
                               v46:=Tryz.zeroValue257,
                               t50:=Tryz.underlying261,
                               a50:=Tryz.isAgg261,
                               z50:=Tryz.sizeOf261,
                               v50:=Tryz.zeroValue261,
                               t53:=Tryz.underlying187,
                               a53:=Tryz.isAgg187,
                               z53:=Tryz.sizeOf187,
                               v53:=Tryz.zeroValue187,
                               t55:=Tryz.underlying184,
                               a55:=Tryz.isAgg184,
                               z55:=Tryz.sizeOf184,
                               v55:=Tryz.zeroValue184,
                               t66:=Tryz.underlying289,
                               a66:=Tryz.isAgg289,
                               z66:=Tryz.sizeOf289,
                               v66:=Tryz.zeroValue289,
                               t70:=Tryz.underlying292,
                               a70:=Tryz.isAgg292,
                               z70:=Tryz.sizeOf292,
                               v70:=Tryz.zeroValue292,
                               t76:=Tryz.underlying303,
                               a76:=Tryz.isAgg303,
                               z76:=Tryz.sizeOf303,
                               v76:=Tryz.zeroValue303,
                               t77:=Tryz.underlying304,
                               a77:=Tryz.isAgg304,
                               z77:=Tryz.sizeOf304,
                               v77:=Tryz.zeroValue304}
def CJ:Ren:=⟨λ|6=>97|14=>149|15=>150|28=>193|29=>194|20=>185|21=>186|22=>187|23=>188|24=>189|25=>190|26=>191|27=>192|46=>227|47=>228|48=>229|49=>230|50=>231|57=>245|n=>n,λ|22=>33|24=>50|25=>167|3=>3|39=>230|0=>0|53=>187|55=>184|4=>4|46=>257|45=>256|50=>261|5=>5|9=>9|66=>289|70=>292|76=>303|77=>304|n=>n,λn=>n⟩
def OI:SlLaysF0.n6 aj CJ:={mixed:=by kernel_rfl,
                               f6:=⟨Tryz.f97.name,by decide,Tryz.func97.trans (congrArg ae (by kernel_rfl))⟩,
                               f14:=⟨Tryz.f149.name,by decide,Tryz.func149.trans (congrArg ae (by kernel_rfl))⟩,
                               f15:=Tryz.func150.trans (congrArg ae (by kernel_rfl)),
                               f20:=⟨Tryz.f185.name,by decide,Tryz.func185.trans (congrArg ae (by kernel_rfl))⟩,
                               f21:=⟨Tryz.f186.name,by decide,Tryz.func186.trans (congrArg ae (by kernel_rfl))⟩,
                               f22:=⟨Tryz.f187.name,by decide,Tryz.func187.trans (congrArg ae (by kernel_rfl))⟩,
                               f23:=⟨Tryz.f188.name,by decide,Tryz.func188.trans (congrArg ae (by kernel_rfl))⟩,
                               f24:=⟨Tryz.f189.name,by decide,Tryz.func189.trans (congrArg ae (by kernel_rfl))⟩,
                               f25:=⟨Tryz.f190.name,by decide,Tryz.func190.trans (congrArg ae (by kernel_rfl))⟩,
                               f26:=⟨Tryz.f191.name,by decide,Tryz.func191.trans (congrArg ae (by kernel_rfl))⟩,
                               f27:=⟨Tryz.f192.name,by decide,Tryz.func192.trans (congrArg ae (by kernel_rfl))⟩,
                               f28:=Tryz.func193.trans (congrArg ae (by kernel_rfl)),
                               f29:=Tryz.func194.trans (congrArg ae (by kernel_rfl)),
                               f46:=⟨Tryz.f227.name,by decide,Tryz.func227.trans (congrArg ae (by kernel_rfl))⟩,
                               f47:=Tryz.func228.trans (congrArg ae (by kernel_rfl)),
                               f48:=Tryz.func229.trans (congrArg ae (by kernel_rfl)),
                               f49:=⟨Tryz.f230.name,by decide,Tryz.func230.trans (congrArg ae (by kernel_rfl))⟩,
                               f50:=⟨Tryz.f231.name,by decide,Tryz.func231.trans (congrArg ae (by kernel_rfl))⟩,
                               f57:=⟨Tryz.f245.name,by decide,Tryz.func245.trans (congrArg ae (by kernel_rfl))⟩,
                               t0:=Tryz.underlying0,
                               a0:=Tryz.isAgg0,
                               z0:=Tryz.sizeOf0,
                               v0:=Tryz.zeroValue0,
                               t3:=Tryz.underlying3,
                               a3:=Tryz.isAgg3,
                               z3:=Tryz.sizeOf3,
                               v3:=Tryz.zeroValue3,
                               t4:=Tryz.underlying4,
                               a4:=Tryz.isAgg4,
                               z4:=Tryz.sizeOf4,
                               v4:=Tryz.zeroValue4,
                               t5:=Tryz.underlying5,
                               a5:=Tryz.isAgg5,
                               z5:=Tryz.sizeOf5,
                               v5:=Tryz.zeroValue5,
                               t9:=Tryz.underlying9,
                               a9:=Tryz.isAgg9,
                               z9:=Tryz.sizeOf9,
                               v9:=Tryz.zeroValue9,
                               t22:=Tryz.underlying33,
                               a22:=Tryz.isAgg33,
                               z22:=Tryz.sizeOf33,
                               v22:=Tryz.zeroValue33,
                               t25:=Tryz.underlying167,
                               a25:=Tryz.isAgg167,
                               z25:=Tryz.sizeOf167,
                               v25:=Tryz.zeroValue167,
                               t39:=Tryz.underlying230,
                               a39:=Tryz.isAgg230,
                               z39:=Tryz.sizeOf230,
                               v39:=Tryz.zeroValue230,
                               t45:=Tryz.underlying256,
                               a45:=Tryz.isAgg256,
                               z45:=Tryz.sizeOf256,
                               v45:=Tryz.zeroValue256,
                               t46:=Tryz.underlying257,
                               a46:=Tryz.isAgg257,
                               z46:=Tryz.sizeOf257,
                               v46:=Tryz.zeroValue257,
                               t50:=Tryz.underlying261,
                               a50:=Tryz.isAgg261,
                               z50:=Tryz.sizeOf261,
                               v50:=Tryz.zeroValue261,
                               t53:=Tryz.underlying187,
                               a53:=Tryz.isAgg187,
                               z53:=Tryz.sizeOf187,
                               v53:=Tryz.zeroValue187,
                               t55:=Tryz.underlying184,
                               a55:=Tryz.isAgg184,
                               z55:=Tryz.sizeOf184,
                               v55:=Tryz.zeroValue184,
                               t66:=Tryz.underlying289,
                               a66:=Tryz.isAgg289,
                               z66:=Tryz.sizeOf289,
                               v66:=Tryz.zeroValue289,
                               t70:=Tryz.underlying292,
                               a70:=Tryz.isAgg292,
                               z70:=Tryz.sizeOf292,
                               v70:=Tryz.zeroValue292,
                               t76:=Tryz.underlying303,
                               a76:=Tryz.isAgg303,
                               z76:=Tryz.sizeOf303,
                               v76:=Tryz.zeroValue303,
                               t77:=Tryz.underlying304,
                               a77:=Tryz.isAgg304,
                               z77:=Tryz.sizeOf304,
                               v77:=Tryz.zeroValue304}
end
section
open Go.RowKit
def yT (n lo hi:Int)(h:lo<=n/\n<=hi)(w:ah):Calls aj 138 #[.int .i64 n,.int .i64 lo,.int .i64 hi] w λe w'=>e=.returned (.bool aw)/\w=w':=by
 obtain⟨h1,h2⟩:=h
 go_enter Tryz.func138,Tryz.ntmps138
 go_wp2
 go_ret;exact⟨rfl,rfl⟩
def JL (n lo hi:Int)(h: ¬(lo<=n/\n<=hi))(w:ah):Calls aj 138 #[.int .i64 n,.int .i64 lo,.int .i64 hi] w λe w'=>e=.returned (.bool ay)/\w=w':=by
 by_cases h1:lo<=n
 ·have h2:Hid (hi<n):=by unfold Hid;omega
  clear h
  go_enter Tryz.func138,Tryz.ntmps138
  go_wp2
  go_ret;exact⟨eu (decide_eq_false (by have:=h2.out;omega)),rfl⟩
 ·have h2:n<lo:=by omega
  clear h h1
  go_enter Tryz.func138,Tryz.ntmps138
  go_wp2
  go_ret;exact⟨rfl,rfl⟩
def CQ {w:ah}{b o n:Nat}{x:Int}{xs:List Int}(h:row? w b o n=ae (ints (x::xs))):w.cell? ⟨b,o,ai⟩=ae (.int .i64 x):=by
 unfold row? at h
 split at h
 ·rename_i cs t fr hg
  split at h
  ·rename_i hle
   injection h with h
   have h2:(cs.extract o (o+n))[0]? =ae (.int .i64 x):=by rw[h];rfl
   rw[cell_of_row w b o cs t fr hg];rw[Array.getElem?_extract]at h2
   split at h2
   ·simpa using h2
   ·cases h2
  ·cases h
 ·cases h
def sQ (rs:List eE):Nat->Option Int
 |0=>ai
 |k+1=>ae (rs.getD k ((0,0),[])).1.1
def KJ (rs:List eE)(k:Nat)(h:k<rs.length):j7 (sQ rs k) (rs.drop k)=(uY rs[k]&&(match sQ rs k with|none=>aw|some p=>decide (p<rs[k].1.1))&&j7 (sQ rs (k+1)) (rs.drop (k+1))):=by
 rw[List.drop_eq_getElem_cons h]
 conv=>lhs;unfold j7
 have:sQ rs (k+1)=ae rs[k].1.1:=by show ae (rs.getD k _).1.1=_;rw[aY,aq h];rfl
 rw[this];cases sQ rs k<;>rfl
def Xr {r:eE}(h:ki r):r.2=(toaQ r.2).list/\(toaQ r.2).v.length=8:=by obtain⟨a,b,c,d,e,f,g,i,j,hr⟩:=nine h;rw[hr];exact⟨rfl,rfl⟩
def Dq (A:Option Addr)(c:Nat)(rs:List eE)(w:ah)(h:RowsIn w w.heap.size A rs)(rY: ∀r∈rs,ki r)(hl:rs.length<=maxLen):Calls aj 74 #[.slice A rs.length c] w λe w'=>e=.returned (.bool (lj rs))/\Below w.heap.size w w':=by
 have H:=af h;have TD:=af rY;have SC:(rs.length:Int)<=9223372036854775807:=by unfold maxLen at hl;omega
 clear h rY
 go_enter Tryz.func74,Tryz.ntmps74
 go_wp2_with fail
 go_loopw [7] (λi w'=> ∃k:Nat,k<=rs.length/\i=.int .i64 k/\j7 ai rs=j7 (sQ rs k) (rs.drop k)/\Below w.heap.size w w') (λi _=>rs.length-(intOf i).toNat)
 case atStart=>exact⟨0,by omega,rfl,rfl,Below.refl _ _⟩
 case round=>
  obtain⟨k,hk,rfl,hm,hb⟩:=hrel;have HM:=af hm;have xc:=af hb;clear hm hb;by_cases bJ:k<rs.length
  ·have vI:(k:Int)<rs.length:=by omega
   obtain⟨b,o,hA,zJ,fg⟩:=RowsIn.at_ (fi.below H.out xc.out) bJ;have Un: ∀j,k=j+1->row? wr b (o+j *11) 11=ae (ints (rL (rs.getD j ((0,0),[])))):=by
    rintro j rfl;obtain⟨b',o',e,zJ,fg⟩:=RowsIn.at_ (fi.below H.out xc.out) (k:=j) (by omega);rw[hA]at e;injection e with e
    injection e with e1 e2
    subst e1;subst e2;rw[aY,aq (show j<rs.length by omega)];exact fg
   have HKC:=af Un;clear Un;subst hA;have qN:=af (KJ rs k bJ);have HRO:=af (TD.out _ (bg bJ));generalize y5:rs[k]=r at *;clear y5;have Dn:=QT r;have TE:=af (Jm HRO.out);obtain⟨HBE,W8⟩:=Xr HRO.out;obtain⟨⟨s,g⟩,bb⟩:=r;simp only at HBE W8;have HCB:Hid (∀W,Calls aj 46 #[.agg (ints bb)] W λe w'=>e=.returned (.int .i64 (bI (toaQ bb)))/\Below W.heap.size W w'):=λW=>by rw[HBE];exact qW _ W8 W
   have HR:Hid (uY ((s,g),bb)=(decide (0<=s)&&decide (s<=59)&&decide (0<=g)&&decide (g<=1000000)&&decide (bI (toaQ bb)=0))):=rfl;have HB9:Hid (bb.length=9):=HRO.out;clear HBE W8 HRO
   go_upto_region 4 with(fail)
   refine bZ (λw'=>dt w' wr.heap.size 50 (ints (rL ((s,g),bb)))/\Below wr.heap.size wr w') ⟨gD wr 50 [0,0,0,0,0,0,0,0,0,0,0] _ Dn,dV wr 50 [0,0,0,0,0,0,0,0,0,0,0] _⟩ ?_;rintro w2 ⟨Hl,gF⟩;have pW:=af (xc.out.trans (gF.mono xc.out.size));have c1: ∀n:After w2,n.w.cell? ⟨wr.heap.size,0,ai⟩=ae (.int .i64 s):=λn=>(Hl.after n.below).cell 0
   have c2: ∀n:After w2,n.w.cell? ⟨wr.heap.size,1,ai⟩=ae (.int .i64 g):=λn=>(Hl.after n.below).cell 1
   have c3: ∀n:After w2,row? n.w wr.heap.size 2 9=ae (ints bb):=λn=>by have:=(Hl.after n.below).eJ 2 9 (by rw[Dn];omega);rw[this,TE.out];simp only[mZ,List.drop_zero];rw[ck (by rw[HB9.out];omega)]
   have HC4:Hid (∀j,k=j+1-> ∀n:After w2,n.w.cell? ⟨b,o+j *11,ai⟩=ae (.int .i64 (rs.getD j ((0,0),[])).1.1)):=by intro j hj n;have hbb:=gF.trans (n.below.mono gF.size);have h1:=(kB hbb (by have:=xc.out.size;omega) _ _).trans (HKC.out j hj);unfold rL at h1;exact CQ h1
   generalize wr.heap.size=xb at *;clear Hl fg HKC Dn TE gF xc;by_cases h1:0<=s/\s<=59
   rotate_left
   ·have HW1:=af (JL s 0 59 h1);have HF:Hid (lj rs=ay):=by
     unfold Hid lj;rw[HM.out,qN.out,HR.out];by_cases h2:0<=s
     ·have h3: ¬s<=59:=λh=>h1 ⟨h2,h⟩
      simp[h3]
     ·simp[h2]
    clear h1;refine bF (by kernel_rfl) (by kernel_rfl) ?_
    repeat(go_big_quiet_step (first|(go_at_call 138;with_reducible exact jr (HW1.out _))))
    refine wpQuiet_nil ?_;rintro _ ⟨n,rfl⟩;have RP:Hid (Below w.heap.size w n.w):=pW.out.trans (n.below.mono pW.out.size)
    go_wp2_with fail
    go_ret;exact⟨eu HF.out.symm,RP.out⟩
   by_cases h2:0<=g/\g<=1000000
   rotate_left
   ·have HW1:=af (yT s 0 59 h1);have HW2:=af (JL g 0 1000000 h2);have HF:Hid (lj rs=ay):=by
     unfold Hid lj;rw[HM.out,qN.out,HR.out];by_cases h3:0<=g
     ·have h4: ¬g<=1000000:=λh=>h2 ⟨h3,h⟩
      simp[h4]
     ·simp[h3]
    clear h1 h2;refine bF (by kernel_rfl) (by kernel_rfl) ?_
    repeat(go_big_quiet_step (first
     |(go_at_call 138;with_reducible exact jr (HW1.out _))
     |(go_at_call 138;with_reducible exact jr (HW2.out _))))
    refine wpQuiet_nil ?_;rintro _ ⟨n,rfl⟩;have RP:Hid (Below w.heap.size w n.w):=pW.out.trans (n.below.mono pW.out.size)
    go_wp2_with fail
    go_ret;exact⟨eu HF.out.symm,RP.out⟩
   have HW1:=af (yT s 0 59 h1);have HW2:=af (yT g 0 1000000 h2);have JW:Hid (uY ((s,g),bb)=decide (bI (toaQ bb)=0)):=by unfold Hid;rw[HR.out];simp[h1,h2]
   clear h1 h2 HR;generalize bI (toaQ bb)=E at *;by_cases he:E=0
   rotate_left
   ·have h3:(E !=0)=aw:=by simpa using he
    have HF:Hid (lj rs=ay):=by unfold Hid lj;rw[HM.out,qN.out,JW.out];simp[he]
    clear he;refine bF (by kernel_rfl) (by kernel_rfl) ?_
    repeat(go_big_quiet_step (first
     |(go_at_call 138;with_reducible exact jr (HW1.out _))
     |(go_at_call 138;with_reducible exact jr (HW2.out _))
     |(go_at_call 46;with_reducible exact ep (HCB.out _))))
    refine wpQuiet_nil ?_;rintro _ ⟨n,rfl⟩;have RP:Hid (Below w.heap.size w n.w):=pW.out.trans (n.below.mono pW.out.size)
    go_wp2_with fail
    go_ret;exact⟨eu HF.out.symm,RP.out⟩
   subst he;cases k with
   |zero=>
    have HN:Hid (j7 ai rs=j7 (sQ rs 1) (rs.drop 1)):=by unfold Hid;rw[HM.out,qN.out,JW.out];simp[sQ]
    clear HM qN;refine bF (by kernel_rfl) (by kernel_rfl) ?_
    repeat(go_big_quiet_step (first
     |(go_at_call 138;with_reducible exact jr (HW1.out _))
     |(go_at_call 138;with_reducible exact jr (HW2.out _))
     |(go_at_call 46;with_reducible exact ep (HCB.out _))))
    refine wpQuiet_nil ?_;rintro _ ⟨n,rfl⟩;have RP:Hid (Below w.heap.size w n.w):=pW.out.trans (n.below.mono pW.out.size)
    go_wp2_with fail
    go_roundw
    case rel=>exact⟨1,by omega,by go_num,HN.out,RP.out⟩
    case measure=>simp[intOf];omega
   |succ j=>
    have c4:=HC4.out j rfl;have mW:IntKind.i64.wrap ((j:Int)+1-1)=j:=by rw[show(j:Int)+1-1=j from by omega];exact IntWalk.i64_in _ (by omega)
    have HPV:Hid (sQ rs (j+1)=ae (rs.getD j ((0,0),[])).1.1):=rfl;generalize (rs.getD j ((0,0),[])).1.1=pv at *;have P':(0:Int)<(j:Int)+1:=by omega
    have sa:(j:Int)<rs.length:=by omega
    by_cases h3:s<=pv
    ·have HF:Hid (lj rs=ay):=by
      unfold Hid lj;rw[HM.out,qN.out,JW.out,HPV.out];have: ¬pv<s:=by omega
      simp[this]
     refine bF (by kernel_rfl) (by kernel_rfl) ?_
     repeat(go_big_quiet_step (first
      |(go_at_call 138;with_reducible exact jr (HW1.out _))
      |(go_at_call 138;with_reducible exact jr (HW2.out _))
      |(go_at_call 46;with_reducible exact ep (HCB.out _))))
     refine wpQuiet_nil ?_;rintro _ ⟨n,rfl⟩;have RP:Hid (Below w.heap.size w n.w):=pW.out.trans (n.below.mono pW.out.size)
     go_wp2_with fail
     go_ret;exact⟨eu HF.out.symm,RP.out⟩
    ·have HN:Hid (j7 ai rs=j7 (sQ rs (j+1+1)) (rs.drop (j+1+1))):=by
      unfold Hid;rw[HM.out,qN.out,JW.out,HPV.out];have:pv<s:=by omega
      simp[this]
     have h4:pv<s:=by omega
     clear HM qN h3;refine bF (by kernel_rfl) (by kernel_rfl) ?_
     repeat(go_big_quiet_step (first
      |(go_at_call 138;with_reducible exact jr (HW1.out _))
      |(go_at_call 138;with_reducible exact jr (HW2.out _))
      |(go_at_call 46;with_reducible exact ep (HCB.out _))))
     refine wpQuiet_nil ?_;rintro _ ⟨n,rfl⟩;have RP:Hid (Below w.heap.size w n.w):=pW.out.trans (n.below.mono pW.out.size)
     go_wp2_with fail
     go_roundw
     case rel=>exact⟨j+1+1,by omega,by go_num,HN.out,RP.out⟩
     case measure=>simp[intOf];omega
  ·have vI:(rs.length:Int)<=k:=by omega
   have HF:Hid (lj rs=decide (rs.length<=60)):=by unfold Hid lj;rw[HM.out,List.drop_eq_nil_of_le (by omega)];simp[j7]
   go_wp2_with fail
   go_ret;refine⟨eu ?_,xc.out⟩;rw[HF.out,l8,decide_eq_true_eq,decide_eq_true_eq];omega
end
end Go.Proofs.YtknejlcijdngoaaGreat
