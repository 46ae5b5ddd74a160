/- Several texts in one, made short by a program of mine. -/
import Derived.Test.YtknejlcijdngoaaGreatEQ4
import Derived.Conc.WgGenN2
import Derived.StillTailTactics
import Derived.BigQuiet
import Derived.Deep.DeepCutAuto
import Derived.Shelf.SlicesQ.Reverse
import Derived.BigRegion
set_option linter.unusedVariables false
set_option linter.unusedSimpArgs false
set_option linter.unusedSectionVars false
set_option maxHeartbeats 16000000
set_option maxRecDepth 100000
open Array renaming empty_append→kq,getD_eq_getD_getElem?→bF,getElem?_eq_none→ic,getElem?_eq_some_iff→aL,getElem?_modify→bw,mem_of_getElem?→th,replicate→eh
open Bool renaming and_eq_true→aM,eq_iff_iff→nJ,false_eq_true→e9,false→aw,true→aA
open Go renaming Frame→bm,FuncId→bQ,Goroutine→ay,Operand→cw,Program→aS,TypeId→aF,Value→aq,World→ah
open Go.Act renaming eval→bV
open Go.Deferred renaming ofValue→gM
open Go.Frame renaming finish_at→mV
open Go.Instr renaming loadAt→dN,lookup→lj
open Go.Lib renaming hid→af
open Go.Region renaming wanted→bu
open Go.Result renaming andThen→dU
open Go.Value renaming int→aZ,oneCell'→jm,ownBlock→fK,slice→dZ
open Go.World renaming block_lt_of_cell?→qV,cell?→c8,size_alloc→cQ
open Go.World.ownsRow renaming lt→lq
open Go.stepG renaming apply→eU
open Int renaming toNat_natCast→dL
open List renaming any_eq_true→kB,append_assoc→dn,append_nil→eN,cons_append→dJ,eq_nil_of_length_eq_zero→gg,ext_getElem?→lJ,flatMap_append→eI,flatMap_cons→cM,getD→bp,getElem?_eq_getElem→ao,getElem?_eq_none→je,getElem?_map→dK,getElem?_set→gh,getElem_mem→aU,length_append→bM,length_set→ew,length_take→dW,map_append→dX,map_congr_left→dy,map_cons→fA,mem_append→iV,mem_filter→cu,mem_map→aN,mem_of_mem_take→oY,mem_range→mD,mem_singleton→eC,nil_append→cL,range→aG,replicate→bZ,set_append_right→nP,take_append_drop→nQ,take_length→cD,take_of_length_le→cI,take_succ_eq_append_getElem→aR
open List.Perm renaming append_left→dE,refl→pW,swap→cB
open Nat renaming add_mul→k8,add_zero→kW,le_refl→az,le_trans→bP,lt_of_lt_of_le→bX,mul_le_mul_right→il,one_mul→jR,zero_add→aC,zero_le→bS
open Option renaming bind_some→rM,getD_some→bI,map_eq_some_iff→aK,map_some→eY,none→ai,some→ae
open Option.some renaming inj→aY,injEq→dz
open Or renaming inl→br,inr→bR
namespace Go.Proofs.YtknejlcijdngoaaGreat
namespace Rel
open Go.Conc Go.ConcN
open Go.ConcR (KK WgAt rd wr Payload DC0 stA smA Bk)
section
variable {P:aS} {main:Bool} {b:bm} {a:Act} {k:List Item} {cs:List bm} {ops:Array Oper} {i:Nat} {rest:List Nat} {o:Oper} {f:bQ} {fn:Func} {c:Code} {w:ah}
def pw (f:bQ)(caps args:Array aq):Deferred:={target:=.fn (.func f) caps,args:=args}
theorem JV {u:cw}{args:Array cw}{tE:Array aF}{caps:Array aq}(hop:o.op=.call {callee:=.value u,args,argTypes:=tE})(hu:a.eval u=.func (.func f) #[] caps)(hf:P.funcs[f]? =ae fn)(hU:(fn.name== "runtime.NumGoroutine")=aw)(hb:fn.body.isNone=aw)(w:ah):(execOp a.eval o).run P w=.ok (.enter f (args.map a.eval++caps)) w:=by
 have h1: ¬fn.name= "runtime.NumGoroutine" :=by simpa using hU
 have h2: ¬fn.body=ai:=by cases hx:fn.body<;>simp_all
 unfold execOp;simp[hop,resolve,gM,invoke,callFunc,hf,h1,h2,hu]
theorem BK {u:cw}{args:Array cw}{tE:Array aF}{caps:Array aq}(hop:o.op=.call {callee:=.value u,args,argTypes:=tE})(hu:a.eval u=.func (.func f) #[] caps)(hf:P.funcs[f]? =ae fn)(hU:(fn.name== "runtime.NumGoroutine")=aw)(hb:fn.body.isNone=aw)(w:ah):(execOp a.eval o).events P w #[]= #[]:=by
 have h1: ¬fn.name= "runtime.NumGoroutine" :=by simpa using hU
 have h2: ¬fn.body=ai:=by cases hx:fn.body<;>simp_all
 unfold execOp;simp[hop,resolve,gM,invoke,callFunc,hf,h1,h2,hu]
theorem Nn {u:cw}{args:Array cw}{tE:Array aF}{caps:Array aq}(ho:ops[i]? =ae o)(hw:bu o (yielded ops a.tmps)=aA)(hk:b.kind≠ .early)(hop:o.op=.call {callee:=.value u,args,argTypes:=tE})(hu:a.eval u=.func (.func f) #[] caps)(hf:P.funcs[f]? =ae fn)(hU:(fn.name== "runtime.NumGoroutine")=aw)(hb:fn.body=ae c):stepG P main (G (b.at a (.inRegion ops (i::rest)::k)) cs) w=.go (G ((base f).at {tmps:=(args.map a.eval++caps)++eh (fn.ntmps-(args.map a.eval++caps).size) undef,defers:=[]} [.code c]) (b.at a (.inRegion ops (i::rest)::k)::cs)) w #[]:=by
 have jN:fn.body.isNone=aw:=by rw[hb];rfl
 rw[stepG_enter ho hw hk (JV hop hu hf hU jN w),enter_at _ hf hb];unfold listed;rw[BK hop hu hf hU jN w,seen_none]
theorem J4 {u:cw}{args:Array cw}{tE:Array aF}{caps:Array aq}(ho:ops[i]? =ae o)(hw:bu o (yielded ops a.tmps)=aA)(hk:b.kind≠ .early)(hop:o.op=.defer {callee:=.value u,args,argTypes:=tE})(hu:a.eval u=.func (.func f) #[] caps)(hr:b.roundOf=ai):stepG P main (G (b.at a (.inRegion ops (i::rest)::k)) cs) w=.go (G (b.at (Act.put ⟨a.tmps,pw f caps (args.map a.eval)::a.defers⟩ o.dst undef) (.inRegion ops rest::k)) cs) w #[]:=by
 have cG:(execOp a.eval o).run P w=.ok (.defer (pw f caps (args.map a.eval))) w:=by unfold execOp;simp[hop,resolve,gM,hu,pw]
 have he:(execOp a.eval o).events P w #[]= #[]:=by unfold execOp;simp[hop,resolve,gM,hu]
 have rj:(b.at ⟨a.tmps,pw f caps (args.map a.eval)::a.defers⟩ (.inRegion ops (i::rest)::k)).finish undef=b.at (Act.put ⟨a.tmps,pw f caps (args.map a.eval)::a.defers⟩ o.dst undef) (.inRegion ops rest::k):=by rw[mV,ho];rfl
 have zF:(b.kind==CallKind.early)=aw:=by simpa using hk
 rw[stepG_oper ho hw,<-rj];simp[eU,cG,he,G,Frame.at,zF,GStep.after,seen_none]
theorem F9 {todo:List Item}{ds:List Deferred}{caps args:Array aq}(hd:a.defers=pw f caps args::ds)(hf:P.funcs[f]? =ae fn)(hU:(fn.name== "runtime.NumGoroutine")=aw)(hb:fn.body=ae c):stepG P main (G {b.at a todo with mode:=.returning} cs) w=.go (G ((baseD f).at {tmps:=(args++caps)++eh (fn.ntmps-(args++caps).size) undef,defers:=[]} [.code c]) ({b.at ⟨a.tmps,ds⟩ todo with mode:=.returning}::cs)) w #[]:=by
 have h1: ¬fn.name= "runtime.NumGoroutine" :=by simpa using hU
 rw[<-enter_atD (args++caps) hf hb];simp[G,stepG,unwind,callDeferred,Frame.at,hd,pw,invoke,callFunc,hf,h1,hb,GStep.after,seen_none]
def K1 (P:aS):bm:={(default:bm)with fn:=P.funcs.size,defers:=[],mode:=.panicking [goexitEntry]}
theorem P2 {caps args:Array aq}(hf:P.funcs[f]? =ae fn)(hU:(fn.name== "runtime.NumGoroutine")=aw)(hb:fn.body=ae c):stepG P main (born P (pw f caps args)) w=.go (G ((baseD f).at {tmps:=(args++caps)++eh (fn.ntmps-(args++caps).size) undef,defers:=[]} [.code c]) [K1 P]) w #[]:=by
 have h1: ¬fn.name= "runtime.NumGoroutine" :=by simpa using hU
 rw[<-enter_atD (args++caps) hf hb];simp[G,born,stepG,unwind,callDeferred,pw,invoke,callFunc,hf,h1,hb,GStep.after,seen_none,K1,goexitEntry]
theorem B6 {tE:Array aF}{c0:bm}(ho:ops[i]? =ae o)(hw:bu o (yielded ops a.tmps)=aA)(hk:b.kind=.deferred)(hop:o.op=.call {callee:=.builtin .recover,args:= #[],argTypes:=tE})(hc:c0.mode=.returning)(hr:b.roundOf=ai):stepG P main (G (b.at a (.inRegion ops (i::rest)::k)) (c0::cs)) w=.go (G (b.at (a.put o.dst .nilIface) (.inRegion ops rest::k)) (c0::cs)) w #[]:=by
 have cG:(execOp a.eval o).run P w=.ok .recover w:=by unfold execOp;simp[hop,resolve,invoke,builtin]
 have he:(execOp a.eval o).events P w #[]= #[]:=by unfold execOp;simp[hop,resolve,invoke,builtin]
 have rj:(b.at a (.inRegion ops (i::rest)::k)).finish .nilIface=b.at (a.put o.dst .nilIface) (.inRegion ops rest::k):=by rw[mV,ho];rfl
 have zF:(b.kind==CallKind.early)=aw:=by rw[hk];rfl
 rw[stepG_oper ho hw,<-rj];simp[eU,cG,he,G,Frame.at,hk,hr,GStep.after,seen_none,tryRecover,hc]
end
section
variable {P:aS} {b:bm} {a:Act} {todo:List Item} {F:Func}
theorem JE (hk:b.kind=.deferred)(hd:a.defers=[])(hF:P.funcs[b.fn]? =ae F)(hr:F.results= #[]):QuitsD P 2 0 (G {b.at a todo with mode:=.returning} [K1 P]):=by
 refine QuitsD.ctl (g':=G (K1 P) []) rfl (λw=> ?_) ?_
 ·simp[G,stepG,unwind,doReturn,results,Frame.at,hk,hd,K1,hF,hr,seen,GStep.after,goexitEntry]
 refine QuitsD.ctl (g':={G (K1 P) []with status:=.finished}) rfl (λw=> ?_) ⟨rfl,rfl⟩;simp[G,stepG,unwind,K1,goexitEntry,Frame.catches]
 rfl
end
section
variable [Payload] {φ:Ph} {γ:Gh} {w:ah} {b:bm} {a:Act} {k:List Item} {cs:List bm} {ops:Array Oper} {i:Nat} {rest:List Nat} {o:Oper} {x y:Code} {c:cw} {id:Nat}
theorem l6 (O:φ.Ok)(h:φ.WT γ (G (b.at a (.code x::.code y::k)) cs) w):φ.WT γ (G (b.at a (.code (.seq x y)::k)) cs) w:=.ctl O rfl (λ_=>stepG_seq) h
theorem Kg (O:φ.Ok)(h:φ.WT γ (G (b.at a k) cs) w):φ.WT γ (G (b.at a (.code .skip::k)) cs) w:=.ctl O rfl (λ_=>stepG_skip) h
theorem zr (O:φ.Ok)(h:φ.WT γ (G (b.at a (.code x::.inBlock id::k)) cs) w):φ.WT γ (G (b.at a (.code (.block id x)::k)) cs) w:=.ctl O rfl (λ_=>stepG_block) h
theorem Eu (O:φ.Ok)(h:φ.WT γ (G (b.at a k) cs) w):φ.WT γ (G (b.at a (.inBlock id::k)) cs) w:=.ctl O rfl (λ_=>stepG_inBlock) h
theorem R8 (O:φ.Ok)(h:φ.WT γ (G (b.at a (.code x::.inLoop x::k)) cs) w):φ.WT γ (G (b.at a (.code (.loop x)::k)) cs) w:=.ctl O rfl (λ_=>stepG_loop) h
theorem Iq (O:φ.Ok)(h:φ.WT γ (G (b.at a (.code x::.inLoop x::k)) cs) w):φ.WT γ (G (b.at a (.inLoop x::k)) cs) w:=.ctl O rfl (λ_=>stepG_inLoop) h
theorem ib (O:φ.Ok)(h:φ.WT γ (G (b.at a (.inRegion ops (aG ops.size)::k)) cs) w):φ.WT γ (G (b.at a (.code (.region id ops aw)::k)) cs) w:=.ctl O rfl (λ_=>stepG_region) h
theorem mO (O:φ.Ok)(h:φ.WT γ (G (b.at a k) cs) w):φ.WT γ (G (b.at a (.inRegion ops []::k)) cs) w:=.ctl O rfl (λ_=>stepG_region_end) h
theorem NB (O:φ.Ok)(hc:a.eval c=.bool aA)(h:φ.WT γ (G (b.at a (.code x::k)) cs) w):φ.WT γ (G (b.at a (.code (.cond c x y)::k)) cs) w:=.ctl O rfl (λ_=>stepG_cond hc) h
theorem Et (O:φ.Ok)(hc:a.eval c=.bool aw)(h:φ.WT γ (G (b.at a (.code y::k)) cs) w):φ.WT γ (G (b.at a (.code (.cond c x y)::k)) cs) w:=.ctl O rfl (λ_=>stepG_cond hc) h
theorem R7 (O:φ.Ok){k':List Item}(he:exitTo id k=ae k')(h:φ.WT γ (G (b.at a k') cs) w):φ.WT γ (G (b.at a (.code (.exit id)::k)) cs) w:=.ctl O rfl (λ_=>stepG_exit he) h
theorem Ke (O:φ.Ok)(h:φ.WT γ (G {b.at a []with mode:=.returning} cs) w):φ.WT γ (G (b.at a []) cs) w:=.ctl O rfl (λ_=>stepG_end) h
theorem lH (O:φ.Ok)(v:aq)(ho:ops[i]? =ae o)(hw:bu o (yielded ops a.tmps)=aA)(hb:b.kind≠ .early)(cG: ∀aD,φ.eP γ w aD->(execOp a.eval o).run φ.P aD=.ok (.value v) aD)(jq: ∀aD,φ.eP γ w aD->(execOp a.eval o).events φ.P aD #[]= #[])(h:φ.WT γ (G (b.at (a.put o.dst v) (.inRegion ops rest::k)) cs) w):φ.WT γ (G (b.at a (.inRegion ops (i::rest)::k)) cs) w:=.pure O v ho hw hb cG (λaD dh e he=>by rw[jq aD dh]at he;simp at he) h
theorem rJ (O:φ.Ok)(v:aq){ad:Addr}(ho:ops[i]? =ae o)(hw:bu o (yielded ops a.tmps)=aA)(hb:b.kind≠ .early)(hl:γ.own ad.block\/φ.od ad.block)(cG: ∀aD,φ.eP γ w aD->(execOp a.eval o).run φ.P aD=.ok (.value v) aD)(jq: ∀aD,φ.eP γ w aD-> ∀e∈(execOp a.eval o).events φ.P aD #[],e=⟨.cell ad,aw,aw⟩)(h:φ.WT γ (G (b.at (a.put o.dst v) (.inRegion ops rest::k)) cs) w):φ.WT γ (G (b.at a (.inRegion ops (i::rest)::k)) cs) w:=.pure O v ho hw hb cG (λaD dh e he=>by rw[jq aD dh e he];exact .inr ⟨rfl,ad.block,rfl,hl.imp id λx=>.inr ⟨rfl,x⟩⟩) h
variable {f:bQ} {fn:Func} {z:Code}
theorem Es (O:φ.Ok){u:cw}{args:Array cw}{tE:Array aF}{caps:Array aq}(ho:ops[i]? =ae o)(hw:bu o (yielded ops a.tmps)=aA)(hk:b.kind≠ .early)(hop:o.op=.call {callee:=.value u,args,argTypes:=tE})(hu:a.eval u=.func (.func f) #[] caps)(hf:φ.P.funcs[f]? =ae fn)(hU:(fn.name== "runtime.NumGoroutine")=aw)(hb:fn.body=ae z)(h:φ.WT γ (G ((base f).at {tmps:=(args.map a.eval++caps)++eh (fn.ntmps-(args.map a.eval++caps).size) undef,defers:=[]} [.code z]) (b.at a (.inRegion ops (i::rest)::k)::cs)) w):φ.WT γ (G (b.at a (.inRegion ops (i::rest)::k)) cs) w:=.ctl O rfl (λ_=>Nn ho hw hk hop hu hf hU hb) h
theorem Us (O:φ.Ok){u:cw}{args:Array cw}{tE:Array aF}{caps:Array aq}(ho:ops[i]? =ae o)(hw:bu o (yielded ops a.tmps)=aA)(hk:b.kind≠ .early)(hop:o.op=.defer {callee:=.value u,args,argTypes:=tE})(hu:a.eval u=.func (.func f) #[] caps)(hr:b.roundOf=ai)(h:φ.WT γ (G (b.at (Act.put ⟨a.tmps,pw f caps (args.map a.eval)::a.defers⟩ o.dst undef) (.inRegion ops rest::k)) cs) w):φ.WT γ (G (b.at a (.inRegion ops (i::rest)::k)) cs) w:=.ctl O rfl (λ_=>J4 ho hw hk hop hu hr) h
theorem Qc (O:φ.Ok){todo:List Item}{ds:List Deferred}{caps args:Array aq}(hd:a.defers=pw f caps args::ds)(hf:φ.P.funcs[f]? =ae fn)(hU:(fn.name== "runtime.NumGoroutine")=aw)(hb:fn.body=ae z)(h:φ.WT γ (G ((baseD f).at {tmps:=(args++caps)++eh (fn.ntmps-(args++caps).size) undef,defers:=[]} [.code z]) ({b.at ⟨a.tmps,ds⟩ todo with mode:=.returning}::cs)) w):φ.WT γ (G {b.at a todo with mode:=.returning} cs) w:=.ctl O rfl (λ_=>F9 hd hf hU hb) h
theorem ab7 (O:φ.Ok){caps args:Array aq}(hf:φ.P.funcs[f]? =ae fn)(hU:(fn.name== "runtime.NumGoroutine")=aw)(hb:fn.body=ae z)(h:φ.WT γ (G ((baseD f).at {tmps:=(args++caps)++eh (fn.ntmps-(args++caps).size) undef,defers:=[]} [.code z]) [K1 φ.P]) w):φ.WT γ (born φ.P (pw f caps args)) w:=.ctl O rfl (λ_=>P2 hf hU hb) h
theorem Kf (O:φ.Ok){tE:Array aF}{c0:bm}(ho:ops[i]? =ae o)(hw:bu o (yielded ops a.tmps)=aA)(hk:b.kind=.deferred)(hop:o.op=.call {callee:=.builtin .recover,args:= #[],argTypes:=tE})(hc:c0.mode=.returning)(hr:b.roundOf=ai)(h:φ.WT γ (G (b.at (a.put o.dst .nilIface) (.inRegion ops rest::k)) (c0::cs)) w):φ.WT γ (G (b.at a (.inRegion ops (i::rest)::k)) (c0::cs)) w:=.ctl O rfl (λ_=>B6 ho hw hk hop hc hr) h
theorem ab9 {t:aF}{u:cw}(ho:ops[i]? =ae o)(hw:bu o (yielded ops a.tmps)=aA)(hb:b.kind≠ .early)(hop:o.op=.recv t u aA)(hu:a.eval u=.chan (ae φ.Ch))(hz: ∀w,(execOp a.eval o).run φ.P w=.ok (.comm #[rcase φ.Ch φ.z] aA (.recv aA)) w)(he: ∀w,(execOp a.eval o).events φ.P w #[]= #[])(LN: ∀aD p,φ.eP γ w aD->p<φ.nj-> ¬γ.held p->φ.J0 p aD->φ.WT (γ.hold p) (G (b.at (a.put o.dst (.tuple #[φ.jv p,.bool aA])) (.inRegion ops rest::k)) cs) aD)(aaS: ∀aD,φ.eP γ w aD->φ.WT γ.close (G (b.at (a.put o.dst (.tuple #[φ.z,.bool aw])) (.inRegion ops rest::k)) cs) aD):φ.WT γ (G (b.at a (.inRegion ops (i::rest)::k)) cs) w:=by
 have rj: ∀v,Go.Conc.served (G (b.at a (.inRegion ops (i::rest)::k)) cs) v=G (b.at (a.put o.dst v) (.inRegion ops rest::k)) cs:=λv=>by unfold Go.Conc.served;show({frame:=(b.at a (.inRegion ops (i::rest)::k)).finish v,callers:=cs,status:=.running,dying:=ai}:ay)=_;rw[mV,ho];rfl
 refine .recv rfl (λaD _=> ?_) (λaD p h1 h2 h3 h4=> ?_) λaD h1=> ?_
 ·rw[stepG_comm ho hw hb (hz aD)];unfold listed;rw[he aD,seen_none]
 ·unfold Ph.got;rw[rj];exact LN aD p h1 h2 h3 h4
 ·unfold Ph.got;rw[rj];exact aaS aD h1
end
end Rel
namespace Rel
open Go.Conc Go.ConcN Go.RowKit Go.Conc.Lib Go.ConcR.Gen Go.ConcN.Gen
open Go.ConcR (KK WgAt rd wr mk Payload DC0 stA smA wgBlock Aside2)
section
variable [Payload] {φ:Ph} {L:WgLink} {γ:Gh} {w:ah}
theorem afl {P:aS}(H:WgLib P L){Own Rd:Nat->Loc->Prop}{Wg C n Low k:Nat}{val:aq}{b₀:bm}{a₀:Act}{ops₀:Array Oper}{i₀:Nat}{rest₀:List Nat}{k₀:List Item}{cs:List bm}{qt:Nat}(hT:QuitsD P qt 0 (G (b₀.at (a₀.put ((ops₀[i₀]?).bind (·.dst)) (.tuple #[])) (.inRegion ops₀ rest₀::k₀)) cs))(w:ah)(hK:WgLive L.tWg Wg w/\Has C (k-1) val w):Goes P aw (RW L.tWg Wg C n Low (k-1)) (DWs Wg Own Rd C n k) (AtR0 P L.tWg Wg C n Low k val) 23 (G ((base L.done).at ⟨#[.pointer (ae ⟨Wg,0,ai⟩),undef,undef,undef],[]⟩ [.code (body_done L)]) (b₀.at a₀ (.inRegion ops₀ (i₀::rest₀)::k₀)::cs)) w:=by
 lib_facts
 have hA:= @addNegN _ L P H Own Rd Wg C n Low k val;simp only[body_done,body_add,doneFn,addFn,bI]at hA⊢
 u_reg kn_rely hK
 u_op kn_rely hK
 u_in kn_rely hK
 refine goes_call rfl rfl (by k_ne) rfl H.f_add (nm_add L) rfl ⟨by u_nil,?_⟩
 walk_nrmf addFn
 refine hA (qt:=qt+3) ?_ _ hK;refine QuitsD.ctl rfl (λ_=>stepG_region_end) ?_;refine QuitsD.ctl rfl (λ_=>stepG_end) ?_;exact QuitsD.leave0 rfl rfl H.f_done rfl hT
theorem ab8 (H:WgLib φ.P L)(FK:φ.ty=L.tWg){C:Nat}{v:aq}{b₀:bm}{a₀:Act}{ops₀:Array Oper}{i₀:Nat}{rest₀:List Nat}{k₀:List Item}{cs:List bm}{qt:Nat}(Xw:γ.over)(hC:γ.own C)(hP:PayAt C 1 w)(hv:Has C 0 v w)(hl:WgLive φ.ty φ.Wg w)(hJ: ∀i,γ.held i->φ.JP (λb=>γ.own b/\b≠C) i w)(hT:QuitsD φ.P qt 0 (G (b₀.at (a₀.put ((ops₀[i₀]?).bind (·.dst)) (.tuple #[])) (.inRegion ops₀ rest₀::k₀)) cs)):φ.WT γ (G ((base L.done).at ⟨#[.pointer (ae ⟨φ.Wg,0,ai⟩),undef,undef,undef],[]⟩ [.code (body_done L)]) (b₀.at a₀ (.inRegion ops₀ (i₀::rest₀)::k₀)::cs)) w:=by refine .tail ⟨C,v,23,Xw,hC,hJ,hP,?_⟩;rw[FK]at hl⊢;exact afl (k:=1) H hT w ⟨hl,hv⟩
end
end Rel
namespace Rel
open Go.Conc Go.ConcN
open Go.ConcR (KK WgAt rd wr Payload DC0 stA smA Bk)
section
variable {P:aS}
theorem ME (V:Nat->Prop):Sub (only V):=λ_ _ h=>h.1
theorem Cn {V:Nat->Prop}:Ren.Ok P (only V):=⟨λ_ _ _ h k=>h.1.symm.trans k.1,λ_ _ _ h k=>h.1.trans k.1.symm,λ_ _ h=>by rw[h.1]⟩
theorem ck.sX {S:jy}{V:Nat->Prop}{w w':ah}(h:ck P S (only V) w w)(hs:w.heap.size<=w'.heap.size)(hk: ∀b,V b->w'.heap[b]? =w.heap[b]?)(ho: ∀a x,S.mem a=ae x->w'.heap[a.block]? =w.heap[a.block]?):ck P S (only V) w' w':=h.keeps (ME V) hs (λb hb=>hk b hb.2) ho
theorem sub_eq {π:Ren}(s:Sub π):π=only (λr=>π r r):=by funext l r;exact propext ⟨λh=>⟨s _ _ h,(s _ _ h)▸h⟩,λh=>h.1▸h.2⟩
theorem yV {c:fR}(hc:c.Fits P){V:Nat->Prop}{w:ah}(hH:ck P c.sig (only V) w w){a:Act}{o:Oper}(Xk: ∀t,c.kc t=.any)(wa:qF c o.op=aA)(jq:nh c (only V) a.eval a.eval){x:Next}{w':ah}(hr:(execOp a.eval o).run P w=.ok x w'): ∃V':Nat->Prop,(∀r,V r->V' r)/\(∀r,V' r->V r\/(w.heap.size<=r/\r<w'.heap.size))/\ck P c.sig (only V') w' w'/\NQ c (only V') x x/\(∀r,r<w.heap.size-> ¬V r->w'.heap[r]? =w.heap[r]?)/\w.heap.size<=w'.heap.size/\w'.tape=w.tape/\w'.os=w.os/\w'.output=w.output/\ ∀e∈(execOp a.eval o).events P w #[],Ey c.sig (only V') e:=by
 have cG:=(DK hc Cn jq ⟨λ_=>⟨rfl,rfl⟩,λt _=>.inr ⟨rfl,by rw[Xk t];trivial⟩⟩ o wa).run hH #[] #[];have Kz:(execOp a.eval o).runT P w #[]=(.ok x w',(execOp a.eval o).events P w #[]):=by rw[Sem.runT_eq,hr]
 rw[Kz]at cG;obtain⟨_,_,h3⟩:=cG;obtain⟨bO,x',R',ev,e,hR,um,jI,hd,_,S0⟩:=h3 λ_ _ _=>rfl
 rw[Kz,kq]at hR;simp only[Prod.mk.injEq,Result.ok.injEq]at hR;obtain⟨⟨h1,h2⟩,h3⟩:=hR;subst h1;subst h2;have s':=(ME V).Zy hd rfl;rw[sub_eq s']at um jI S0;refine⟨λr=>bO r r,λr hr=>hd.le _ _ ⟨rfl,hr⟩,λr hr=> ?_,jI,um,λr hr hn=>hd.rest r hr λl hl=>hn (hl.1▸hl.2),hd.size,hd.tape,hd.os,hd.output,λe he=>S0 e (by rw[<-h3];exact he)⟩;rcases hd.new r r hr with h|⟨h,_⟩
 ·exact .inl h.2
 ·exact .inr ⟨h,(jI.lt (l:=r) (r:=r) ⟨rfl,hr⟩).1⟩
end
section
variable [Payload] {φ:Ph} {γ:Gh} {w:ah} {b:bm} {a:Act} {k:List Item} {cs:List bm} {ops:Array Oper} {i:Nat} {rest:List Nat} {o:Oper}
theorem LA {c:fR}(iM: ∀a x,c.mem a=ae x->φ.od a.block){V V':Nat->Prop}{w w':ah}{es:Array Event}(hV: ∀r,V r->γ.own r)(tj: ∀r,γ.own r-> ¬φ.CB r)(rh: ∀r,φ.CB r->r<w.heap.size)(hV': ∀r,V' r->V r\/(w.heap.size<=r/\r<w'.heap.size))(mS: ∀r,r<w.heap.size-> ¬V r->w'.heap[r]? =w.heap[r]?)(km:w.heap.size<=w'.heap.size)(h1:w'.tape=w.tape)(h2:w'.os=w.os)(h3:w'.output=w.output)(jq: ∀e∈es,Ey c.sig (only V') e):φ.BD γ w w' es:=by
 have afD: ∀r,φ.CB r->w'.heap[r]? =w.heap[r]?:=λr hr=>mS r (rh r hr) λhv=>tj r (hV r hv) hr
 refine⟨λr hr hn _=>mS r hr λhv=>hn (hV r hv),λad tj _=> ?_,λr hr=> ?_,km,h1,h2,h3,λe he=> ?_⟩
 ·unfold c8;rw[afD _ tj]
 ·unfold fz;rw[afD _ hr]
 ·have ho: ∀r,V' r->(γ.grow w w').own r:=λr hr=>(hV' r hr).elim (λh=>.inl (hV r h)) .inr
  cases jq e he with
  |cell wr hb=>exact .inr ⟨rfl,_,rfl,.inl (ho _ (hb.1▸hb.2))⟩
  |obj wr hb=>exact .inr ⟨rfl,_,rfl,.inl (ho _ (hb.1▸hb.2))⟩
  |room=>exact .inl rfl
  |old hm=>exact .inr ⟨rfl,_,rfl,.inr (.inr ⟨rfl,iM _ _ hm⟩)⟩
theorem Qd {c:fR}(hc:c.Fits φ.P){V:Nat->Prop}(hV: ∀r,V r->γ.own r)(tj: ∀r,γ.own r-> ¬φ.CB r)(rh: ∀r,φ.CB r->r<w.heap.size)(hH:ck φ.P c.sig (only V) w w)(ho:ops[i]? =ae o)(hw:bu o (yielded ops a.tmps)=aA)(hb:b.kind≠ .early)(wa:qF c o.op=aA)(jq:nh c (only V) a.eval a.eval)(Q:ah->aq->ah->Prop)(cG: ∀aD,φ.eP γ w aD-> ∃v w',(execOp a.eval o).run φ.P aD=.ok (.value v) w'/\Q aD v w')(K: ∀aD v w' (V':Nat->Prop),φ.eP γ w aD->Q aD v w'->(∀r,V r->V' r)->(∀r,V' r->V r\/(aD.heap.size<=r/\r<w'.heap.size))->ck φ.P c.sig (only V') w' w'->bx c.sig (only V') v v->(∀r,r<aD.heap.size-> ¬V r->w'.heap[r]? =aD.heap[r]?)->aD.heap.size<=w'.heap.size->φ.WT (γ.grow aD w') (G (b.at (a.put o.dst v) (.inRegion ops rest::k)) cs) w')(Xk: ∀t,c.kc t=.any:=by intro t;rfl)(iM: ∀a x,c.mem a=ae x->φ.od a.block:=by intro a x h;cases(show(ai:Option Int)=ae x from h)):φ.WT γ (G (b.at a (.inRegion ops (i::rest)::k)) cs) w:=by
 classical
 let vf:ah->aq:=λaD=>if r:φ.eP γ w aD then(cG aD r).choose else undef
 let uf:ah->ah:=λaD=>if r:φ.eP γ w aD then(cG aD r).choose_spec.choose else aD
 have spec: ∀aD,φ.eP γ w aD->(execOp a.eval o).run φ.P aD=.ok (.value (vf aD)) (uf aD)/\Q aD (vf aD) (uf aD):=λaD r=>by have:=(cG aD r).choose_spec.choose_spec;simp only[vf,uf,dif_pos r];exact this
 have heap: ∀aD,φ.eP γ w aD->ck φ.P c.sig (only V) aD aD:=λaD r=>hH.sX r.size (λx hx=>r.own x (hV x hx)) λa x hx=>r.rd _ (iM a x hx)
 refine .op vf uf ho hw hb (λaD r=>(spec aD r).1) (λaD r=> ?_) λaD r=> ?_
 ·obtain⟨V',_,h2,_,_,h5,h6,h7,h8,h9,QN⟩:=yV hc (heap aD r) Xk wa jq (spec aD r).1;exact LA iM hV tj (λx hx=>bX (rh x hx) r.size) h2 h5 h6 h7 h8 h9 QN
 ·obtain⟨V',h1,h2,h3,h4,h5,h6,_⟩:=yV hc (heap aD r) Xk wa jq (spec aD r).1;cases h4 with
  |value h4=>exact K aD _ _ V' r (spec aD r).2 h1 h2 h3 h4 h5 h6
theorem ab' {c:fR}(hc:c.Fits φ.P){V:Nat->Prop}(hV: ∀r,V r->γ.own r)(tj: ∀r,γ.own r-> ¬φ.CB r)(rh: ∀r,φ.CB r->r<w.heap.size)(hH:ck φ.P c.sig (only V) w w)(ho:ops[i]? =ae o)(hw:bu o (yielded ops a.tmps)=aA)(hb:b.kind≠ .early)(wa:qF c o.op=aA)(jq:nh c (only V) a.eval a.eval)(u:ah->ah)(cG: ∀aD,φ.eP γ w aD->(execOp a.eval o).run φ.P aD=.ok .skip (u aD))(K: ∀aD (V':Nat->Prop),φ.eP γ w aD->(∀r,V r->V' r)->(∀r,V' r->V r\/(aD.heap.size<=r/\r<(u aD).heap.size))->ck φ.P c.sig (only V') (u aD) (u aD)->(∀r,r<aD.heap.size-> ¬V r->(u aD).heap[r]? =aD.heap[r]?)->aD.heap.size<=(u aD).heap.size->φ.WT (γ.grow aD (u aD)) (G (b.at (a.put o.dst undef) (.inRegion ops rest::k)) cs) (u aD))(Xk: ∀t,c.kc t=.any:=by intro t;rfl)(iM: ∀a x,c.mem a=ae x->φ.od a.block:=by intro a x h;cases(show(ai:Option Int)=ae x from h)):φ.WT γ (G (b.at a (.inRegion ops (i::rest)::k)) cs) w:=by
 have heap: ∀aD,φ.eP γ w aD->ck φ.P c.sig (only V) aD aD:=λaD r=>hH.sX r.size (λx hx=>r.own x (hV x hx)) λa x hx=>r.rd _ (iM a x hx)
 refine .opN u ho hw hb cG (λaD r=> ?_) λaD r=> ?_
 ·obtain⟨V',_,h2,_,_,h5,h6,h7,h8,h9,QN⟩:=yV hc (heap aD r) Xk wa jq (cG aD r);exact LA iM hV tj (λx hx=>bX (rh x hx) r.size) h2 h5 h6 h7 h8 h9 QN
 ·obtain⟨V',h1,h2,h3,_,h5,h6,_⟩:=yV hc (heap aD r) Xk wa jq (cG aD r);exact K aD V' r h1 h2 h3 h5 h6
def XX (U:List Tmp):List Tmp:=(aG 128).filter λt=> !U.contains t
theorem IY {c:fR}{π:Ren}{U:List Tmp}{a:Act}(hc:c.bad=XX U)(km:a.tmps.size<=128)(h: ∀t∈U,bx c.sig π (a.tmps.getD t undef) (a.tmps.getD t undef)):nh c π a.eval a.eval:=by
 intro o ho;cases o with
 |tmp t=>
  have ht:t∉c.bad:=by simpa[eA]using ho
  rw[hc]at ht;show bx c.sig π (a.tmps.getD t undef) (a.tmps.getD t undef);by_cases hl:t<128
  ·by_cases hu:t∈U
   ·exact h t hu
   ·exact absurd (cu.2 ⟨mD.2 hl,by simpa using hu⟩) ht
  ·have OH:128<=t:=Nat.le_of_not_lt hl;have:a.tmps.getD t undef=undef:=by rw[bF,ic (bP km OH)];rfl
   rw[this];exact .tuple rfl (by simp)
 |const v=>exact vU 4 v ho π
 |global g=>cases ho
 |func f=>exact .func (.func ho) rfl (by simp) rfl (by simp)
end
end Rel
namespace Rel
open Go.Conc
variable {P:aS}
theorem sB (a:Addr): ∀(n i:Nat) (acc:Array aq) (w:ah) (es:Array Event),(∀j,j<n->(w.cell? (a.add (i+j))).isSome)-> ∀ev∈(loadCellsFrom a i n acc).events P w es,ev∈es\/ ∃ad:Addr,ev=⟨.cell ad,aw,aw⟩/\ad.block=a.block
 |0,_,_,_,_,_=>λev h=>.inl (by simpa[loadCellsFrom]using h)
 |n+1,i,acc,w,es,hc=>λev h=>by
  simp only[loadCellsFrom,Sem.events_bind]at h;obtain⟨u,hu⟩:=Option.isSome_iff_exists.1 (hc 0 (by omega));simp only[kW]at hu;have hr:(load (a.add i)).run P w=.ok u w:=by simp[hu]
  rw[hr]at h;rcases sB a n (i+1) (acc.push u) w _ (λj hj=>by have:=hc (j+1) (by omega);rwa[show i+(j+1)=i+1+j by omega]at this) ev h with h|h
  ·rw[events_load,hu]at h;rcases Array.mem_push.1 h with h|rfl
   ·exact .inl h
   ·exact .inr ⟨a.add i,rfl,by unfold Addr.add;split<;>rfl⟩
  ·exact .inr h
theorem SK {t:aF}{g o n:Nat}{w:ah}(hag: ∀w,(isAgg t).run P w=.ok aA w)(hae: ∀w es,(isAgg t).events P w es=es)(km: ∀w,(sizeOf t).run P w=.ok n w)(hse: ∀w es,(sizeOf t).events P w es=es)(hc: ∀j,j<n->(w.cell? ⟨g,o+j,ai⟩).isSome): ∀e∈(dN t (.pointer (ae ⟨g,o,ai⟩))).events P w #[],∃ad:Addr,e=⟨.cell ad,aw,aw⟩/\ad.block=g:=by
 intro e he;have h:(dN t (.pointer (ae ⟨g,o,ai⟩))).events P w #[]=(loadCells ⟨g,o,ai⟩ n).events P w #[]:=by simp[dN,Instr.sureAddr,loadVar,hag,hae,km,hse]
 rw[h]at he;rcases sB ⟨g,o,ai⟩ n 0 #[] w #[] (λj hj=>by have:=hc j hj;rw[aC,show(⟨g,o,ai⟩:Addr).add j=⟨g,o+j,ai⟩from by unfold Addr.add;split<;>simp_all];exact this) e he with h|h
 ·simp at h
 ·exact h
theorem qk {t:aF}{g o n:Nat}{w:ah}{fs:Array Field}(hu:P.underlying t=ae (.struct fs))(hi:(P.info? t).map (·.size)=ae n)(hc: ∀j,j<n->(w.cell? ⟨g,o+j,ai⟩).isSome): ∀e∈(dN t (.pointer (ae ⟨g,o,ai⟩))).events P w #[],∃ad:Addr,e=⟨.cell ad,aw,aw⟩/\ad.block=g:=by
 obtain⟨i,h1,h2⟩:=aK.1 hi;refine SK (n:=n) (λw=> ?_) (λw es=> ?_) (λw=> ?_) (λw es=> ?_) hc
 ·simp[isAgg,Go.underlying,hu]
 ·simp[isAgg,Go.underlying,hu]
 ·simp[sizeOf,typeInfo,h1,h2]
 ·simp[sizeOf,typeInfo,h1]
end Rel
namespace Rel
open Go.Conc Go.ConcN
open Go.ConcR (KK WgAt rd wr Payload DC0 stA smA Bk)
def Ro {α:Type}:Sem α->Prop
 | .pure _=>True
 | .load _ _ k=> ∀v,Ro (k v)
 | .program k=> ∀p,Ro (k p)
 | .halt _=>True
 |_=>False
theorem Ro.bind {α β:Type}{s:Sem α}(h:Ro s){f:α->Sem β}(hf: ∀a,Ro (f a)):Ro (s.bind f):=by
 induction s with
 |pure a=>exact hf a
 |load m a k ih=>exact λv=>ih v (h v)
 |program k ih=>exact λp=>ih p (h p)
 |halt=>exact trivial
 |_=>exact h.elim
theorem Ro.bind' {α β:Type}{s:Sem α}(h:Ro s){f:α->Sem β}(hf: ∀a,Ro (f a)):Ro (s >>= f):=h.bind hf
theorem Ro.run {P:aS}{α:Type}{s:Sem α}(h:Ro s){w w':ah}{v:α}(hr:s.run P w=.ok v w'):w'=w:=by
 induction s with
 |pure a=>cases hr;rfl
 |load m a k ih=>
  simp only[Sem.run]at hr
  split at hr
  ·exact ih _ (h _) hr
  ·split at hr
   ·exact ih _ (h _) hr
   ·cases hr
 |program k ih=>exact ih _ (h _) hr
 |halt=>cases hr
 |_=>exact h.elim
theorem Cs {α:Type}(a:α):Ro (pure a:Sem α):=trivial
theorem M6 (t:aF):Ro (typeInfo t):=by
 unfold typeInfo;intro p;show Ro ((match p.info? t with|some i=>Sem.pure i|none=>stuck "no such type" :Sem TypeInfo))
 split<;>exact trivial
theorem FU (t:aF):Ro (underlying t):=by
 unfold underlying;intro p;show Ro ((match p.underlying t with|some d=>Sem.pure d|none=>stuck "no such type" :Sem TypeDesc))
 split<;>exact trivial
theorem YI (a:Addr): ∀(n i:Nat) (acc:Array aq),Ro (loadCellsFrom a i n acc):=by
 intro n
 induction n with
 |zero=>intro i acc;exact trivial
 |succ n ih=>intro i acc v;exact ih _ _
theorem PR (t:aF)(a:Addr):Ro (loadVar t a):=by
 unfold loadVar isAgg;refine Ro.bind' (Ro.bind' (FU t) λd=> ?_) λb=> ?_
 ·split<;>exact trivial
 ·split
  ·exact Ro.bind' (Ro.bind' (M6 t) λ_=>Cs _) λn=>Ro.bind' (YI a _ _ _) λ_=>Cs _
  ·exact λv=>trivial
theorem TX (v:aq):Ro (asAddr v):=by
 unfold asAddr
 split
 ·exact trivial
 ·exact λp=>trivial
 ·exact trivial
theorem PT (F:Func)(t:Array aq):Ro (results F t):=by
 unfold results;refine Ro.bind' ?_ λvs=> ?_
 ·rw[Array.mapM_eq_mapM_toList];generalize F.results.toList=l;refine Ro.bind' ?_ λ_=>Cs _
  induction l with
  |nil=>exact trivial
  |cons a l ih=>
   rw[List.mapM_cons];refine Ro.bind' ?_ λb=>Ro.bind' ih λc=>Cs _
   cases a with
   |tmp t=>exact trivial
   |cell a t=>exact Ro.bind' (TX _) λ_=>PR _ _
 ·split<;>exact trivial
theorem M4 {P:aS}{c:fR}{π:Ren}{L R:ah}(hw:ck P c.sig π L R){F:Func}{tL tR:Array aq}(hb:c.bad=[])(ht:se c π tL tR){v:aq}{t':Tape}{d':Nat}(hr:(results F tL).run P (dB L t' d')=.ok v (dB L t' d')): ∃bO v' ev,(results F tR).runT P R #[]=(.ok v' R,ev)/\bx c.sig bO v v'/\ ∀e∈ev,Ey c.sig π e:=by
 have jI:ck P c.sig π (dB L t' d') R:=⟨hw.ok,hw.obj,hw.ox,hw.uz,hw.old⟩;have cG:=(xT hw.ok F (z8 hb F) ht).run jI #[] #[];have Kz:(results F tL).runT P (dB L t' d') #[]=(.ok v (dB L t' d'),(results F tL).events P (dB L t' d') #[]):=by rw[Sem.runT_eq,hr]
 rw[Kz]at cG;obtain⟨_,_,h3⟩:=cG;obtain⟨bO,v',R',ev,e,hR,hv,OU,hd,Xd,jq⟩:=h3 λi q hi=>by omega
 rw[kq]at hR;have hR1:(results F tR).run P R=.ok v' R':=by have:=hR;rw[Sem.runT_eq]at this;exact(Prod.mk.inj this).1
 obtain rfl:=(PT F tR).run hR1;have QV: ∀l r,bO l r->π l r:=λl r h=>(hd.new l r h).elim id λx=>by have:=(OU.lt h).2;omega
 refine⟨bO,v',ev,hR,hv,λx hx=> ?_⟩;cases jq x hx with
 |cell wr hb=>exact .cell wr (QV _ _ hb)
 |obj wr hb=>exact .obj wr (QV _ _ hb)
 |room=>exact .room
 |old h=>exact .old h
section
variable [Payload] {φ:Ph} {γ:Gh} {w:ah} {b:bm} {a:Act} {k:List Item} {cs:List bm} {ops:Array Oper} {i:Nat} {rest:List Nat} {o:Oper}
theorem Ph.WT.agl (O:φ.Ok){c:fR}(hc:c.Fits φ.P){f:bQ}{args:Array cw}{tE:Array aF}{R:Ending->ah->Prop}{St:Nat->Prop}{F:Func}{x:Code}(ho:ops[i]? =ae o)(hw:bu o (yielded ops a.tmps)=aA)(hb:b.kind≠ .early)(hop:o.op=.call {callee:=.value (.func f),args,argTypes:=tE})(hf:c.fn f=aA)(hbd:c.bd f=[])(hF:φ.P.funcs[f]? =ae F)(hU:(F.name== "runtime.NumGoroutine")=aw)(hx:F.body=ae x)(po: ∀v∈args.map a.eval,AH c.sig v)(hg:φ.P.globals.size<=w.heap.size)(u9: ∀tp d,Calls φ.P f (args.map a.eval) (dB w tp d) R)(hR: ∀e L,R e L-> ∃v,e=.returned v/\Plain c.sig v)(tj: ∀r,γ.own r-> ¬φ.CB r)(sJ: ∀r,φ.CB r->r<w.heap.size)(OP: ∀r,φ.od r->r<w.heap.size/\ ¬γ.own r)(gI: ∀r,St r->γ.own r/\r<w.heap.size)(hWg:φ.Wg<w.heap.size/\ ¬γ.own φ.Wg)(K: ∀v L (γ':Gh) w',R (.returned v) L->(∀r,γ.own r->γ'.own r)->γ'.held=γ.held->γ'.over=γ.over->(∀r,γ'.own r->γ.own r\/(w.heap.size<=r/\r<w'.heap.size))->Kept φ γ St w w'->φ.WT γ' (G (b.at (a.put o.dst v) (.inRegion ops rest::k)) cs) w')(iM: ∀a x,c.mem a=ae x->φ.od a.block/\w.cell? a=ae (.int .i64 x):=by intro a x h;cases(show(ai:Option Int)=ae x from h)):φ.WT γ (G (b.at a (.inRegion ops (i::rest)::k)) cs) w:=by
 have jN:F.body.isNone=aw:=by rw[hx];rfl
 refine .enter O ho hw hb (λ_=>run_call_body hop hF hU jN) (λw=>events_call_body hop hF hU jN _) ?_;have ha: ∀π,cK c.sig π (args.map a.eval) (args.map a.eval):=λπ=>⟨rfl,λj u v hu hv=>by rw[hu]at hv;obtain rfl:=aY hv;exact po u (th hu) π⟩
 have h0:ck φ.P c.sig (λ_ _=>False) w w:=⟨⟨λ_ _ _ h=>h.elim,λ_ _ _ h=>h.elim,λ_ _ h=>h.elim⟩,λ_ _ h=>h.elim,hg,hg,λa x hx=>⟨λ_ h=>h,λ_ h=>h,(iM a x hx).2,(iM a x hx).2⟩⟩;have hT:=xj hc hf (R:=R) (λ_ _ h=>h.elim) h0 (.of (ha _)) (λe L h=>let⟨v,e,_⟩:=hR e L h;⟨v,e⟩) u9;refine Ph.WT.tree O (hc.at f) (St:=St) (w0:=w) (γ:=γ) (bot:=b.at a (.inRegion ops (i::rest)::k)::cs) hWg (λa x hx=>(iM a x hx).1) ?_ hT _ w γ _ ⟨rfl,rfl,.one (r8.enter hc hf (.of (ha (λ_ _=>False)))) rfl⟩ h0 (λ_ _ h=>h.elim) (λ_ h=>h) rfl rfl tj sJ OP (λr hr=>⟨(gI r hr).1,(gI r hr).2,λ_ h=>h⟩) (λ_ h=>.inl h) (.refl _ _ _ _);intro gL L g w' γ' π hH ll jI h1 h2 h3 h4 h6 h5;obtain⟨ahs,NO,v,t',d',hr,hm,hd,hk,F',yI,cG⟩:=hH;obtain⟨e1,e2,af6⟩:=ll;rw[ahs]at af6;obtain⟨hFr,uA,Dd⟩:=Eh af6;obtain⟨f1,f2,f3,f4,f5,f6,f7,f8,f9,_,_⟩:=hFr;rw[NO,hF]at yI;obtain rfl:=aY yI;obtain⟨v2,ev2,LS⟩:=hR _ _ hr;obtain rfl:v=v2:=by injection ev2
 have sO: ∀e8,φ.eP γ' w' e8-> ∃ev,(results F g.frame.tmps).runT φ.P e8 #[]=(.ok v e8,ev)/\ ∀e∈ev,Ey c.sig π e:=λe8 r=>by
  have OU:ck φ.P c.sig π L e8:=⟨jI.ok,λl x hx=>by obtain⟨o,o',e1,e2,e3⟩:=jI.obj l x hx;exact⟨o,o',e1,(r.own x (h1 l x hx)).trans e2,e3⟩,jI.ox,bP jI.uz r.size,λa x hx=>by obtain⟨g1,g2,g3,g4⟩:=jI.old a x hx;exact⟨g1,g2,g3,(og (r.rd _ (iM a x hx).1)).trans g4⟩⟩
  obtain⟨bO,v',ev,LB,hv,jq⟩:=M4 (c:=c.at f) OU hbd f2 cG;obtain rfl:=LS.2 bO _ hv;exact⟨ev,LB,jq⟩
 have dC:g.frame.mode=.returning:=f5.trans hm;have adA:g.frame.defers=[]:=by rw[hd]at f4;generalize g.frame.defers=y at f4;cases f4;rfl
 have rj:(b.at a (.inRegion ops (i::rest)::k)).finish v=b.at (a.put o.dst v) (.inRegion ops rest::k):=by rw[mV,ho];rfl
 have hgf:g.frame.fn=f:=f1.trans NO;refine .step (λ_=>G (b.at (a.put o.dst v) (.inRegion ops rest::k)) cs) id (λe8=>seen φ.P g.frame.fn ((results F g.frame.tmps).runT φ.P e8 #[]).2++ #[]) (by rw[e2]) (λe8 r=> ?_) λe8 r=> ?_
 ·obtain⟨ev,LB,jq⟩:=sO e8 r;refine⟨?_,GH λe he=> ?_⟩
  ·rw[e2,uA,iD aw g.frame _ _ (by rw[dC];simp),n5 aw g.frame _ _ adA dC,hgf,hF];simp only[phase,LB];have:doReturn φ.P aw g.frame (b.at a (.inRegion ops (i::rest)::k)::cs) ai v e8=.go (jG ((b.at a (.inRegion ops (i::rest)::k)).finish v) cs) e8 #[]:=by unfold doReturn;simp only[f8]
   rw[this,rj]
   rfl
  ·rw[LB,Array.append_empty]at he;cases jq e (j5 _ _ e he)with
   |cell wr hb=>exact .inr ⟨rfl,_,rfl,.inl (h1 _ _ hb)⟩
   |obj wr hb=>exact .inr ⟨rfl,_,rfl,.inl (h1 _ _ hb)⟩
   |room=>exact .inl rfl
   |old hm=>exact .inr ⟨rfl,_,rfl,.inr (.inr ⟨rfl,(iM _ _ hm).1⟩)⟩
 ·show φ.WT (γ'.grow e8 e8) _ e8;rw[Gh.vW];exact(K v _ γ' w' hr h2 h3 h4 h6 h5).rely O r
end
end Rel
section
open Go.RowKit Go.ChangeShapes Go.WideShapes Go.ChangeAt Go.Deep
def Sys.Fit (s:Sys):Prop:= ∀x∈s.list,Fits x
end
section
open Go.RowKit
def ez (ls:List (Int×Bool))(a b:Int):Bool:=decide (0<=a)&&decide (a<ls.length)&&(decide ((ls.getD a.toNat (0,aw)).1=b)&&(ls.getD a.toNat (0,aw)).2)
theorem qz (p:Nat)(ls:List (Int×Bool))(F:Nat->Prop)(a b:Int)(w:ah)(h:dY w p ls F):Calls Tryz.prog 72 #[.pointer (ae ⟨p,0,ai⟩),.agg #[.int .i64 a,.int .i64 b]] w λe w'=>e=.returned (.bool (ez ls a b))/\Below w.heap.size w w':=by
 obtain⟨A,c,f1,f2,f3,f4,f5,f6,f7⟩:=h.facts;have hp:=h.lt;have hd:Hid (ez ls a b=(decide (0<=a)&&decide (a<ls.length)&&(decide ((ls.getD a.toNat (0,aw)).1=b)&&(ls.getD a.toNat (0,aw)).2))):=rfl;have F1:=af f1;have F7:=af f7;clear f1 f2 f5 f6 f7 h
 go_enter Tryz.func72,Tryz.ntmps72
 go_upto_region 1 with(fail)
 have hB0:dq (w.alloc (.cells #[.int .i64 a,.int .i64 b] 43)) w.heap.size 43 #[.int .i64 a,.int .i64 b]:=dq.new _ _ _;refine cc (λw'=>dq w' w.heap.size 43 #[.int .i64 a,.int .i64 b]/\Below w.heap.size w w') ⟨hB0,(Below.refl _ _).alloc (az _) _⟩ ?_;rintro w1 ⟨vX,lf⟩;have tu:=af lf;have c1: ∀n:After w1,n.w.cell? ⟨w.heap.size,0,ai⟩=ae (.int .i64 a):=λn=>n.cell (vX.cell 0)
 have c2: ∀n:After w1,n.w.cell? ⟨w.heap.size,1,ai⟩=ae (.int .i64 b):=λn=>n.cell (vX.cell 1)
 have c3: ∀n:After w1,n.w.cell? ⟨p,0,ai⟩=ae (.slice A ls.length c):=λn=>n.cell ((lf.cell (p:=⟨p,0,ai⟩) hp).trans F1.out)
 clear hB0 vX lf;by_cases ha0:0<=a
 rotate_left
 ·have h1:decide (0<=a)=aw:=by simpa using ha0
  have HD:Hid (ez ls a b=aw):=by unfold Hid;rw[hd.out,h1];rfl
  refine bU (by kernel_rfl) (by kernel_rfl) ?_
  repeat(go_big_quiet_step (fail))
  refine wpQuiet_nil ?_;rintro _ ⟨n,rfl⟩
  go_wp2_with fail
  go_ret;exact⟨dv HD.out.symm,tu.out.trans (n.below.mono tu.out.size)⟩
 by_cases QP:a<ls.length
 rotate_left
 ·have h1:decide (0<=a)=aA:=by simpa using ha0
  have h2:decide (a<ls.length)=aw:=by simpa using QP
  have HD:Hid (ez ls a b=aw):=by unfold Hid;rw[hd.out,h1,h2];rfl
  refine bU (by kernel_rfl) (by kernel_rfl) ?_
  repeat(go_big_quiet_step (fail))
  refine wpQuiet_nil ?_;rintro _ ⟨n,rfl⟩
  go_wp2_with fail
  go_ret;exact⟨dv HD.out.symm,tu.out.trans (n.below.mono tu.out.size)⟩
 obtain⟨k,rfl⟩: ∃k:Nat,a=k:=⟨a.toNat,by omega⟩;obtain⟨g,rfl,hg1,Ku,A7,QT,ZG,OF,FJ,QU,S3⟩:=F7.out k (by omega);have c4: ∀n:After w1,row? n.w g (k *2) 2=ae #[.int .i64 (ls.getD k (0,aw)).1,.bool (ls.getD k (0,aw)).2]:=λn=>(iR n.below (by have:=tu.out.size;omega) _ _).trans ((iR tu.out A7 _ _).trans FJ)
 rw[dL]at hd;clear QT ZG OF FJ QU S3;have h2:decide ((k:Int)<ls.length)=aA:=by simpa using QP
 have heq: ∀W x y,(binOp .eql 172 (.agg #[.int .i64 x,.bool y]) (.agg #[.int .i64 b,.bool aA])).run Tryz.prog W=.ok (.bool (decide (x=b)&&y)) W:=λW x y=>by rw[Lf];simp
 have HD:Hid (ez ls k b=(decide ((ls.getD k (0,aw)).1=b)&&(ls.getD k (0,aw)).2)):=by unfold Hid;rw[hd.out,h2,decide_eq_true ha0];rfl
 generalize ls.getD k (0,aw)=x at *;obtain⟨x,y⟩:=x;simp only at HD c4;refine bU (by kernel_rfl) (by kernel_rfl) ?_
 repeat(go_big_quiet_step (fail))
 refine wpQuiet_nil ?_;rintro _ ⟨n,rfl⟩
 go_wp2_with fail
 go_ret;exact⟨dv HD.out.symm,tu.out.trans (n.below.mono tu.out.size)⟩
end
section
open Go.RowKit
def pg (ls:List (Int×Bool))(a b:Int):List (Int×Bool)×Int:=if ez ls a b then(ls.set a.toNat (b+1,aw),0)else(ls,7)
def NY (ls:List (Int×Bool)):Prop:= ∀x∈ls,0<=x.1/\x.1<=1000000
theorem sU {ls:List (Int×Bool)}{a b:Int}(h:ez ls a b=aA): ∃k:Nat,a=k/\k<ls.length/\ls.getD k (0,aw)=(b,aA):=by simp only[ez,aM,decide_eq_true_eq]at h;obtain⟨⟨h1,h2⟩,h3,h4⟩:=h;refine⟨a.toNat,by omega,by omega,Prod.ext h3 h4⟩
theorem WM (p:Nat)(ls:List (Int×Bool))(F:Nat->Prop)(a b:Int)(w:ah)(h:dY w p ls F)(hg:NY ls):Calls Tryz.prog 177 #[.pointer (ae ⟨p,0,ai⟩),.agg #[.int .i64 a,.int .i64 b]] w λe w'=>e=.returned (.int .i64 (pg ls a b).2)/\dY w' p (pg ls a b).1 F/\cW F w w':=by
 have H:=af h;have hd:Hid (pg ls a b=if ez ls a b then(ls.set a.toNat (b+1,aw),0)else(ls,7)):=rfl;clear h
 go_enter Tryz.func177,Tryz.ntmps177
 go_upto_region 1 with(fail)
 have hB0:dq (w.alloc (.cells #[.int .i64 a,.int .i64 b] 43)) w.heap.size 43 (ints [a,b]):=dq.new _ _ _;refine cc (λw'=>dq w' w.heap.size 43 (ints [a,b])/\Below w.heap.size w w') ⟨hB0,(Below.refl _ _).alloc (az _) _⟩ ?_;rintro w1 ⟨vX,lf⟩;have Zw:Hid (dY w1 p ls (λk=>F k/\k<w.heap.size)):=(H.out.mono (G:=λk=>F k/\k<w.heap.size) λk hk hf=>⟨hf,hk⟩).only (G:=λk=>w.heap.size<=k) (cW.fU lf) (λk hk=>by omega);have tu:=af vX;have yi:Hid (Below w.heap.size w w1):=lf;have afn:row? w1 w.heap.size 0 2=ae (ints [a,b]):=vX.bt rfl;clear hB0 vX lf
 go_wp2_with fail
 refine(qz p ls _ a b _ Zw.out).mono ?_;rintro e w2 ⟨rfl,gV⟩;have VL:Hid (dY w2 p ls (λk=>F k/\k<w.heap.size)):=Zw.out.only (G:=λk=>w1.heap.size<=k) (cW.fU gV) (λk hk=>by have:=yi.out.size;omega);have wR:=af (tu.out.after gV);have UP:Hid (Below w.heap.size w w2):=yi.out.trans (gV.mono yi.out.size);clear gV Zw tu yi afn;cases hL:ez ls a b
 ·have HR:Hid (pg ls a b=(ls,7)):=by unfold Hid;rw[hd.out,hL];rfl
  clear hL
  go_wp2_with fail
  go_ret;rw[HR.out];exact⟨rfl,VL.out.mono λk _ h=>h.1,(cW.fU UP.out)⟩
 ·obtain⟨k,rfl,hk,hkb⟩:=sU hL;have HR:Hid (pg ls k b=(ls.set k (b+1,aw),0)):=by unfold Hid;rw[hd.out,hL];rfl
  have hbb:=hg (b,aA) (by rw[<-hkb];simp[bp,ao hk]);simp only at hbb;have LZ:IntKind.i64.wrap (b+1)=b+1:=IntWalk.i64_in _ (by omega);have xH:(k:Int)<ls.length:=by omega
  obtain⟨A,c,f1,f2,f3,f4,f5,f6,f7⟩:=VL.out.facts;obtain⟨g,rfl,hg1,Ku,A7,QT,ZG,OF,FJ,QU,S3⟩:=f7 k hk;have c1:w2.cell? ⟨w.heap.size,0,ai⟩=ae (.int .i64 k):=wR.out.cell 0;have c2:w2.cell? ⟨w.heap.size,1,ai⟩=ae (.int .i64 b):=wR.out.cell 1;have HP:=af (VL.out.put hk f1 (b+1) aw);clear hL f2 f3 f4 f5 f6 f7 QT ZG FJ QU S3 hkb hd
  go_upto_region 3 with(fail)
  go_still_tail 11,(by kernel_rfl)
  repeat still_step
  change wpList _ _ _ _ _ w2.drew
  go_wp2_with fail
  go_ret;rw[HR.out];refine⟨rfl,?_,?_⟩
  ·exact(HP.out.1.mono λk _ h=>h.1)
  ·exact((cW.fU UP.out).trans (HP.out.2.mono λk _ h=>h.1)).drew
end
section
open Go.RowKit
def mj (ls:List (Int×Bool)):Nat->List (Int×Int)
 |0=>[]
 |k+1=>mj ls k++if(ls.getD k (0,aw)).2 then [((k:Int),(ls.getD k (0,aw)).1)]else []
def ly (ls:List (Int×Bool)):List (Int×Int):=mj ls ls.length
theorem G7 (ls:List (Int×Bool)): ∀k,(mj ls k).length<=k
 |0=>by simp[mj]
 |k+1=>by
  have:=G7 ls k;unfold mj;rw[bM]
  split<;>simp<;>omega
end
section
open Go.RowKit
def uY (ls:List (Int×Bool)):Nat->List Int
 |0=>[]
 |k+1=>uY ls k++[(ls.getD k (0,aw)).1]
theorem C5 (ls:List (Int×Bool)): ∀k,k<=ls.length->uY ls k=(ls.take k).map (·.1)
 |0,_=>by simp[uY]
 |k+1,h=>by rw[uY,C5 ls k (by omega),List.take_add_one,ao (by omega),dX];simp only[bp,ao (show k<ls.length by omega),Option.toList,fA,List.map_nil,bI]
def cX (ls:List (Int×Bool)):List Int:=uY ls ls.length
theorem sF (ls:List (Int×Bool)):cX ls=ls.map (·.1):=by rw[cX,C5 ls _ (az _),cD]
theorem Gz (ls:List (Int×Bool)): ∀k,(uY ls k).length=k
 |0=>rfl
 |k+1=>by simp[uY,Gz ls k]
theorem WO (p:Nat)(ls:List (Int×Bool))(F:Nat->Prop)(w:ah)(h:dY w p ls F)(hl:ls.length<=60):Calls Tryz.prog 43 #[.pointer (ae ⟨p,0,ai⟩)] w (VP w (cX ls)):=by
 obtain⟨A,c,f1,f2,f3,f4,f5,f6,f7⟩:=h.facts;have F5:=af f5;clear f2 f5 f6 f7 h
 go_enter Tryz.func43,Tryz.ntmps43
 go_wp2_with fail
 go_loopw [11,3] (λi out w'=> ∃k:Nat,k<=ls.length/\i=.int .i64 k/\pC w' w.heap.size out (uY ls k)/\Below w.heap.size w w') (λi _ _=>ls.length-(intOf i).toNat)
 case atStart=>exact⟨0,by omega,rfl,pC.nil _ _,Below.refl _ _⟩
 case round=>
  clear f1;obtain⟨k,hk,rfl,gZ,hb⟩:=hrel;have HO:=af gZ;have HB:=af hb;clear gZ hb;by_cases bE:k<ls.length
  ·have xH:(k:Int)<ls.length:=by omega
   obtain⟨g,rfl,fY⟩:=Ao (nY F5.out HB.out) bE;have hN:Hid (uY ls (k+1)=uY ls k++[(ls.getD k (0,aw)).1]):=rfl;have hlen:=Gz ls k;generalize ls.getD k (0,aw)=x at *;obtain⟨x,b⟩:=x;simp only at fY
   go_upto_region 5 with(fail)
   refine cc (λw'=>dq w' wr.heap.size 172 #[.int .i64 x,.bool b]/\Below wr.heap.size wr w') ?_ ?_
   ·rw[MN];have h0:dq (wr.alloc (.cells #[.int .i64 0,.bool aw] 172)) wr.heap.size 172 #[.int .i64 0,.bool aw]:=dq.new _ _ _;have h1:=(h0.set 0 (.int .i64 x)).set 1 (.bool b);exact⟨h1,(((Below.refl _ _).alloc (az _) _).setCell (p:=⟨wr.heap.size,0,ai⟩) (az _) _).setCell (p:=⟨wr.heap.size,0+1,ai⟩) (az _) _⟩
   rintro w2 ⟨xJ,gV⟩;have c1:w2.cell? ⟨wr.heap.size,0,ai⟩=ae (.int .i64 x):=xJ.cell 0;have LQ:pC w2 w.heap.size _ _:=HO.out.kept gV;have wR:=af (HB.out.trans (gV.mono HB.out.size));clear xJ gV HO fY
   go_wp2_with (at_builtin;refine ur rfl _ _ rfl w.heap.size _ (uY ls k) rfl LQ x rfl ?_ ?_ ?_)
   case refine_1=>omega
   case refine_2=>exact wR.out.size
   intro v' w3 mh _ SX
   go_wp2_with fail
   go_roundw
   case rel=>exact⟨k+1,by omega,by go_num,hN.out.symm▸mh,wR.out.trans SX⟩
   case measure=>simp[intOf];omega
  ·have:k=ls.length:=by omega
   subst this
   go_wp2_with fail
   go_ret;exact⟨_,rfl,HO.out,HB.out⟩
def jD (ls:List (Int×Bool)):List (Int×Bool)×(Int×Int)×Int:=
 if ls.findIdx lu<ls.length then(ls.set (ls.findIdx lu) ((ls.getD (ls.findIdx lu) (0,aw)).1,aA),((ls.findIdx lu:Nat),(ls.getD (ls.findIdx lu) (0,aw)).1),0)
 else if ls.length=60 then(ls,(0,0),2)else(ls++[(0,aA)],((ls.length:Nat),0),0)
theorem Ed:(Tryz.prog.info? 172).map (λi=>(i.zero,i.size,i.bytes))=ae (ae (.agg #[.int .i64 0,.bool aw]),2,16):=by kernel_rfl
theorem D1 {a b n:Int}{x:List (Int×Bool)×(Int×Int)×Int}{ls:List (Int×Bool)}(h:x=(ls,(a,b),n)):Ending.returned (.tuple #[.agg (ints [a,b]),.int .i64 n])=.returned (.tuple #[.agg (ints [x.2.1.1,x.2.1.2]),.int .i64 x.2.2]):=by rw[h]
def tA (w:ah)(p:Nat)(ls:List (Int×Bool))(F:Nat->Prop)(hc:List Int)(w':ah):Prop:=dq w' w.heap.size 43 (ints hc)/\dY w' p ls (λk=>F k/\k<w.heap.size)/\cW F w w'
def sd (w:ah)(p:Nat)(ls:List (Int×Bool))(F:Nat->Prop)(hc:List Int)(w':ah):Prop:=dq w' w.heap.size 43 (ints hc)/\dY w' p ls (λk=>(F k/\k<w.heap.size)\/w.heap.size<k)/\cW F w w'
theorem tA.two {w w':ah}{p:Nat}{ls:List (Int×Bool)}{F:Nat->Prop}{hc:List Int}(h:tA w p ls F hc w'):sd w p ls F hc w':=⟨h.1,h.2.1.mono λ_ _ h=>br h,h.2.2⟩
theorem tA.after {w w' w'':ah}{p:Nat}{ls:List (Int×Bool)}{F:Nat->Prop}{hc:List Int}(h:tA w p ls F hc w')(hb:Below w'.heap.size w' w''):tA w p ls F hc w'':=⟨h.1.after hb,h.2.1.only (G:=λk=>w.heap.size<=k) ((cW.fU hb)) (λk hk=>by omega),h.2.2.trans (cW.fU hb)⟩
theorem Y9 (p:Nat)(ls:List (Int×Bool))(F:Nat->Prop)(w:ah)(h:dY w p ls F)(hl:ls.length<=60):Calls Tryz.prog 127 #[.pointer (ae ⟨p,0,ai⟩)] w λe w'=>e=.returned (.tuple #[.agg (ints [(jD ls).2.1.1,(jD ls).2.1.2]),.int .i64 (jD ls).2.2])/\dY w' p (jD ls).1 (IA F w w')/\cW F w w':=by
 have hp:=h.lt;have H:=af h;clear h
 go_enter Tryz.func127,Tryz.ntmps127
 go_upto_region 1 with(fail)
 refine cc (tA w p ls F [0,0]) ⟨dq.new _ _ _,(H.out.mono λk hk hf=>⟨hf,hk⟩).only (G:=λk=>k=w.heap.size) (cW.fU ((Below.refl _ _).alloc (az _) _)) (λk hk=>by omega),cW.fU ((Below.refl _ _).alloc (az _) _)⟩ ?_;intro w1 hM;have HM:=af hM;clear hM;obtain⟨A,c,f1,f2,f3,f4,f5,f6,f7⟩:=HM.out.2.1.facts;have U4:=f5;clear f2 f5 f6 f7
 go_wp2_with fail
 refine(FM A c ls w1 U4 (by omega)).mono ?_;rintro e w2 ⟨rfl,gV⟩;have BE:=af (HM.out.after gV);clear gV HM f1 f3 f4 U4;obtain⟨A,c,f1,f2,f3,f4,f5,f6,f7⟩:=BE.out.2.1.facts;by_cases U4:ls.findIdx lu<ls.length
 ·have hI:tN ls=(ls.findIdx lu:Nat):=by unfold tN;rw[if_pos U4]
  have HT:Hid (jD ls=(ls.set (ls.findIdx lu) ((ls.getD (ls.findIdx lu) (0,aw)).1,aA),(((ls.findIdx lu:Nat):Int),(ls.getD (ls.findIdx lu) (0,aw)).1),0)):=by unfold Hid jD;rw[if_pos U4]
  rw[hI];clear hI;generalize ls.findIdx lu=k at *;have xH:(k:Int)<ls.length:=by omega
  obtain⟨g,rfl,hg1,Ku,A7,QT,ZG,OF,FJ,QU,S3⟩:=f7 k U4;have nc:=BE.out.2.1.live U4 f1 aA;have h5:Hid (tA w p (ls.set k ((ls.getD k (0,aw)).1,aA)) F [0,0] (w2.setCell ⟨g,k *2+1,ai⟩ (.bool aA))):=⟨BE.out.1.FD (by omega) _ _,nc.1,BE.out.2.2.trans' nc.2 λq hq h=>h.1⟩
  generalize ls.getD k (0,aw)=x at *;obtain⟨x,b⟩:=x;simp only at h5 HT QU;clear f2 f3 f4 f5 f6 f7 QT OF FJ nc;have f1':w2.cell? ⟨p,0,ai⟩=ae (.slice (ae ⟨g,0,ai⟩) ls.length c):=f1
  go_upto_region 8 with(fail)
  refine cc (sd w p (ls.set k (x,aA)) F [0,0]) h5.out.two ?_;intro w3 hM3;have Qn:=af hM3;clear hM3;obtain⟨A3,c3,f1,f2,f3,f4,f5,f6,f7⟩:=Qn.out.2.1.facts;obtain⟨g3,rfl,hg1,Ku,A7,QT,ZG,OF,FJ,QU,S3⟩:=f7 k (by simpa using U4);have fY:((ls.set k (x,aA)).getD k (0,aw)).1=x:=by simp[bp,gh,U4]
  rw[fY]at QU;have ahG:((k:Nat):Int)<((ls.set k (x,aA)).length:Nat):=by rw[ew];omega
  have ff:fits w3 w.heap.size 0 2=aA:=Qn.out.1.fits 0 2 (by decide);clear f2 f3 f4 f5 f6 f7 QT ZG OF FJ S3 fY
  go_wp2_with fail
  refine cA rfl w.heap.size 43 (ints [((k:Nat):Int),x]) (.int .i64 0) _ rfl rfl (Qn.out.1.fc _ rfl) Tryz.underlying43 rfl (by rw[bJ];exact dV) rfl ?_;have hO:cW F w (putRow w3 w.heap.size 0 [((k:Nat):Int),x]):=Qn.out.2.2.trans' (G:=λq=>q=w.heap.size) ⟨rfl,rfl,rfl,by rw[kp];exact az _,λq _ hq=>fH w3 _ 0 _ q hq⟩ (λq hq he=>absurd hq (by omega));refine⟨D1 HT.out,?_,hO⟩;rw[HT.out];have hs:=Qn.out.2.1.only (w':=putRow w3 w.heap.size 0 [((k:Nat):Int),x]) (G:=λq=>q=w.heap.size) ⟨rfl,rfl,rfl,by rw[kp];exact az _,λq _ hq=>fH w3 _ 0 _ q hq⟩ (λq hq he=>by rcases hq with⟨_,hq⟩|hq<;>omega);refine hs.mono λq hq hf=> ?_
  rcases hf with⟨hf,_⟩|hf
  ·exact br hf
  ·exact bR ⟨by omega,hq⟩
 ·have hI:tN ls= -1:=by unfold tN;rw[if_neg U4]
  rw[hI];clear hI;by_cases ZB:ls.length=60
  ·have HT:Hid (jD ls=(ls,(0,0),2)):=by unfold Hid jD;rw[if_neg U4,if_pos ZB]
   have ff:fits w2 w.heap.size 0 2=aA:=BE.out.1.fits 0 2 (by decide);rw[ZB]at f1;clear f2 f3 f4 f5 f6 f7
   go_wp2_with fail
   refine cA rfl w.heap.size 43 (ints [0,0]) (.int .i64 2) _ rfl rfl (BE.out.1.fc _ rfl) Tryz.underlying43 rfl (by rw[bJ];exact dV) rfl ?_;have hO:cW F w (putRow w2 w.heap.size 0 [0,0]):=BE.out.2.2.trans' (G:=λq=>q=w.heap.size) ⟨rfl,rfl,rfl,by rw[kp];exact az _,λq _ hq=>fH w2 _ 0 _ q hq⟩ (λq hq he=>absurd hq (by omega));refine⟨D1 HT.out,?_,hO⟩;rw[HT.out];have hs:=BE.out.2.1.only (w':=putRow w2 w.heap.size 0 [0,0]) (G:=λq=>q=w.heap.size) ⟨rfl,rfl,rfl,by rw[kp];exact az _,λq _ hq=>fH w2 _ 0 _ q hq⟩ (λq hq he=>by omega);exact hs.mono λq hq hf=>br hf.1
  ·have HT:Hid (jD ls=(ls++[(0,aA)],(((ls.length:Nat):Int),0),0)):=by unfold Hid jD;rw[if_neg U4,if_neg ZB]
   have afp:((ls.length:Int)==60)=aw:=by simp;omega
   obtain⟨v,hB,gZ,dQ,hF,hFk⟩:=BE.out.2.1;have hv:v=.slice A ls.length c:=by have:=hB.cell 0;rw[f1]at this;simpa using this.symm
   subst hv;have HB:=af hB;have HN:=af dQ;have hpF:Hid (F p):=hF.1;have HFk:=af hFk;have h1:Hid (dq w2 w.heap.size 43 (ints [0,0])):=BE.out.1;have h2:Hid (cW F w w2):=BE.out.2.2;have Ba:Hid (w2.ownsRow 0 172 2 (.slice A ls.length c) ls.length (ls.flatMap tc)):=gZ;obtain⟨i0,qX,uH,vi,uC⟩:=info_parts Ed;clear f2 f3 f4 f5 f6 f7 hB gZ dQ hF hFk BE
   go_wp2_with (at_builtin;refine eu rfl _ _ _ rfl 0 172 i0 _ 2 16 Tryz.underlying168 qX uH vi uC rfl (by decide) (.slice A ls.length c) ls.length (ls.flatMap tc) rfl Ba.out [.int .i64 0,.bool aw] rfl rfl (by simp[jm]) (by unfold maxLen;omega) (by omega) (bS _) ?_)
   intro v' w3 mh A7 ru;obtain⟨A',c',rfl,_,_,_⟩:=cH mh;have ZE:cW (λk=>(dZ A ls.length c).ownBlock=ae k) w2 w3:=(cW.refl.alloc _).trans (cW.grown A7 λk hk=>hk);have zC:=ZE.blk HB.out (λe=>HN.out e);have hH3:=ZE.blk h1.out (λe=>by have:=(HFk.out _ e).2;omega);have hN3:(dZ A' (ls.length+1) c').ownBlock≠ae p:=by
    rcases ru with e|e
    ·rw[e];exact HN.out
    ·rw[e];intro h;injection h with h;have:=h1.out.lt;omega
   have c1:w3.cell? ⟨p,0,ai⟩=ae (.slice A ls.length c):=zC.cell 0;have c2:w3.frozen? ⟨p,0,ai⟩=aw:=zC.frozen 0;have hM4:Hid (sd w p (ls++[(0,aw)]) F [0,0] (w3.setCell ⟨p,0,ai⟩ (.slice A' (ls.length+1) c'))):=by
    refine⟨hH3.FD (by omega) _ _,⟨_,zC.set 0 _,?_,hN3,br ⟨hpF.out,hp⟩,λk hk=> ?_⟩,?_⟩
    ·rw[bM,eI];exact ownsRow_setCell_other mh hN3 _
    ·rcases ru with e|e
     ·rw[e]at hk;exact br (HFk.out k hk)
     ·rw[e]at hk;injection hk with hk;have:=h1.out.lt;exact bR (by omega)
    ·exact(h2.out.trans' ZE λk hk e=>(HFk.out k e).1).setCell (br hpF.out) _ _
   clear mh A7 ru ZE zC hH3 hN3 h1 h2 HFk Ba
   go_upto_region 7 with(fail)
   refine cc (sd w p (ls++[(0,aw)]) F [0,0]) hM4.out ?_;clear hM4 c1 c2;intro w5 hM5;obtain⟨A5,c5,f1,f2,f3,f4,f5,f6,f7⟩:=hM5.2.1.facts;obtain⟨g5,rfl,hg1,Ku,A7,QT,ZG,OF,FJ,QU,S3⟩:=f7 ls.length (by simp);have nc:=hM5.2.1.live (k:=ls.length) (by simp) f1 aA;have xH:((ls.length:Nat):Int)<((ls++[((0:Int),aw)]).length:Nat):=by rw[bM];simp;omega
   have h5:Hid (sd w p (ls++[(0,aA)]) F [0,0] (w5.setCell ⟨g5,ls.length *2+1,ai⟩ (.bool aA))):=by
    have e:(ls++[((0:Int),aw)]).set ls.length (((ls++[((0:Int),aw)]).getD ls.length (0,aw)).1,aA)=ls++[(0,aA)]:=by simp[bp,nP]
    have h:=nc.1;rw[e]at h;refine⟨hM5.1.FD (by rcases Ku with Ku|Ku<;>omega) _ _,h,hM5.2.2.trans' nc.2 λq hq h=> ?_⟩;rcases h with h|h
    ·exact h.1
    ·exact absurd hq (by omega)
   clear f2 f3 f4 f5 f6 f7 QT OF FJ QU nc hM5
   go_upto_region 8 with(fail)
   refine cc (sd w p (ls++[(0,aA)]) F [0,0]) h5.out ?_;intro w6 hM6;have HM6:=af hM6;clear hM6;obtain⟨A3,c3,f1,f2,f3,f4,f5,f6,f7⟩:=HM6.out.2.1.facts;obtain⟨g3,rfl,hg1,Ku,A7,QT,ZG,OF,FJ,QU,S3⟩:=f7 ls.length (by simp);have fY:((ls++[(0,aA)]).getD ls.length (0,aw)).1=0:=by simp[bp]
   rw[fY]at QU;have ahG:((ls.length:Nat):Int)<((ls++[(0,aA)]).length:Nat):=by rw[bM];simp;omega
   have ff:fits w6 w.heap.size 0 2=aA:=HM6.out.1.fits 0 2 (by decide);clear f2 f3 f4 f5 f6 f7 QT ZG OF FJ S3 fY
   go_wp2_with fail
   refine cA rfl w.heap.size 43 (ints [((ls.length:Nat):Int),0]) (.int .i64 0) _ rfl rfl (HM6.out.1.fc _ rfl) Tryz.underlying43 rfl (by rw[bJ];exact dV) rfl ?_;have hO:cW F w (putRow w6 w.heap.size 0 [((ls.length:Nat):Int),0]):=HM6.out.2.2.trans' (G:=λq=>q=w.heap.size) ⟨rfl,rfl,rfl,by rw[kp];exact az _,λq _ hq=>fH w6 _ 0 _ q hq⟩ (λq hq he=>absurd hq (by omega));refine⟨D1 HT.out,?_,hO⟩;rw[HT.out];have hs:=HM6.out.2.1.only (w':=putRow w6 w.heap.size 0 [((ls.length:Nat):Int),0]) (G:=λq=>q=w.heap.size) ⟨rfl,rfl,rfl,by rw[kp];exact az _,λq _ hq=>fH w6 _ 0 _ q hq⟩ (λq hq he=>by rcases hq with⟨_,hq⟩|hq<;>omega);refine hs.mono λq hq hf=> ?_
   rcases hf with⟨hf,_⟩|hf
   ·exact br hf
   ·exact bR ⟨by omega,hq⟩
end
section
open Go.RowKit
def wO (p:Int->Bool)(zs:List Int):Int:=if zs.findIdx p<zs.length then(zs.findIdx p:Nat)else-1
def pf (p:Int->Bool)(zs:List Int):Bool:=zs.any p
theorem Ra {p:Int->Bool}{zs:List Int}{k:Nat}(hk:k<zs.length)(h:p zs[k]=aA)(hb: ∀j,j<k->p (zs.getD j 0)=aw):wO p zs=k:=by
 have:zs.findIdx p=k:=by rw[List.findIdx_eq hk];refine⟨h,λj hj=> ?_⟩;have:=hb j hj;simpa[bp,ao (show j<zs.length by omega)]using this
 unfold wO;rw[this,if_pos hk]
theorem GZ {p:Int->Bool}{zs:List Int}(hb: ∀j,j<zs.length->p (zs.getD j 0)=aw):wO p zs= -1:=by unfold wO;rw[if_neg];intro bE;have h1:=List.findIdx_getElem (w:=bE);have h2:=hb _ bE;simp only[bp,ao bE,bI]at h2;rw[h2]at h1;exact absurd h1 (by simp)
theorem Mj (p:Int->Bool)(zs:List Int):decide (0<=wO p zs)=pf p zs:=by
 unfold wO pf;by_cases h:zs.findIdx p<zs.length
 ·rw[if_pos h];have:=List.findIdx_getElem (w:=h);have h2:zs.any p=aA:=kB.2 ⟨_,aU h,this⟩;rw[h2];simp
 ·rw[if_neg h];have h2:zs.any p=aw:=by rw[List.any_eq_false];intro x hx hp;exact h (List.findIdx_lt_length_of_exists ⟨x,hx,hp⟩)
  rw[h2];simp
def jT (x:Int):Bool:=decide (x<0)||decide (1000000<x)
def lW (n:Nat)(x:Int):Bool:=decide (x<0)||decide ((n:Int)<=x)
theorem N7 (x:Int)(w:ah):Calls Tryz.prog 239 #[.int .i64 x] w λe w'=>e=.returned (.bool (jT x))/\w=w':=by
 by_cases h:x<0
 ·have hd:Hid (jT x=aA):=by simp[Hid,jT,h]
  have h':decide (x<0)=aA:=by simpa using h
  go_enter Tryz.func239,Tryz.ntmps239
  go_wp2_with fail
  go_ret;exact⟨dv hd.out.symm,rfl⟩
 ·have hd:Hid (jT x=decide (1000000<x)):=by simp[Hid,jT,h]
  have h':decide (x<0)=aw:=by simpa using h
  go_enter Tryz.func239,Tryz.ntmps239
  go_wp2_with fail
  go_ret;exact⟨dv hd.out.symm,rfl⟩
theorem Sn (b:Nat)(A:Option Addr)(n c:Nat)(x:Int)(w:ah)(hb:w.cell? ⟨b,0,ai⟩=ae (.slice A n c))(hn:n<=60):Calls Tryz.prog 240 #[.int .i64 x,.pointer (ae ⟨b,0,ai⟩)] w λe w'=>e=.returned (.bool (lW n x))/\w=w':=by
 by_cases h:x<0
 ·have hd:Hid (lW n x=aA):=by simp[Hid,lW,h]
  have h':decide (x<0)=aA:=by simpa using h
  go_enter Tryz.func240,Tryz.ntmps240
  go_wp2_with fail
  go_ret;exact⟨dv hd.out.symm,rfl⟩
 ·have hd:Hid (lW n x=decide ((n:Int)<=x)):=by simp[Hid,lW,h]
  have h':decide (x<0)=aw:=by simpa using h
  go_enter Tryz.func240,Tryz.ntmps240
  go_wp2_with fail
  go_ret;exact⟨dv hd.out.symm,rfl⟩
theorem Df (A:Option Addr)(c:Nat)(zs:List Int)(w:ah)(h:gQ w w.heap.size A zs.length zs)(hn:zs.length<=maxLen):Calls Tryz.prog 247 #[.slice A zs.length c,.func (.func 239) #[] #[]] w λe w'=>e=.returned (.int .i64 (wO jT zs))/\w=w':=by
 have H:=af h;have ZK:(zs.length:Int)<=9223372036854775807:=by unfold maxLen at hn;omega
 clear h
 go_enter Tryz.func247,Tryz.ntmps247
 go_wp2_with fail
 go_loopw [8] (λi w'=> ∃k:Nat,k<=zs.length/\i=.int .i64 k/\(∀j,j<k->jT (zs.getD j 0)=aw)/\w=w') (λi _=>zs.length-(intOf i).toNat)
 case atStart=>exact⟨0,by omega,rfl,λj hj=>by omega,rfl⟩
 case round=>
  obtain⟨k,hk,rfl,qq,rfl⟩:=hrel;have mW:=af qq;clear qq;by_cases bE:k<zs.length
  ·have xH:(k:Int)<zs.length:=by omega
   obtain⟨g,o,rfl,I8,yM,rh⟩:=H.out.at_ bE;have qv:Hid (zs.getD k 0=zs[k]):=by simp[Hid,bp,ao bE]
   have SU:Hid (jT zs[k]=aA->wO jT zs=k):=λh=>Ra bE h mW.out
   generalize zs[k]=x at *
   go_wp2_with fail
   refine(N7 _ _).mono ?_;rintro e w' ⟨rfl,rfl⟩;cases hp:jT x
   ·have HP:=af hp;clear hp SU
    go_wp2_with fail
    go_roundw
    case rel=>
     refine⟨k+1,by omega,by go_num,λj hj=> ?_,trivial⟩;by_cases tQ:j=k
     ·rw[tQ,qv.out];exact HP.out
     ·exact mW.out j (by omega)
    case measure=>simp[intOf];omega
   ·have Ix:Hid (wO jT zs=k):=SU.out hp;clear hp SU
    go_wp2_with fail
    go_ret;exact⟨eF Ix.out.symm,rfl⟩
  ·have Fg:k=zs.length:=by omega
   subst Fg;have Ix:Hid (wO jT zs= -1):=GZ mW.out
   go_wp2_with fail
   go_ret;exact⟨eF Ix.out.symm,rfl⟩
theorem yr (A:Option Addr)(c:Nat)(zs:List Int)(w:ah)(h:gQ w w.heap.size A zs.length zs)(hn:zs.length<=maxLen):Calls Tryz.prog 238 #[.slice A zs.length c,.func (.func 239) #[] #[]] w λe w'=>e=.returned (.bool (pf jT zs))/\w=w':=by
 have H:=af h;have hd:Hid (decide (0<=wO jT zs)=pf jT zs):=Mj jT zs;clear h
 go_enter Tryz.func238,Tryz.ntmps238
 go_wp2_with fail
 refine(Df A c zs w H.out hn).mono ?_;rintro e w' ⟨rfl,rfl⟩
 go_wp2_with fail
 go_ret;exact⟨dv hd.out,rfl⟩
theorem Dg (b m:Nat)(A2:Option Addr)(c2:Nat)(A:Option Addr)(c:Nat)(zs:List Int)(w:ah)(ji:w.cell? ⟨b,0,ai⟩=ae (.slice A2 m c2))(hm:m<=60)(h:gQ w w.heap.size A zs.length zs)(hn:zs.length<=maxLen):Calls Tryz.prog 247 #[.slice A zs.length c,.func (.func 240) #[] #[.pointer (ae ⟨b,0,ai⟩)]] w λe w'=>e=.returned (.int .i64 (wO (lW m) zs))/\w=w':=by
 have H:=af h;have ZK:(zs.length:Int)<=9223372036854775807:=by unfold maxLen at hn;omega
 clear h
 go_enter Tryz.func247,Tryz.ntmps247
 go_wp2_with fail
 go_loopw [8] (λi w'=> ∃k:Nat,k<=zs.length/\i=.int .i64 k/\(∀j,j<k->(lW m) (zs.getD j 0)=aw)/\w=w') (λi _=>zs.length-(intOf i).toNat)
 case atStart=>exact⟨0,by omega,rfl,λj hj=>by omega,rfl⟩
 case round=>
  obtain⟨k,hk,rfl,qq,rfl⟩:=hrel;have mW:=af qq;clear qq;by_cases bE:k<zs.length
  ·have xH:(k:Int)<zs.length:=by omega
   obtain⟨g,o,rfl,I8,yM,rh⟩:=H.out.at_ bE;have qv:Hid (zs.getD k 0=zs[k]):=by simp[Hid,bp,ao bE]
   have SU:Hid ((lW m) zs[k]=aA->wO (lW m) zs=k):=λh=>Ra bE h mW.out
   generalize zs[k]=x at *
   go_wp2_with fail
   refine(Sn b A2 m c2 _ _ ji hm).mono ?_;rintro e w' ⟨rfl,rfl⟩;cases hp:(lW m) x
   ·have HP:=af hp;clear hp SU
    go_wp2_with fail
    go_roundw
    case rel=>
     refine⟨k+1,by omega,by go_num,λj hj=> ?_,trivial⟩;by_cases tQ:j=k
     ·rw[tQ,qv.out];exact HP.out
     ·exact mW.out j (by omega)
    case measure=>simp[intOf];omega
   ·have Ix:Hid (wO (lW m) zs=k):=SU.out hp;clear hp SU
    go_wp2_with fail
    go_ret;exact⟨eF Ix.out.symm,rfl⟩
  ·have Fg:k=zs.length:=by omega
   subst Fg;have Ix:Hid (wO (lW m) zs= -1):=GZ mW.out
   go_wp2_with fail
   go_ret;exact⟨eF Ix.out.symm,rfl⟩
theorem yt (b m:Nat)(A2:Option Addr)(c2:Nat)(A:Option Addr)(c:Nat)(zs:List Int)(w:ah)(ji:w.cell? ⟨b,0,ai⟩=ae (.slice A2 m c2))(hm:m<=60)(h:gQ w w.heap.size A zs.length zs)(hn:zs.length<=maxLen):Calls Tryz.prog 238 #[.slice A zs.length c,.func (.func 240) #[] #[.pointer (ae ⟨b,0,ai⟩)]] w λe w'=>e=.returned (.bool (pf (lW m) zs))/\w=w':=by
 have H:=af h;have hd:Hid (decide (0<=wO (lW m) zs)=pf (lW m) zs):=Mj (lW m) zs;clear h
 go_enter Tryz.func238,Tryz.ntmps238
 go_wp2_with fail
 refine(Dg b m A2 c2 A c zs w ji hm H.out hn).mono ?_;rintro e w' ⟨rfl,rfl⟩
 go_wp2_with fail
 go_ret;exact⟨dv hd.out,rfl⟩
end
section
open Go.RowKit
def lx (a:Int)(b:Bool)(x:Int×Bool):Bool:=decide (a=x.1)&&decide (b=x.2)
def qO (a:Int)(b:Bool)(ls:List (Int×Bool)):Int:=if ls.findIdx (lx a b)<ls.length then(ls.findIdx (lx a b):Nat)else-1
def pH (a:Int)(b:Bool)(ls:List (Int×Bool)):Bool:=ls.any (lx a b)
theorem Uj {a:Int}{b:Bool}{ls:List (Int×Bool)}{k:Nat}(hk:k<ls.length)(h:lx a b (ls.getD k (0,aw))=aA)(hb: ∀j,j<k->lx a b (ls.getD j (0,aw))=aw):qO a b ls=k:=by
 have:ls.findIdx (lx a b)=k:=by rw[List.findIdx_eq hk];refine⟨by simpa[bp,ao hk]using h,λj hj=> ?_⟩;have:=hb j hj;simpa[bp,ao (show j<ls.length by omega)]using this
 unfold qO;rw[this,if_pos hk]
theorem Nj {a:Int}{b:Bool}{ls:List (Int×Bool)}(hb: ∀j,j<ls.length->lx a b (ls.getD j (0,aw))=aw):qO a b ls= -1:=by unfold qO;rw[if_neg];intro bE;have h1:=List.findIdx_getElem (w:=bE);have h2:=hb _ bE;simp only[bp,ao bE,bI]at h2;rw[h2]at h1;exact absurd h1 (by simp)
theorem P0 (a:Int)(b:Bool)(ls:List (Int×Bool)):decide (0<=qO a b ls)=pH a b ls:=by
 unfold qO pH;by_cases h:ls.findIdx (lx a b)<ls.length
 ·rw[if_pos h];have:=List.findIdx_getElem (w:=h);have h2:ls.any (lx a b)=aA:=kB.2 ⟨_,aU h,this⟩;rw[h2];simp
 ·rw[if_neg h];have h2:ls.any (lx a b)=aw:=by rw[List.any_eq_false];intro x hx hp;exact h (List.findIdx_lt_length_of_exists ⟨x,hx,hp⟩)
  rw[h2];simp
theorem F8 (A:Option Addr)(c:Nat)(ls:List (Int×Bool))(a:Int)(b:Bool)(w:ah)(h:w.ownsRow 0 172 2 (.slice A ls.length c) ls.length (ls.flatMap tc))(hn:ls.length<=1000000):Calls Tryz.prog 248 #[.slice A ls.length c,.agg #[.int .i64 a,.bool b]] w λe w'=>e=.returned (.int .i64 (qO a b ls))/\Below w.heap.size w w':=by
 have H:=af h;clear h
 go_enter Tryz.func248,Tryz.ntmps248
 go_upto_region 1 with(fail)
 refine cc (λw'=>dq w' w.heap.size 172 #[.int .i64 a,.bool b]/\Below w.heap.size w w') ⟨dq.new _ _ _,(Below.refl _ _).alloc (az _) _⟩ ?_;rintro w1 ⟨vX,lf⟩;have tu:=af vX;have yi:=af lf;clear vX lf
 go_wp2_with fail
 go_loopw [8] (λi w'=> ∃k:Nat,k<=ls.length/\i=.int .i64 k/\(∀j,j<k->lx a b (ls.getD j (0,aw))=aw)/\Below w1.heap.size w1 w') (λi _=>ls.length-(intOf i).toNat)
 case atStart=>exact⟨0,by omega,rfl,λj hj=>by omega,Below.refl _ _⟩
 case round=>
  obtain⟨k,hk,rfl,qq,hb⟩:=hrel;have mW:=af qq;have tv:Hid (Below w.heap.size w wr):=yi.out.trans (hb.mono yi.out.size);have aeU:Hid (Below w1.heap.size w1 wr):=hb;have HBx:=af (tu.out.after hb);clear qq hb;by_cases bE:k<ls.length
  ·have xH:(k:Int)<ls.length:=by omega
   have gZ:=nY H.out tv.out;obtain⟨g,rfl,fY⟩:=Ao gZ bE;have I8:=(gZ.lt g rfl).2;have SU:Hid (lx a b (ls.getD k (0,aw))=aA->qO a b ls=k):=λh=>Uj bE h mW.out
   have HX:Hid (lx a b (ls.getD k (0,aw))=lx a b (ls.getD k (0,aw))):=rfl;generalize hx:ls.getD k (0,aw)=x at *;obtain⟨x,y⟩:=x;have HXX:=af hx;clear hx HX gZ;have c1: ∀n:After wr,row? n.w g (k *2) 2=ae #[.int .i64 x,.bool y]:=λn=>(iR n.below I8 _ _).trans fY
   have c2: ∀n:After wr,row? n.w w.heap.size 0 2=ae #[.int .i64 a,.bool b]:=λn=>(HBx.out.after n.below).row 0 2 (az 2)
   have heq: ∀W,(binOp .eql 172 (.agg #[.int .i64 a,.bool b]) (.agg #[.int .i64 x,.bool y])).run Tryz.prog W=.ok (.bool (lx a b (x,y))) W:=λW=>Lf a x b y W
   clear fY;cases hp:lx a b (x,y)
   all_goals
    have HP:=af hp;rw[hp]at heq;clear hp
    go_upto_region 4 with(fail)
    refine bU (by kernel_rfl) (by kernel_rfl) ?_
    repeat(go_big_quiet_step (fail))
    refine wpQuiet_nil ?_;rintro _ ⟨n,rfl⟩
    go_wp2_with fail
   ·go_roundw
    case rel=>
     refine⟨k+1,by omega,by go_num,λj hj=> ?_,aeU.out.trans (n.below.mono aeU.out.size)⟩;by_cases tQ:j=k
     ·rw[tQ,HXX.out];exact HP.out
     ·exact mW.out j (by omega)
    case measure=>simp[intOf];omega
   ·have Ix:Hid (qO a b ls=k):=SU.out HP.out;go_ret;exact⟨eF Ix.out.symm,tv.out.trans (n.below.mono tv.out.size)⟩
  ·have Fg:k=ls.length:=by omega
   subst Fg;have Ix:Hid (qO a b ls= -1):=Nj mW.out
   go_wp2_with fail
   go_ret;exact⟨eF Ix.out.symm,tv.out⟩
theorem LG (A:Option Addr)(c:Nat)(ls:List (Int×Bool))(a:Int)(b:Bool)(w:ah)(h:w.ownsRow 0 172 2 (.slice A ls.length c) ls.length (ls.flatMap tc))(hn:ls.length<=1000000):Calls Tryz.prog 241 #[.slice A ls.length c,.agg #[.int .i64 a,.bool b]] w λe w'=>e=.returned (.bool (pH a b ls))/\Below w.heap.size w w':=by
 have H:=af h;have hd:Hid (decide (0<=qO a b ls)=pH a b ls):=P0 a b ls;clear h
 go_enter Tryz.func241,Tryz.ntmps241
 go_upto_region 1 with(fail)
 refine cc (λw'=>dq w' w.heap.size 172 #[.int .i64 a,.bool b]/\Below w.heap.size w w') ⟨dq.new _ _ _,(Below.refl _ _).alloc (az _) _⟩ ?_;rintro w1 ⟨vX,lf⟩;have c1:row? w1 w.heap.size 0 2=ae #[.int .i64 a,.bool b]:=vX.row 0 2 (az 2);have yi:=af lf;clear vX lf
 go_wp2_with fail
 refine(F8 A c ls a b w1 (nY H.out yi.out) hn).mono ?_;rintro e w2 ⟨rfl,gV⟩;have UP:Hid (Below w.heap.size w w2):=yi.out.trans (gV.mono yi.out.size)
 go_wp2_with fail
 go_ret;exact⟨dv hd.out,UP.out⟩
end
section
open Go.RowKit
def jW:List (Int×Bool)->List Int->Option (List (Int×Bool))
 |ls,[]=>ae ls
 |ls,k::r=>if(ls.getD k.toNat (0,aw)).2 then ai else jW (ls.set k.toNat ((ls.getD k.toNat (0,aw)).1,aA)) r
def qA (gW live:List Int):Option (List (Int×Bool))×Int:=
 if 60<gW.length then(ai,2)else if pf jT gW then(ai,1)else if pf (lW gW.length) live then(ai,5)
 else match jW (gW.map λg=>(g,aw)) live with
  |none=>(ai,6)
  |some ls=>if pH 1000000 aA ls then(ai,1)else(ae ls,0)
theorem Hc: ∀(live:List Int) (ls Fj:List (Int×Bool)),jW ls live=ae Fj->Fj.length=ls.length
 | [],ls,Fj,h=>by simp[jW]at h;rw[h]
 |k::r,ls,Fj,h=>by
  unfold jW at h
  split at h
  ·cases h
  ·rw[Hc r _ _ h];simp
def aae (w:ah)(x:Option (List (Int×Bool))×Int)(e:Ending)(w':ah):Prop:=
 Below w.heap.size w w'/\match x with
  |(ai,n)=>e=.returned (.tuple #[.pointer ai,.int .i64 n])
  |(ae ls,n)=> ∃p,e=.returned (.tuple #[.pointer (ae ⟨p,0,ai⟩),.int .i64 n])/\dY w' p ls (λk=>w.heap.size<=k)
theorem pJ: ∀(a b:List Int) (ls:List (Int×Bool)),jW ls (a++b)=(jW ls a).bind λl=>jW l b
 | [],b,ls=>rfl
 |k::a,b,ls=>by
  rw[dJ,jW,jW]
  split
  ·rfl
  ·exact pJ a b _
theorem Pg {base ls:List (Int×Bool)}{l:List Int}{k:Nat}(hk:k<l.length)(h:jW base (l.take k)=ae ls)(hx:(ls.getD l[k].toNat (0,aw)).2=aA):jW base l=ai:=by rw[<-nQ k l,pJ,h,List.drop_eq_getElem_cons hk,rM,jW,if_pos hx]
theorem Pj {base ls:List (Int×Bool)}{l:List Int}{k:Nat}(hk:k<l.length)(h:jW base (l.take k)=ae ls)(hx:(ls.getD l[k].toNat (0,aw)).2=aw):jW base (l.take (k+1))=ae (ls.set l[k].toNat ((ls.getD l[k].toNat (0,aw)).1,aA)):=by rw[aR hk,pJ,h,rM,jW,if_neg (by rw[hx];simp),jW]
theorem V7 {n:Nat}{l:List Int}(h:pf (lW n) l=aw){x:Int}(hx:x∈l):0<=x/\x<n:=by unfold pf at h;rw[List.any_eq_false]at h;have:=h x hx;simp[lW]at this;omega
theorem XW (A A':Option Addr)(c c':Nat)(gW live:List Int)(w:ah)(h:gQ w w.heap.size A gW.length gW)(h':gQ w w.heap.size A' live.length live)(hn:gW.length<=maxLen)(Q0:live.length<=maxLen):Calls Tryz.prog 213 #[.slice A gW.length c,.slice A' live.length c'] w (aae w (qA gW live)):=by
 have H:=af h;have H':=af h';have HN:=af hn;have HN':=af Q0;have ZJ:(gW.length:Int)<=9223372036854775807:=by unfold maxLen at hn;omega
 have QZ:(live.length:Int)<=9223372036854775807:=by unfold maxLen at Q0;omega
 clear h h' hn Q0;by_cases ZB:60<gW.length
 ·have HR:Hid (qA gW live=(ai,2)):=by unfold Hid qA;rw[if_pos ZB]
  have afp:(60:Int)<gW.length:=by omega
  go_enter Tryz.func213,Tryz.ntmps213
  go_wp2_with fail
  go_ret2
  rw[HR.out];exact⟨(Below.refl _ _).alloc (az _) _,rfl⟩
 have afp:(gW.length:Int)<=60:=by omega
 have ahe:gW.length<=60:=by omega
 go_enter Tryz.func213,Tryz.ntmps213
 go_upto_region 1 with(fail)
 refine cc (λw'=>dq w' w.heap.size 32 #[.slice A gW.length c]/\Below w.heap.size w w') ⟨dq.new _ _ _,(Below.refl _ _).alloc (az _) _⟩ ?_;rintro w1 ⟨vX,lf⟩;have tu:=af vX;have yi:=af lf;have c1:w1.cell? ⟨w.heap.size,0,ai⟩=ae (.slice A gW.length c):=vX.cell 0;have r1:gQ w1 w1.heap.size A gW.length gW:=(H.out.below lf).more lf.size;have r2:gQ w1 w1.heap.size A' live.length live:=(H'.out.below lf).more lf.size;have R1:=af r1;have R2:=af r2;clear vX lf r1 r2
 go_wp2_with fail
 refine(yr A c gW w1 R1.out HN.out).mono ?_;rintro e w' ⟨rfl,rfl⟩;cases hG:pf jT gW
 rotate_left
 ·have HR:Hid (qA gW live=(ai,1)):=by unfold Hid qA;rw[if_neg ZB,if_pos hG]
  clear hG
  go_wp2_with fail
  go_ret2
  rw[HR.out];exact⟨yi.out,rfl⟩
 have HG:=af hG;clear hG
 go_wp2_with fail
 refine(yt w.heap.size gW.length A c A' c' live w1 c1 ahe R2.out HN'.out).mono ?_;rintro e w' ⟨rfl,rfl⟩;cases hI:pf (lW gW.length) live
 rotate_left
 ·have HR:Hid (qA gW live=(ai,5)):=by unfold Hid qA;rw[if_neg ZB,if_neg (by rw[HG.out];simp),if_pos hI]
  clear hI
  go_wp2_with fail
  go_ret2
  rw[HR.out];exact⟨yi.out,rfl⟩
 have HI:=af hI;clear hI
 go_wp2_with fail
 refine(Rm w1).mono ?_;rintro e w2 ⟨rfl,xJ,gV⟩;have VL:Hid (dY w2 w1.heap.size [] (λq=>w1.heap.size<=q)):=xJ.mono λk _ hk=>by rcases hk with hk|hk;exact absurd hk (by simp);exact hk.1
 have wR:=af gV;clear xJ gV;have c2:w2.cell? ⟨w.heap.size,0,ai⟩=ae (.slice A gW.length c):=(wR.out.cell (p:=⟨w.heap.size,0,ai⟩) (qV _ _ c1)).trans c1;generalize hp:w1.heap.size=p at *;have HP:=af hp;clear hp c1
 go_wp2_with fail
 go_loopw [25] (λi w'=> ∃k:Nat,k<=gW.length/\i=.int .i64 k/\dY w' p ((gW.take k).map λg=>(g,aw)) (λq=>p<=q)/\Below p w1 w') (λi _=>gW.length-(intOf i).toNat)
 case atStart=>exact⟨0,by omega,rfl,VL.out,wR.out⟩
 case round=>
  clear c2;obtain⟨k,hk,rfl,hs,hb⟩:=hrel;have HS:=af hs;have HB:=af hb;clear hs hb;by_cases bE:k<gW.length
  ·have xH:(k:Int)<gW.length:=by omega
   obtain⟨g,o,rfl,I8,QY,hc⟩:=R1.out.at_ bE;have OC:wr.cell? ⟨g,o+k,ai⟩=ae (.int .i64 gW[k]):=(HB.out.cell (p:=⟨g,o+k,ai⟩) I8).trans hc;have hN:Hid ((gW.take (k+1)).map (λg=>(g,aw))=(gW.take k).map (λg=>(g,aw))++[(gW[k],aw)]):=by unfold Hid;rw[aR QY,dX];rfl
   have hlen:Hid (((gW.take k).map λg=>(g,aw)).length=k):=by unfold Hid;simp;omega
   clear hc;generalize hL':(gW.take (k+1)).map (λg=>(g,aw))=Fj at *;have HL':=af hL';clear hL';generalize (gW.take k).map (λg=>(g,aw))=ls at *;generalize gW[k]=x at *;have SY:iX 170 172 2 tc wr p ls (λq=>p<=q):=HS.out;obtain⟨A2,c3,f1,f2,f3,f4,f5,f6,f7,f8⟩:=SY.slice;have HC:=af SY;have F5:=af f5;have Kv:ls.length<=60:=by rw[hlen.out];omega
   obtain⟨i0,qX,uH,vi,uC⟩:=info_parts Ed;clear SY f5 f6 f7 f8 f2 f3 f4
   go_wp2_with (at_builtin;refine eu rfl _ _ _ rfl 0 172 i0 _ 2 16 Tryz.underlying168 qX uH vi uC rfl (by decide) (.slice A2 ls.length c3) ls.length (ls.flatMap tc) rfl F5.out [.int .i64 x,.bool aw] rfl rfl (by simp[jm]) (by unfold maxLen;omega) (by omega) (bS _) ?_)
   intro v' w3 mh A7 ru;obtain⟨A4,c4,rfl,_,_,_⟩:=cH mh;obtain⟨g1,g2,g3,g4⟩:=HC.out.append (x:=(x,aw)) f1 mh A7 ru;have G3:Hid (dY (w3.setCell ⟨p,0,ai⟩ (.slice A4 (ls.length+1) c4)) p Fj (λq=>p<=q)):=by unfold Hid;rw[hN.out];exact g3.mono λk _ hk=>by rcases hk with hk|hk;exact hk;have:=HC.out.lt;omega
   have G4:Hid (Below p w1 (w3.setCell ⟨p,0,ai⟩ (.slice A4 (ls.length+1) c4))):=HB.out.trans (g4.below (by have:=HC.out.lt;omega) λk _ h=>h);clear g3 g4 mh A7 ru f1
   go_wp2_with fail
   go_roundw
   case rel=>exact⟨k+1,by omega,by go_num,by rw[HL'.out];exact G3.out,G4.out⟩
   case measure=>simp[intOf];omega
  ·have Fg:k=gW.length:=by omega
   subst Fg;rw[cD]at HS;clear bE hk
   go_wp2_with fail
   have HN2:Hid (((gW.map λg=>(g,aw)):List (Int×Bool)).length=gW.length):=by unfold Hid;rw[List.length_map]
   have HR0:Hid (qA gW live=match jW (gW.map λg=>(g,aw)) live with|none=>(ai,6)|some ls=>if pH 1000000 aA ls then(ai,1)else(ae ls,0)):=by unfold Hid qA;rw[if_neg ZB,if_neg (by rw[HG.out];simp),if_neg (by rw[HI.out];simp)]
   generalize (gW.map λg=>(g,aw))=base at *
   go_loopw [43] (λi w'=> ∃k:Nat,k<=live.length/\i=.int .i64 k/\ ∃ls,jW base (live.take k)=ae ls/\dY w' p ls (λq=>p<=q)/\Below p w1 w') (λi _=>live.length-(intOf i).toNat)
   case atStart=>exact⟨0,by omega,rfl,base,rfl,HS.out,HB.out⟩
   case round=>
    obtain⟨k,hk,rfl,ls,U8,hs,hb⟩:=hrel;have HS:=af hs;have HB:=af hb;have HM:=af U8;have Kv:Hid (ls.length=gW.length):=(Hc _ _ _ U8).trans HN2.out;clear hs hb U8;obtain⟨A2,c3,f1,f2,f3,f4,f5,f6,f7⟩:=HS.out.facts;have F5:=af f5;by_cases bE:k<live.length
    ·have xH:(k:Int)<live.length:=by omega
     obtain⟨g,o,rfl,I8,QY,hc⟩:=R2.out.at_ bE;have OC:wr.cell? ⟨g,o+k,ai⟩=ae (.int .i64 live[k]):=(HB.out.cell (p:=⟨g,o+k,ai⟩) I8).trans hc;obtain⟨hx0,hx1⟩:=V7 HI.out (aU QY);have HNo:Hid ((ls.getD live[k].toNat (0,aw)).2=aA->jW base live=ai):=λh=>Pg QY HM.out h
     have HSt:Hid ((ls.getD live[k].toNat (0,aw)).2=aw->jW base (live.take (k+1))=ae (ls.set live[k].toNat ((ls.getD live[k].toNat (0,aw)).1,aA))):=λh=>Pj QY HM.out h
     clear hc;generalize live[k]=x at *;obtain⟨m,rfl⟩: ∃m:Nat,x=m:=⟨x.toNat,by omega⟩;rw[dL]at HNo HSt;have Xq:m<ls.length:=by rw[Kv.out];omega
     have hmi:(m:Int)<ls.length:=by omega
     obtain⟨q,rfl,hg1,Ku,A7,QT,ZG,OF,FJ,QU,S3⟩:=f7 m Xq;have Iy:=af (HS.out.live Xq f1 aA);cases Ck:(ls.getD m (0,aw)).2
     ·have HT:=af (HSt.out Ck);rw[Ck]at S3;clear Ck FJ QU f5 f6 f7 HNo HSt QT OF f3 f4
      go_wp2_with fail
      go_roundw
      case rel=>exact⟨k+1,by omega,by go_num,_,HT.out,Iy.out.1,HB.out.trans (Iy.out.2.below (by have:=HS.out.lt;omega) λk _ h=>h)⟩
      case measure=>simp[intOf];omega
     ·have HT:=af (HNo.out Ck);have HR:Hid (qA gW live=(ai,6)):=by unfold Hid;rw[HR0.out,HT.out]
      rw[Ck]at S3;clear Ck FJ QU f5 f6 f7 HNo HSt QT OF f3 f4
      go_wp2_with fail
      go_ret2
      rw[HR.out];exact⟨yi.out.trans (HB.out.mono (by rw[<-HP.out];exact yi.out.size)),rfl⟩
    ·have Fg:k=live.length:=by omega
     subst Fg;rw[cD]at HM;clear bE hk f5 f6 f7
     go_wp2_with fail
     refine(LG A2 c3 ls 1000000 aA wr F5.out (by rw[Kv.out];omega)).mono ?_;rintro e w4 ⟨rfl,UZ⟩;have HSL:Hid (dY w4 p ls (λq=>p<=q)):=HS.out.only (G:=λ_=>False) (cW.fU UZ) (λ_ _ h=>h);have HBL:Hid (Below w.heap.size w w4):=yi.out.trans ((HB.out.mono (by rw[<-HP.out];exact yi.out.size)).trans (UZ.mono (by have:=HB.out.size;have:=yi.out.size;omega)));have HPw:Hid (w.heap.size<=p):=by unfold Hid;rw[<-HP.out];exact yi.out.size
     cases hH:pH 1000000 aA ls
     ·have HR:Hid (qA gW live=(ae ls,0)):=by unfold Hid;rw[HR0.out,HM.out];simp only[hH];rfl
      clear hH
      go_wp2_with fail
      go_ret2
      rw[HR.out];exact⟨HBL.out,p,rfl,HSL.out.mono λk _ h=>by have:=HPw.out;omega⟩
     ·have HR:Hid (qA gW live=(ai,1)):=by unfold Hid;rw[HR0.out,HM.out];simp only[hH];rfl
      clear hH
      go_wp2_with fail
      go_ret2
      rw[HR.out];exact⟨HBL.out,rfl⟩
end
section
def VW (ls:List (Int×Bool)):Prop:=ls.length<=60/\ ∀x∈ls,0<=x.1/\x.1<=1000000/\(x.2=aA->x.1<1000000)
theorem VW.gW {ls:List (Int×Bool)}(h:VW ls):NY ls:=λx hx=>⟨(h.2 x hx).1,(h.2 x hx).2.1⟩
theorem VW.nil:VW []:=⟨by simp,by simp⟩
theorem yG {ls:List (Int×Bool)}{k:Nat}(h:k<ls.length):ls.getD k (0,aw)=ls[k]:=by simp[bp,ao h]
theorem ab0 {ls:List (Int×Bool)}(h:VW ls):VW (jD ls).1:=by
 unfold jD
 split
 ·rename_i bE
  refine⟨by simpa using h.1,λx hx=> ?_⟩;rcases List.mem_or_eq_of_mem_set hx with hx|rfl
  ·exact h.2 x hx
  ·have hf:=List.findIdx_getElem (w:=bE);rw[yG bE];have:=h.2 _ (aU bE);simp only[lu,aM,decide_eq_true_eq]at hf;exact⟨this.1,this.2.1,λ_=>hf.2⟩
 ·split
  ·exact h
  ·rename_i hn
   have h1:=h.1;refine⟨by simp;omega,λx hx=> ?_⟩;rcases iV.1 hx with hx|hx
   ·exact h.2 x hx
   ·rw[eC.1 hx];exact⟨by decide,by decide,λ_=>by decide⟩
theorem aaH {ls:List (Int×Bool)}(h:VW ls)(a b:Int):VW (pg ls a b).1:=by
 unfold pg
 split
 ·rename_i hl
  obtain⟨k,rfl,hk,hkb⟩:=sU hl;refine⟨by simpa using h.1,λx hx=> ?_⟩;rcases List.mem_or_eq_of_mem_set hx with hx|rfl
  ·exact h.2 x hx
  ·rw[yG hk]at hkb;have:=h.2 _ (aU hk);rw[hkb]at this;have h3:=this.2.2 rfl;exact⟨by have:=this.1;simp only at this⊢;omega,by simp only at h3⊢;omega,λh=>by cases h⟩
 ·exact h
theorem G8 (ls:List (Int×Bool)): ∀k,k<=ls.length->jW ((cX ls).map λg=>(g,aw)) ((mj ls k).map (·.1))=ae (ls.take k++(ls.drop k).map λx=>(x.1,aw))
 |0,_=>by simp[mj,jW,sF]
 |k+1,h=>by
  rw[mj,dX,pJ,G8 ls k (by omega),rM,yG (by omega)];have hd:ls.drop k=ls[k]::ls.drop (k+1):=List.drop_eq_getElem_cons (by omega);have hl:(ls.take k).length=k:=by rw[dW];omega
  rw[aR (by omega),hd,fA];generalize ls[k]=x;obtain⟨g,b⟩:=x;cases b
  ·simp[jW]
  ·simp only[if_true,fA,List.map_nil];unfold jW;have e:(ls.take k++(g,aw)::(ls.drop (k+1)).map λx=>(x.1,aw)).getD (Int.toNat (k:Int)) (0,aw)=(g,aw):=by rw[dL];simp only[bp];rw[List.getElem?_append_right (by omega),hl,Nat.sub_self];rfl
   rw[e];simp only[e9,if_false,jW,dz,dL];rw[nP _ _ (by omega),hl,Nat.sub_self];simp
theorem Tj {ls:List (Int×Bool)}(h:VW ls):qA (cX ls) ((ly ls).map (·.1))=(ae ls,0):=by
 unfold qA;have hlen:(cX ls).length=ls.length:=by rw[sF];simp
 have ZB:=h.1;have h1:pf jT (cX ls)=aw:=by unfold pf;rw[List.any_eq_false];intro x hx;rw[sF]at hx;obtain⟨y,hy,rfl⟩:=aN.1 hx;have:=h.2 y hy;simp[jT];omega
 have iM: ∀k,∀x∈mj ls k,0<=x.1/\x.1<k:=by
  intro k
  induction k with
  |zero=>simp[mj]
  |succ k ih=>
   intro x hx;rw[mj]at hx;rcases iV.1 hx with hx|hx
   ·have:=ih x hx;omega
   ·split at hx
    ·rw[eC.1 hx];simp only;omega
    ·cases hx
 have h2:pf (lW (cX ls).length) ((ly ls).map (·.1))=aw:=by unfold pf;rw[List.any_eq_false];intro x hx;obtain⟨y,hy,rfl⟩:=aN.1 hx;have:=iM _ y hy;simp[lW,hlen];omega
 rw[if_neg (by rw[hlen];omega),h1,h2];have h3:jW ((cX ls).map λg=>(g,aw)) ((ly ls).map (·.1))=ae ls:=by unfold ly;rw[G8 ls _ (az _)];simp
 rw[h3];have h4:pH 1000000 aA ls=aw:=by unfold pH;rw[List.any_eq_false];intro x hx;have:=h.2 x hx;simp only[lx,aM,decide_eq_true_eq,not_and];intro e1 e2;have:=this.2.2 e2.symm;omega
 simp[h4]
def pick (hs:List (Int×Int))(n:Int):Int×Int:=hs.getD (n % hs.length).toNat (0,0)
end
section
open Go.RowKit Go.ChangeShapes Go.WideShapes Go.ChangeAt Go.Deep
theorem FO {H:Type}{enc:aF×aq->H}{W:ah}{r:Reach}{b0:Nat}{v:aq}{d:DataW H}{p:List MemPlace}(hv:Value.okWide Tryz.prog W r b0 23 v)(h:DataW.Trod enc Tryz.prog W 0 (λ_=>aA) aA 23 v d p)(bE: ∀x∈p,x.block<W.heap.size): ∃A c ss,v=.slice A (List.length ss) c/\ss.length<=maxLen/\ui W W.heap.size A ss/\ ∀s∈ss,s.Fit:=by
 obtain⟨A,n,c,rfl,hc,hn,_,xs,hr,hf⟩:=Dw 4 Tryz.underlying23 (by kernel_rfl) (by rw[Ik];omega) hv h bE;rw[Ik]at hr;have hl:xs.length=n *7:=by have:=hr.1;simpa using this
 have h7:=pE hl;have e:((la 7 xs n).map Zb).map Sys.list=la 7 xs n:=by
  rw[List.map_map]
  conv=>rhs;rw[<-List.map_id (la 7 xs n)]
  exact dy λr hr=>Ei (h7 r hr)
 refine⟨A,c,(la 7 xs n).map Zb,by rw[List.length_map,lr],by rw[List.length_map,lr];omega,?_,?_⟩
 ·unfold ui;rw[e];exact Reads.chunks hr (by omega)
 ·intro s hs;obtain⟨r,hr,rfl⟩:=aN.1 hs;intro x hx;rw[Ei (h7 r hr)]at hx;exact hf x (AZ r hr x hx)
end
section
open Go.RowKit Go.Shelf Go.Sort
section
variable {α:Type} [Inhabited α] {enc:α->List aq} {k:Nat} {ρ:Ren} {G:Nat->Prop} {w0 w:ah} {l:List bT} {v:aq} {xs:List α}
theorem Nl (enc:α->List aq)(k:Nat)(w:ah)(g m:Nat)(d:Array α):putRowK enc k (Sort.ahead w m) g 0 d=sortWorldK enc k w g 0 m d #[]:=by unfold sortWorldK;exact(grow_empty _).symm
theorem PQ (L:SlLaysE0.n35 Tryz.prog ρ)(aE: ∀w,(isAgg (ρ.t 23)).run Tryz.prog w=.ok aA w)(zE: ∀w,(Go.sizeOf (ρ.t 23)).run Tryz.prog w=.ok k w)(hk: ∀x,(enc x).length=k)(h1: ∀x,∀u∈enc x,u.oneCell'=aA)(E:aF)(h:In G w0 (dP E k v xs.length (xs.flatMap enc)::l) w)(hl:xs.length<=1099511627776):Calls Tryz.prog (ρ.f 35) #[v] w λe w'=>e=.returned (.tuple #[])/\In G w0 (dP E k v xs.reverse.length (xs.reverse.flatMap enc)::l) w':=by
 obtain⟨F1,⟨hA,hF⟩,_,jA⟩:=h.open_;obtain⟨A,c,rfl,wK,vZ,hg⟩:=cH hA;by_cases h0:xs.length=0
 ·have hx:xs=[]:=gg h0;subst hx;exact(AnyQ.slices_Reverse_empty L A c w).mono λe w' ⟨he,hw⟩=>⟨he,by rw[hw];exact h⟩
 ·obtain⟨b,rfl⟩:=hg (by omega);have BN:=AnyQ.slices_Reverse L k aE zE enc hk h1 b 0 c xs.toArray w (yN hk hA) (by simp;omega);refine BN.mono ?_;rintro e w' ⟨he,n,rfl⟩;have hd:xs.toArray.reverse.size=xs.length:=by simp
  have hv:xs.toArray.reverse.toList=xs.reverse:=by simp
  refine⟨he,?_⟩;rw[Nl];refine jA (A':=dP E k (.slice (ae ⟨b,0,ai⟩) xs.length c) xs.reverse.length (xs.reverse.flatMap enc)) ⟨?_,λq hq=>br (hF q hq)⟩ ((Bn w b n _ #[]).mono λq _ e=>by subst e;exact hF _ rfl);have:=Dx hk hA n xs.toArray.reverse hd #[];rw[hv]at this;have e2:xs.reverse.length=xs.length:=List.length_reverse;rw[e2]at this⊢;exact this
end
def YH:Ren:=⟨λ|35=>130|n=>n,λ|0=>0|3=>3|4=>4|22=>122|23=>43|n=>n,λn=>n⟩
theorem YG:SlLaysE0.n35 Tryz.prog YH:={mixed:=by kernel_rfl,
                                       f35:=⟨Tryz.f130.name,by decide,Tryz.func130.trans (congrArg ae (by kernel_rfl))⟩,
                                       t0:=Tryz.underlying0,
                                       a0:=Tryz.isAgg0,
                                       z0:=Tryz.sizeOf0,
                                       v0:=Tryz.zeroValue0,
                                       t3:=Tryz.underlying3,
                                       a3:=Tryz.isAgg3,
                                       z3:=Tryz.sizeOf3,
                                       v3:=Tryz.zeroValue3,
                                       t4:=Tryz.underlying4,
                                       a4:=Tryz.isAgg4,
                                       z4:=Tryz.sizeOf4,
                                       v4:=Tryz.zeroValue4,
                                       t22:=Tryz.underlying122,
                                       a22:=Tryz.isAgg122,
                                       z22:=Tryz.sizeOf122,
                                       v22:=Tryz.zeroValue122}
theorem M5 {G:Nat->Prop}{w0 w:ah}{l:List bT}{v:aq}{hs:List Hd}(h:In G w0 (jF v hs::l) w)(hl:hs.length<=1099511627776):Calls Tryz.prog 130 #[v] w λe w'=>e=.returned (.tuple #[])/\In G w0 (jF v hs.reverse::l) w':=PQ YG Tryz.isAgg43 Tryz.sizeOf43 zS (λx u hu=>by simp[hC]at hu;rcases hu with rfl|rfl<;>rfl) 43 h hl
end
section
abbrev sl (ls:List (Int×Bool))(k:Nat):Int×Bool:=ls.getD k (0,aw)
theorem G9 (ls:List (Int×Bool))(h:Int×Int): ∀k,h∈mj ls k↔ ∃j,j<k/\h=((j:Int),(sl ls j).1)/\(sl ls j).2=aA
 |0=>by simp[mj]
 |k+1=>by
  rw[mj,iV,G9 ls h k];constructor
  ·rintro(⟨j,h1,h2⟩|hx)
   ·exact⟨j,by omega,h2⟩
   ·split at hx
    ·rename_i hl
     exact⟨k,by omega,eC.1 hx,hl⟩
    ·cases hx
  ·rintro⟨j,h1,h2,h3⟩;by_cases hj:j=k
   ·right;subst hj;rw[if_pos h3,h2];simp
   ·exact br ⟨j,by omega,h2,h3⟩
theorem XU {ls:List (Int×Bool)}{h:Int×Int}:h∈ly ls↔ ∃j,j<ls.length/\h=((j:Int),(sl ls j).1)/\(sl ls j).2=aA:=G9 ls h _
theorem Bf (ls:List (Int×Bool)): ∀k,k<=ls.length->(mj ls k).length=(ls.take k).countP (·.2)
 |0,_=>by simp[mj]
 |k+1,h=>by rw[mj,bM,Bf ls k (by omega),aR (by omega),List.countP_append,yG (by omega)];cases hc:ls[k].2<;>simp[hc]
theorem Pa (ls:List (Int×Bool)):(ly ls).length=ls.countP (·.2):=by unfold ly;rw[Bf ls _ (az _),cD]
theorem G6 {ls:List (Int×Bool)}{k:Nat}(hk:k<ls.length)(b:Int):ez ls k b=(decide ((sl ls k).1=b)&&(sl ls k).2):=by
 unfold ez;rw[dL];have h1:decide ((0:Int)<=(k:Int))=aA:=by simp
 have h2:decide ((k:Int)<(ls.length:Nat))=aA:=by simpa using hk
 rw[h1,h2];rfl
end
section
open Go.RowKit
theorem Rv {w:ah}{B:Nat}{e:aF}{size n c m:Nat}{A:Option Addr}{xs:List aq}(h:w.ownsRow B e size (.slice A n c) n xs)(hm:m<=n):w.ownsRow B e size (.slice A m c) m (xs.take (m *size)):=by
 obtain⟨h1,h2⟩:=h;have hle:m *size<=n *size:=il _ hm;refine⟨by rw[dW];omega,?_⟩;rcases h2 with⟨e1,h0⟩|⟨g,cap,cur,e1,hb,hg,h3,h4,h5,h6⟩
 ·injection e1 with e1 e2 e3
  have:m=0:=by omega
  subst this;exact br ⟨by rw[e1,e3],rfl⟩
 ·injection e1 with e1 e2 e3
  subst e3;refine bR ⟨g,c,cur,by rw[e1],hb,hg,by omega,h4,h5,?_⟩;rw[<-h6,List.take_take,Nat.min_eq_left hle]
theorem vV {α:Type}{size:Nat}{f:α->List aq}(hf: ∀x,(f x).length=size): ∀(l:List α) (k:Nat),(l.flatMap f).take (k *size)=(l.take k).flatMap f
 | [],k=>by simp
 |a::l,0=>by simp
 |a::l,k+1=>by rw[cM,List.take_succ_cons,cM,List.take_append,hf,k8,jR,cI (by rw[hf];omega),Nat.add_sub_cancel,vV hf l k]
theorem Gv {α:Type}{size:Nat}{f:α->List aq}(hf: ∀x,(f x).length=size): ∀(l:List α) (k:Nat),(l.flatMap f).drop (k *size)=(l.drop k).flatMap f
 | [],k=>by simp
 |a::l,0=>by simp
 |a::l,k+1=>by rw[cM,List.drop_succ_cons,List.drop_append,hf,k8,jR,List.drop_of_length_le (by rw[hf];omega),Nat.add_sub_cancel,Gv hf l k,cL]
theorem abj {α:Type}{enc:α->List Int}{w:ah}{B:Nat}{e:aF}{size c g k:Nat}{rows:List α}(hs: ∀x,(enc x).length=size)(h:w.ownsRow B e size (.slice (ae ⟨g,0,ai⟩) rows.length c) rows.length (rows.flatMap λx=>(enc x).map (aZ .i64)))(hk:k<rows.length)(x:α):(putRow w g (k *size) (enc x)).ownsRow B e size (.slice (ae ⟨g,0,ai⟩) rows.length c) rows.length ((rows.set k x).flatMap λx=>(enc x).map (aZ .i64)):=by
 have km: ∀x:α,((enc x).map (aZ .i64)).length=size:=λx=>by rw[List.length_map,hs]
 obtain⟨h1,h2⟩:=h;refine⟨by rw[uX km,ew],?_⟩;rcases h2 with⟨e1,h0⟩|⟨g',cap,cur,e1,hb,hg,h3,h4,h5,h6⟩
 ·omega
 ·injection e1 with e1 e2 e3
  injection e1 with e1
  injection e1 with e1
  subst e1;subst e3;have hle:(k+1) *size<=rows.length *size:=il _ (by omega);have aaV:rows.length *size<=c *size:=il _ h3;rw[k8,jR]at hle;refine bR ⟨g,c,(cur.toList.take (k *size)++(enc x).map (aZ .i64)++cur.toList.drop (k *size+(enc x).length)).toArray,rfl,hb,?_,h3,h4,?_,?_⟩
  ·simp[putRow,bw,hg]
  ·simp[hs];omega
  ·rw[List.toList_toArray];have hx:=km x;have qw:(cur.toList.take (k *size)).length=k *size:=by rw[dW];simp;omega
   have e2:rows=rows.take k++rows[k]::rows.drop (k+1):=by rw[<-List.drop_eq_getElem_cons,nQ]
   have e3:rows.set k x=rows.take k++x::rows.drop (k+1):=by
    conv=>lhs;rw[e2]
    rw[nP _ _ (by rw[dW];omega),dW,Nat.min_eq_left (by omega),Nat.sub_self];rfl
   have e4:(rows.take k).flatMap (λx=>(enc x).map (aZ .i64))=cur.toList.take (k *size):=by
    have:cur.toList.take (k *size)=(cur.toList.take (rows.length *size)).take (k *size):=by rw[List.take_take,Nat.min_eq_left (by omega)]
    rw[this,h6,vV km]
   have e5:(rows.drop (k+1)).flatMap (λx=>(enc x).map (aZ .i64))=(cur.toList.drop (k *size+size)).take ((rows.length-(k+1)) *size):=by
    have:(cur.toList.drop (k *size+size)).take ((rows.length-(k+1)) *size)=(cur.toList.take (rows.length *size)).drop ((k+1) *size):=by rw[List.drop_take,k8,jR];congr 1;rw[Nat.sub_mul,k8,jR]
    rw[this,h6,Gv km]
   rw[e3,eI,cM,e4,e5,<-dn];generalize cur.toList.take (k *size)=P at qw⊢;generalize (enc x).map (aZ .i64)=X at hx⊢;have hPX:(P++X).length=k *size+size:=by rw[bM,qw,hx]
   rw[List.take_append,cI (by rw[hPX];omega),hPX,hs];congr 1;congr 1;rw[Nat.sub_mul,k8,jR]
theorem MI {w:ah}{B:Nat}{e:aF}{size n c g k:Nat}{xs:List aq}(h:w.ownsRow B e size (.slice (ae ⟨g,0,ai⟩) n c) n xs)(hk:k<n):fits w g (k *size) size=aA:=by
 obtain⟨h1,h2|⟨g',cap,cur,e1,_,hg,h3,_,h5,h6⟩⟩:=h
 ·cases h2.1
 ·injection e1 with e1 e2 e3
  injection e1 with e1
  injection e1 with e1
  subst e1;unfold fits;rw[hg];have hle:(k+1) *size<=cap *size:=il _ (by omega);rw[k8,jR]at hle;simp;omega
def nS (w w':ah)(p:Nat)(T:aF)(cs:Array aq)(o:Nat)(v:aq)(E:aF)(size n:Nat)(xs:List aq):Prop:= ∃v',dq w' p T (cs.setIfInBounds o v')/\w'.ownsRow 0 E size v' n xs/\v'.ownBlock≠ae p/\(∀k,v'.ownBlock=ae k->v.ownBlock=ae k\/w.heap.size<=k)/\cW (λk=>k=p\/v.ownBlock=ae k) w w'
theorem Qs {w w3:ah}{p o n size:Nat}{T E:aF}{cs:Array aq}{v v':aq}{O:Obj}{xs:List aq}(hB:dq w p T cs)(dQ:v.ownBlock≠ae p)(mh:w3.ownsRow 0 E size v' n xs)(A7:(w.alloc O).grownBy w3 v.ownBlock)(ru:v'.ownBlock=v.ownBlock\/v'.ownBlock=ae (w.heap.size+1)):dq w3 p T cs/\nS w (w3.setCell ⟨p,o,ai⟩ v') p T cs o v E size n xs:=by
 have ZE:cW (λk=>v.ownBlock=ae k) w w3:=(cW.refl.alloc _).trans (cW.grown A7 λk hk=>hk);have zC:=ZE.blk hB dQ;have hN3:v'.ownBlock≠ae p:=by
  rcases ru with e|e
  ·rw[e];exact dQ
  ·rw[e];intro h;injection h with h;have:=hB.lt;omega
 refine⟨zC,v',zC.set o v',ownsRow_setCell_other mh hN3 _,hN3,λk hk=> ?_,(ZE.mono (G:=λk=>k=p\/v.ownBlock=ae k) λk _ hk=>bR hk).setCell (br (br rfl)) _ _⟩;rcases ru with e|e
 ·rw[e]at hk;exact br hk
 ·rw[e]at hk;injection hk with hk;exact bR (by omega)
theorem Te:(Tryz.prog.info? 3).map (λi=>(i.zero,i.size,i.bytes))=ae (ae (.int .i64 0),1,8):=by kernel_rfl
theorem FH:(Tryz.prog.info? 43).map (λi=>(i.zero,i.size,i.bytes))=ae (ae (.agg #[.int .i64 0,.int .i64 0]),2,16):=by kernel_rfl
theorem VZ (p o:Nat)(T:aF)(cs:Array aq)(v:aq)(n:Nat)(xs:List aq)(x:Int)(w:ah)(hB:dq w p T cs)(hv:cs[o]? =ae v)(ho:w.ownsRow 0 3 1 v n xs)(dQ:v.ownBlock≠ae p)(hl:n<=100000):Calls Tryz.prog 216 #[.pointer (ae ⟨p,o,ai⟩),.int .i64 x] w λe w'=>e=.returned (.tuple #[])/\nS w w' p T cs o v 3 1 (n+1) (xs++[.int .i64 x]):=by
 obtain⟨A,c,rfl,wK,vZ,_⟩:=cH ho;have HO:=af ho;have HB:=af hB;have HN:=af dQ;have c1:w.cell? ⟨p,o,ai⟩=ae (.slice A n c):=(hB.cell o).trans hv;obtain⟨i0,qX,uH,vi,uC⟩:=info_parts Te;clear ho hB dQ hv
 go_enter Tryz.func216,Tryz.ntmps216
 go_wp2_with (at_builtin;refine eu rfl _ _ _ rfl 0 3 i0 _ 1 8 Tryz.underlying32 qX uH vi uC rfl (by decide) (.slice A n c) n xs rfl HO.out [.int .i64 x] rfl rfl (by simp[jm]) (by unfold maxLen;omega) (by omega) (bS _) ?_)
 intro v' w3 mh A7 ru;obtain⟨A4,c4,rfl,_,_,_⟩:=cH mh;obtain⟨zC,hE⟩:=Qs (o:=o) HB.out HN.out mh A7 ru;have HE:=af hE;have c2:w3.frozen? ⟨p,o,ai⟩=aw:=zC.frozen o;have c3:w3.cell? ⟨p,o,ai⟩=ae (.slice A n c):=(zC.cell o).trans ((HB.out.cell o).symm.trans c1);clear hE zC mh A7 ru
 go_wp2_with fail
 go_end0
 exact⟨rfl,HE.out⟩
theorem VY (p o:Nat)(T:aF)(cs:Array aq)(v:aq)(n:Nat)(xs:List aq)(a b:Int)(w:ah)(hB:dq w p T cs)(hv:cs[o]? =ae v)(ho:w.ownsRow 0 43 2 v n xs)(dQ:v.ownBlock≠ae p)(hl:n<=100000):Calls Tryz.prog 215 #[.pointer (ae ⟨p,o,ai⟩),.agg #[.int .i64 a,.int .i64 b]] w λe w'=>e=.returned (.tuple #[])/\nS w w' p T cs o v 43 2 (n+1) (xs++[.int .i64 a,.int .i64 b]):=by
 obtain⟨A,c,rfl,wK,vZ,_⟩:=cH ho;have HO:=af ho;have HB:=af hB;have HN:=af dQ;have c1:w.cell? ⟨p,o,ai⟩=ae (.slice A n c):=(hB.cell o).trans hv;obtain⟨i0,qX,uH,vi,uC⟩:=info_parts FH;clear ho hB dQ hv
 go_enter Tryz.func215,Tryz.ntmps215
 go_upto_region 1 with(fail)
 have LS:=HB.out.lt;refine cc (λw'=>dq w' w.heap.size 43 (ints [a,b])/\Below w.heap.size w w') ⟨dq.new _ _ _,(Below.refl _ _).alloc (az _) _⟩ ?_;rintro w1 ⟨lf,gV⟩;have r1:row? w1 w.heap.size 0 2=ae #[.int .i64 a,.int .i64 b]:=lf.bt rfl;have yi:Hid (w1.ownsRow 0 43 2 (.slice A n c) n xs):=nY HO.out gV;have tu:Hid (dq w1 p T cs):=HB.out.after gV;have c1:w1.cell? ⟨p,o,ai⟩=ae (.slice A n c):=(tu.out.cell o).trans ((HB.out.cell o).symm.trans c1);have c1a:(w1.alloc (.cells #[.int .i64 a,.int .i64 b] 43)).cell? ⟨p,o,ai⟩=ae (.slice A n c):=(((Below.refl _ w1).alloc (az _) _).cell (p:=⟨p,o,ai⟩) tu.out.lt).trans c1;have HBL:=af gV;clear lf gV
 go_region_law (refine J5 (w:=w1.drew) rfl (.tmp 8) (.tmp 10) 122 rfl 0 43 i0 _ 2 16 Tryz.underlying122 qX uH vi uC rfl (by decide) (.slice A n c) n xs (by simp[bV,Act.put]) yi.out [.int .i64 a,.int .i64 b] (by simp[bV,Act.put]) rfl (by simp[jm]) (by unfold maxLen;omega) (by omega) (bS _) ?_;intro v' w3 mh A7 ru;obtain⟨A4,c4,rfl,_,_,_⟩:=cH mh;obtain⟨zC,hE⟩:=Qs (w:=w1.drew) (o:=o) tu.out.drew HN.out mh A7 ru;have HE:=af hE;have c2:w3.frozen? ⟨p,o,ai⟩=aw:=zC.frozen o;have c3:w3.cell? ⟨p,o,ai⟩=ae (.slice A n c):=(zC.cell o).trans ((tu.out.cell o).symm.trans c1);clear hE zC mh A7 ru)
 all_goals
  go_wp2_with fail
  go_end0
  refine⟨rfl,?_⟩;obtain⟨v',h1,h2,h3,h4,h5⟩:=HE.out;exact⟨v',h1,h2,h3,λk hk=>by rcases h4 k hk with h|h;exact br h;exact bR (bP HBL.out.size h),(cW.fU HBL.out).trans (cW.refl.drew.trans h5)⟩
theorem M1 (p o:Nat)(T:aF)(cs:Array aq)(v:aq)(xs:List (Int×Int))(k:Nat)(w:ah)(hB:dq w p T cs)(hv:cs[o]? =ae v)(ho:w.ownsRow 0 43 2 v xs.length (xs.flatMap hC))(dQ:v.ownBlock≠ae p)(hl:xs.length<=100000)(hk:k<xs.length):Calls Tryz.prog 217 #[.pointer (ae ⟨p,o,ai⟩),.int .i64 k] w λe w'=>e=.returned (.agg (ints (hL (xs.getD k (0,0)))))/\nS w w' p T cs o v 43 2 (xs.length-1) (((xs.set k (xs.getD (xs.length-1) (0,0))).take (xs.length-1)).flatMap hC):=by
 obtain⟨A,c,rfl,wK,vZ,hA⟩:=cH ho;obtain⟨g,rfl⟩:=hA (by omega);obtain⟨m,hm⟩: ∃m,xs.length=m+1:=⟨xs.length-1,by omega⟩;have hgp:g≠p:=λe=>dQ (by rw[e];rfl)
 have Xm:(k:Int)<(m:Int)+1:=by omega
 have hmc:(m:Int)+1<=c:=by omega
 have hcc:(c:Int)<=9223372036854775807:=by unfold maxLen at vZ;omega
 have I8:=(lq ho g rfl).2;have r1:row? w g (k *2) 2=ae (ints (hL (xs.getD k (0,0)))):=by rw[lg ho hk,lO zS xs k hk];simp[bp,ao hk];rfl
 have r2:row? w g (m *2) 2=ae (ints (hL (xs.getD m (0,0)))):=by rw[lg ho (show m<xs.length by omega),lO zS xs m (by omega)];simp[bp,ao (show m<xs.length by omega)];rfl
 have HB:=af hB;have HO:=af ho;have HN:=af dQ;have hp:=hB.lt;have c0:w.cell? ⟨p,o,ai⟩=ae (.slice (ae ⟨g,0,ai⟩) (m+1) c):=by rw[<-hm];exact(hB.cell o).trans hv
 have HM:=af hm;have HK:=af hk;rw[hm,Nat.add_sub_cancel];clear ho hB dQ hv hm hl wK;generalize hx1:xs.getD k (0,0)=x1 at *;generalize Jc:xs.getD m (0,0)=x2 at *;have HX2:=af Jc;obtain⟨AB,AE⟩:=x1;obtain⟨NC,ND⟩:=x2;change row? w g (k *2) 2=ae (ints [AB,AE])at r1;change row? w g (m *2) 2=ae (ints [NC,ND])at r2;clear hx1 Jc
 go_enter Tryz.func217,Tryz.ntmps217
 go_upto_region 1 with(fail)
 refine cc (λw'=>dq w' w.heap.size 43 (ints [0,0])/\Below w.heap.size w w') ⟨dq.new _ _ _,(Below.refl _ _).alloc (az _) _⟩ ?_;rintro w1 ⟨lf,gV⟩;have f1:fits w1 w.heap.size 0 2=aA:=lf.fits 0 2 (by decide);have q1:row? w1 g (k *2) 2=ae (ints [AB,AE]):=(iR gV I8 _ _).trans r1;have q2:row? w1 g (m *2) 2=ae (ints [NC,ND]):=(iR gV I8 _ _).trans r2;have c1:w1.cell? ⟨p,o,ai⟩=ae (.slice (ae ⟨g,0,ai⟩) (m+1) c):=(gV.cell (p:=⟨p,o,ai⟩) hp).trans c0;have hkx:k<xs.length:=HK.out;have LP:w1.ownsRow 0 43 2 (.slice (ae ⟨g,0,ai⟩) xs.length c) xs.length (xs.flatMap hC):=nY HO.out gV;have hgq:g≠w.heap.size:=by omega
 have Xx:p≠w.heap.size:=by omega
 have ZD:cW (· =w.heap.size) w1 (putRow w1 w.heap.size 0 [AB,AE]):=cW.putRow _ _ _ _;have LQ:(putRow w1 w.heap.size 0 [AB,AE]).ownsRow 0 43 2 (.slice (ae ⟨g,0,ai⟩) xs.length c) xs.length (xs.flatMap hC):=ZD.own LP λq hq=>by simp[fK]at hq;omega
 have f2:fits w1 g (k *2) 2=aA:=MI LP hkx;have hmm:(m:Int)<(m:Int)+1:=by omega
 have SS:dq (putRow w1 w.heap.size 0 [AB,AE]) p T cs:=ZD.blk (HB.out.after gV) Xx;have c1':(putRow w1 w.heap.size 0 [AB,AE]).cell? ⟨p,o,ai⟩=ae (.slice (ae ⟨g,0,ai⟩) (m+1) c):=(SS.cell o).trans ((HB.out.cell o).symm.trans c0);have q2':row? (putRow w1 w.heap.size 0 [AB,AE]) g (m *2) 2=ae (ints [NC,ND]):=by unfold row? at q2⊢;rw[ZD.block g (by have:=gV.size;omega) hgq];exact q2
 have f3:fits (putRow w1 w.heap.size 0 [AB,AE]) g (k *2) 2=aA:=MI LQ hkx;have HR:Hid (dq (putRow (putRow w1 w.heap.size 0 [AB,AE]) g (k *2) [NC,ND]) w.heap.size 43 (ints [AB,AE])/\
  (putRow (putRow w1 w.heap.size 0 [AB,AE]) g (k *2) [NC,ND]).ownsRow 0 43 2 (.slice (ae ⟨g,0,ai⟩) xs.length c) xs.length ((xs.set k (NC,ND)).flatMap hC)/\
  dq (putRow (putRow w1 w.heap.size 0 [AB,AE]) g (k *2) [NC,ND]) p T cs/\cW (λq=>q=p\/q=g) w (putRow (putRow w1 w.heap.size 0 [AB,AE]) g (k *2) [NC,ND])):=by
  refine⟨(lf.fc [AB,AE] rfl).yZ _ _ (Ne.symm hgq),?_,SS.yZ _ _ (Ne.symm hgp),?_⟩
  ·have:=abj (enc:=hL) (λ_=>rfl) LQ hkx (NC,ND);exact this
  ·refine((cW.fU gV).trans' ZD λq hq e=>absurd e (by omega)).trans' (cW.putRow _ g _ _) λq hq e=>bR e
 clear LP LQ ZD SS
 go_wp2_with fail
 go_region
 clear c1 c1' q1 q2 q2' f1 f2 f3 lf gV;obtain⟨h1,h2,h3,h4⟩:dq (putRow (putRow w1 w.heap.size 0 [AB,AE]) g (k *2) [NC,ND]).drew w.heap.size 43 (ints [AB,AE])/\
  (putRow (putRow w1 w.heap.size 0 [AB,AE]) g (k *2) [NC,ND]).drew.ownsRow 0 43 2 (.slice (ae ⟨g,0,ai⟩) xs.length c) xs.length ((xs.set k (NC,ND)).flatMap hC)/\
  dq (putRow (putRow w1 w.heap.size 0 [AB,AE]) g (k *2) [NC,ND]).drew p T cs/\cW (λq=>q=p\/q=g) w (putRow (putRow w1 w.heap.size 0 [AB,AE]) g (k *2) [NC,ND]).drew:=
  ⟨HR.out.1,HR.out.2.1,HR.out.2.2.1,HR.out.2.2.2.drew⟩
 clear HR;generalize (putRow (putRow w1 w.heap.size 0 [AB,AE]) g (k *2) [NC,ND]).drew=w4 at *;have c4:w4.cell? ⟨p,o,ai⟩=ae (.slice (ae ⟨g,0,ai⟩) (m+1) c):=(h3.cell o).trans ((HB.out.cell o).symm.trans c0);have c5:w4.frozen? ⟨p,o,ai⟩=aw:=h3.frozen o;have hl:=h1.FD (g':=p) (Ne.symm Xx) o (.slice (ae ⟨g,0,ai⟩) m c);have c6:row? (w4.setCell ⟨p,o,ai⟩ (.slice (ae ⟨g,0,ai⟩) m c)) w.heap.size 0 2=ae (ints [AB,AE]):=hl.bt rfl;have c7:fits (w4.setCell ⟨p,o,ai⟩ (.slice (ae ⟨g,0,ai⟩) m c)) w.heap.size 0 2=aA:=hl.fits 0 2 (by rw[bJ];exact az 2);have hN:(dZ (ae ⟨g,0,ai⟩) (m+1) c).ownBlock≠ae p:=HN.out;have h2b:w4.ownsRow 0 43 2 (.slice (ae ⟨g,0,ai⟩) m c) m (((xs.set k (NC,ND)).take m).flatMap hC):=by have:=Rv h2 (m:=m) (by have:=HM.out;omega);rwa[vV zS]at this
 have h2c:=ownsRow_setCell_other (a:=⟨p,o,ai⟩) h2b hN (.slice (ae ⟨g,0,ai⟩) m c);have Xa:cW (· =w.heap.size) (w4.setCell ⟨p,o,ai⟩ (.slice (ae ⟨g,0,ai⟩) m c)) (putRow (w4.setCell ⟨p,o,ai⟩ (.slice (ae ⟨g,0,ai⟩) m c)) w.heap.size 0 [AB,AE]):=cW.putRow _ _ _ _;have HE:Hid (nS w (putRow (w4.setCell ⟨p,o,ai⟩ (.slice (ae ⟨g,0,ai⟩) m c)) w.heap.size 0 [AB,AE]) p T cs o (.slice (ae ⟨g,0,ai⟩) (m+1) c) 43 2 m (((xs.set k (NC,ND)).take m).flatMap hC)):=by refine⟨.slice (ae ⟨g,0,ai⟩) m c,(h3.set o _).yZ _ _ Xx,Xa.own h2c (λq hq=>by simp[fK]at hq;omega),hN,λq hq=>br hq,?_⟩;refine((h4.mono (G:=λq=>q=p\/(dZ (ae ⟨g,0,ai⟩) (m+1) c).ownBlock=ae q) λq _ hq=>by rcases hq with h|h;exact br h;exact bR (by rw[h];rfl)).setCell (g:=p) (br (br rfl)) o _).trans' Xa λq hq e=>absurd e (by omega)
 have HBx:Hid (dq (putRow (w4.setCell ⟨p,o,ai⟩ (.slice (ae ⟨g,0,ai⟩) m c)) w.heap.size 0 [AB,AE]) w.heap.size 43 (ints [AB,AE])):=hl.fc [AB,AE] rfl;clear h1 h2 h3 h4 hl h2b h2c Xa
 go_wp2_with fail
 refine tF rfl w.heap.size 43 (ints [AB,AE]) _ rfl HBx.out Tryz.underlying43 rfl (by rw[bJ];exact dV) rfl ⟨rfl,?_⟩;exact HE.out
theorem M2 (p o:Nat)(T:aF)(cs:Array aq)(v:aq)(xs:List Int)(k:Nat)(w:ah)(hB:dq w p T cs)(hv:cs[o]? =ae v)(ho:w.ownsRow 0 3 1 v xs.length (xs.flatMap λx=>[aZ .i64 x]))(dQ:v.ownBlock≠ae p)(hl:xs.length<=100000)(hk:k<xs.length):Calls Tryz.prog 218 #[.pointer (ae ⟨p,o,ai⟩),.int .i64 k] w λe w'=>e=.returned (.int .i64 (xs.getD k 0))/\nS w w' p T cs o v 3 1 (xs.length-1) (((xs.set k (xs.getD (xs.length-1) 0)).take (xs.length-1)).flatMap λx=>[aZ .i64 x]):=by
 obtain⟨A,c,rfl,wK,vZ,hA⟩:=cH ho;obtain⟨g,rfl⟩:=hA (by omega);obtain⟨m,hm⟩: ∃m,xs.length=m+1:=⟨xs.length-1,by omega⟩;have Ck: ∀x:Int,([aZ .i64 x]:List aq).length=1:=λ_=>rfl
 have c1:w.cell? ⟨p,o,ai⟩=ae (.slice (ae ⟨g,0,ai⟩) (m+1) c):=by rw[<-hm];exact(hB.cell o).trans hv
 have c2:w.frozen? ⟨p,o,ai⟩=aw:=hB.frozen o;have d1:w.cell? ⟨g,k,ai⟩=ae (.int .i64 (xs.getD k 0)):=by rw[World.ownsRow.cellAt ho k (by omega),<-Nat.mul_one k,<-kW (k *1),qm Ck xs k 0 hk (by omega)];simp[bp,ao hk]
 have d2:w.cell? ⟨g,m,ai⟩=ae (.int .i64 (xs.getD m 0)):=by rw[World.ownsRow.cellAt ho m (by omega),<-Nat.mul_one m,<-kW (m *1),qm Ck xs m 0 (by omega) (by omega)];simp[bp,ao (show m<xs.length by omega)]
 have d3:w.frozen? ⟨g,k,ai⟩=aw:=World.ownsRow.frozenAt ho k;have hgp:g≠p:=λe=>dQ (by rw[e];rfl)
 have ahC:p≠g:=λe=>hgp e.symm
 have Xm:(k:Int)<(m:Int)+1:=by omega
 have hmc:(m:Int)+1<=c:=by omega
 have hcc:(c:Int)<=9223372036854775807:=by unfold maxLen at vZ;omega
 have HE:Hid (nS w ((w.setCell ⟨g,k,ai⟩ (.int .i64 (xs.getD m 0))).setCell ⟨p,o,ai⟩ (.slice (ae ⟨g,0,ai⟩) m c)).drew p T cs o (.slice (ae ⟨g,0,ai⟩) (m+1) c) 3 1 m (((xs.set k (xs.getD m 0)).take m).flatMap λx=>[aZ .i64 x])):=by
  have s1:=(World.ownsRow.stored ho (k *1) (aZ .i64 (xs.getD m 0))).1;rw[<-kW (k *1),sD Ck xs k 0 (xs.getD m 0) _ hk (by omega) rfl,kW,Nat.mul_one]at s1;rw[hm]at s1;have s2:=Rv s1 (m:=m) (by omega);rw[vV Ck]at s2;have ZD:cW (λq=>q=p\/(dZ (ae ⟨g,0,ai⟩) (m+1) c).ownBlock=ae q) w ((w.setCell ⟨g,k,ai⟩ (.int .i64 (xs.getD m 0))).setCell ⟨p,o,ai⟩ (.slice (ae ⟨g,0,ai⟩) m c)):=((cW.refl (F:=λq=>q=p\/(dZ (ae ⟨g,0,ai⟩) (m+1) c).ownBlock=ae q)).setCell (g:=g) (br (bR rfl)) k _).setCell (g:=p) (br (br rfl)) o _
  exact⟨_,((hB.FD ahC _ _).set o _).drew,ownsRow_setCell_other (a:=⟨p,o,ai⟩) s2 (by rw[hm]at dQ;exact dQ) _,by rw[hm]at dQ;exact dQ,λq hq=>br hq,ZD.drew⟩
 have HM:=af hm;rw[hm,Nat.add_sub_cancel];rw[hm]at hv ho dQ hl wK hk;clear ho hB dQ hv Ck hm;generalize xs.getD k 0=x1 at *;generalize xs.getD m 0=x2 at *
 go_enter Tryz.func218,Tryz.ntmps218
 go_wp2_with fail
 go_region
 go_wp2_with fail
 go_ret;exact⟨rfl,HE.out⟩
end
section
open Go.RowKit
def b9 (p:Nat)(ls:List (Int×Bool)):bT:=Col 170 172 2 tc p ls
end
section
open Rel
def wX:List bQ:=[11,12,14,15,16,17,18,19,21,24,25,26,27,28,29,30,32,33,34,35,36,37,38,39,40,42,43,44,45,46,49,50,51,52,53,54,55,56,57,58,59,60,61,62,63,64,65,66,67,68,69,70,71,72,73,74,75,77,78,79,80,81,82,83,84,85,86,87,88,89,90,91,92,93,94,95,96,97,98,99,100,101,102,103,107,108,109,110,111,112,113,114,115,116,117,118,119,120,121,122,123,124,125,126,127,128,129,130,131,132,133,134,135,136,137,138,140,141,142,143,144,145,146,147,148,149,150,151,152,167,168,169,170,171,172,173,174,175,176,177,178,179,180,181,182,183,184,185,186,187,188,189,190,191,192,193,194,195,196,197,198,199,200,201,202,213,214,215,216,217,218,219,220,221,222,223,224,225,226,227,228,229,230,231,232,233,234,238,239,240,241,242,243,244,245,246,247,248,249]
def XJ:List aF:=[2,3,5,12,21,27,184,187,230,256,289]
def cfg (_:bQ->List Tmp)(old:Nat):fR:={fn:=λf=>wX.contains f,int:=λt=>XJ.contains t,old:=old}
def afb:List (bQ×List (Tmp×Kd)):=[(36,[(0,.sl 54),(11,.sl 54),(14,.sl 54),(18,.pt 54),(26,.sl 54),(29,.sl 54),(34,.pt 54),(41,.sl 54),(43,.pt 54)]),(12,[(1,.sl 54),(12,.sl 54),(19,.sl 54),(23,.pt 54)]),(11,[(0,.sl 74),(9,.sl 74),(13,.pt 74)]),(24,[(0,.sl 74),(9,.sl 74),(13,.pt 74)]),(13,[(2,.sl 54),(23,.sl 54),(35,.sl 54),(40,.pt 54)]),(3,[(0,.sl 74),(1,.sl 54),(13,.sl 74),(15,.sl 74),(24,.sl 54),(30,.sl 54),(44,.sl 54)]),(5,[(0,.sl 74),(1,.sl 54),(17,.sl 74),(24,.sl 54),(66,.sl 54),(70,.pt 54)]),(4,[(0,.sl 74),(1,.sl 54),(13,.sl 74),(15,.sl 74),(24,.sl 54),(33,.sl 54),(38,.sl 54),(40,.sl 54),(45,.sl 54),(47,.sl 54)]),(9,[(0,.sl 74),(1,.sl 74),(2,.sl 54),(22,.sl 74),(29,.sl 74),(33,.pt 74),(43,.sl 54)]),(41,[(21,.any)])]
def bdM (f:bQ):List Tmp:=((afb.lookup f).getD []).map (·.1)
def kdM (f:bQ)(t:Tmp):Kd:=(((afb.lookup f).getD []).lookup t).getD .any
def Wt (t:aF):Option aF:=if t=22 then ae 74 else if t=23 then ae 54 else ai
def Lr (t:aF):Option Nat:=if t=74 then ae 16 else if t=54 then ae 7 else ai
structure uO where
 n:Nat
 mem:Addr->Option Int
 lt: ∀a x,mem a=ae x->a.block<n
def uO.none:uO:=⟨0,λ_=>Option.none,by intro a x h;cases h⟩
def mX (O:uO):fR:={fn:=λf=>wX.contains f,int:=λt=>XJ.contains t,bd:=bdM,kd:=kdM,old:=O.n,mem:=O.mem,Jl:=O.lt,elem:=Wt,flat:=Lr}
def ade:fR:={fn:=λf=>wX.contains f,int:=λt=>XJ.contains t}
noncomputable def acu (f:bQ):Bool:=match Tryz.prog.funcs[f]? with
 |some F=>match F.body with
  |some b=>dm ade b&&dm ((mX uO.none).at f) b&&(F.name != "runtime.NumGoroutine")&&F.results.toList.all (rD (bdM f))
  |none=>aw
 |none=>aw
noncomputable def acR (t:aF):Bool:=match (Tryz.prog.types[t]?).bind (·.zero)with|some v=>nM v|none=>aA
theorem WS:wX.all acu=aA:=by decide+kernel
theorem aaX:(XJ.all λt=>match Tryz.prog.underlying t with|some (.int _)=>aA|_=>aw)=aA:=by decide+kernel
theorem acf:((aG Tryz.prog.types.size).all acR)=aA:=by decide+kernel
theorem QM {f:bQ}(h:wX.contains f=aA): ∃F b,Tryz.prog.funcs[f]? =ae F/\F.body=ae b/\dm ade b=aA/\dm ((mX uO.none).at f) b=aA/\F.name≠ "runtime.NumGoroutine" /\F.results.toList.all (rD (bdM f))=aA:=by
 have:=List.all_eq_true.1 WS f (by simpa using h);unfold acu at this;cases hF:Tryz.prog.funcs[f]? with
 |none=>rw[hF]at this;cases this
 |some F=>
  rw[hF]at this;cases hb:F.body with
  |none=>simp only[hb]at this;cases this
  |some b=>simp only[hb,aM,bne_iff_ne,ne_eq]at this;exact⟨F,b,rfl,hb,this.1.1.1,this.1.1.2,this.1.2,this.2⟩
theorem Q9 {t:aF}(ht:XJ.contains t=aA): ∃k,Tryz.prog.underlying t=ae (.int k):=by
 have:=List.all_eq_true.1 aaX t (by simpa using ht);cases hu:Tryz.prog.underlying t with
 |none=>rw[hu]at this;cases this
 |some d=>rw[hu]at this;cases d<;>first|exact⟨_,rfl⟩|cases this
theorem NJ (t:aF)(i:TypeInfo)(v:aq)(h:Tryz.prog.info? t=ae i)(hz:i.zero=ae v):Rel.ga 6 v=aA:=by refine UL (λt i v h hz=> ?_) t i v h hz;have bE:=(aL.1 h).1;have:=List.all_eq_true.1 acf t (mD.2 bE);unfold acR at this;rw[h]at this;simp only[rM,hz]at this;exact this
theorem K3 (bd:bQ->List Tmp)(old:Nat):(cfg bd old).Fits Tryz.prog:=by refine⟨λf hf=> ?_,λt ht=>Q9 ht,NJ,λt e h=>(by cases h),λt n h=>(by cases h)⟩;obtain⟨F,b,h1,h2,h3,_,h5,_⟩:=QM hf;exact⟨F,b,h1,h2,(Bl (c:=(cfg bd old).at f) (d:=ade) rfl rfl rfl rfl b).trans h3,h5,z8 (c:=cfg bd old) rfl F⟩
theorem nU (O:uO):(mX O).Fits Tryz.prog:=by
 refine⟨λf hf=> ?_,λt ht=>Q9 ht,NJ,λt e h=> ?_,λt n h=> ?_⟩
 ·obtain⟨F,b,h1,h2,_,h3,h5,h6⟩:=QM hf;exact⟨F,b,h1,h2,(Jr (c:=(mX O).at f) (d:=(mX uO.none).at f) rfl rfl rfl rfl rfl rfl rfl b).trans h3,h5,h6⟩
 ·have h:Wt t=ae e:=h;unfold Wt at h
  split at h
  ·rename_i ht
   cases h;exact⟨by rw[ht];exact Tryz.underlying22,16,rfl⟩
  ·split at h
   ·rename_i ht
    cases h;exact⟨by rw[ht];exact Tryz.underlying23,7,rfl⟩
   ·cases h
 ·have h:Lr t=ae n:=h;unfold Lr at h
  split at h
  ·rename_i ht
   cases h;exact⟨by rw[ht];exact⟨_,rfl,rfl⟩,by rw[ht];exact⟨_,Tryz.underlying74⟩⟩
  ·split at h
   ·rename_i ht
    cases h;exact⟨by rw[ht];exact⟨_,rfl,rfl⟩,by rw[ht];exact⟨_,Tryz.underlying54⟩⟩
   ·cases h
theorem ad6 {bd:bQ->List Tmp}{old:Nat}{O:uO}{π:Ren}{o o':Obj}(h:ku (cfg bd old).sig π o o'):ku (mX O).sig π o o':=ku.sig (S:=(cfg bd old).sig) (S':=(mX O).sig) (λ_ h=>h) (λx hx=>(Bl (c:=(mX O).cl) (d:=(cfg bd old).cl) rfl rfl rfl rfl x).trans hx) h
end
section
open Go.RowKit
structure pX (w:ah) (p b:Nat) (m:jS):Prop where
 ok:jK m
 blk:dq w p 175 #[.map (ae b)]
 map:ey nw nw (λ_=>True) w b m
theorem pX.after {w w':ah}{p b:Nat}{m:jS}(h:pX w p b m)(hb:Below w.heap.size w w'):pX w' p b m:=⟨h.ok,h.blk.after hb,h.map.after hb⟩
theorem In.aej {G:Nat->Prop}{w0 w:ah}{l:List bT}{p:Nat}{m:jS}(h:In G w0 (jE p m::l) w): ∃b,pX w p b m:=by obtain⟨hm,b,hI⟩:=h.tX;exact⟨b,hm,hI.blk,hI.swap.hZ⟩
def jP (m:jS)(c:Hd):Hd×Bool:=((eG m c).getD (0,0),(eG m c).isSome)
theorem qB {w:ah}{b:Nat}{m:jS}(h:ey nw nw (λ_=>True) w b m)(c:Hd){w':ah}(hb:Below w.heap.size w w'):(lj 173 (.map (ae b)) (nw c) aA).run Tryz.prog w'=.ok (.tuple #[nw (jP m c).1,.bool (jP m c).2]) w':=by have:=(h.after hb).look Dk Tryz.underlying173 (NI w') (x:=c) trivial aA;rw[this];unfold jP;cases eG m c<;>rfl
section
variable {G:Nat->Prop} {w0 w:ah} {l:List bT} {p:Nat} {m:jS}
theorem QG (h:In G w0 l w):Calls Tryz.prog 86 #[] w λe w'=> ∃p,e=.returned (.pointer (ae ⟨p,0,ai⟩))/\In G w0 (jE p []::l) w':=by
 have H:=af h;clear h;have hmm:= @run_makeMap Tryz.prog
 go_enter Tryz.func86,Tryz.ntmps86
 go_wp2_with fail
 go_ret;have h2:=(H.out.Jp nw nw (λ_=>True)).alloc 175 #[.map (ae w.heap.size)];rw[cQ]at h2;exact⟨_,rfl,In.pN jK.nil h2⟩
end
theorem Lu {p b:Nat}{m:jS}(c:Hd)(w:ah)(h:pX w p b m):Calls Tryz.prog 168 #[.pointer (ae ⟨p,0,ai⟩),nw c] w λe w'=>e=.returned (.tuple #[nw (jP m c).1,.bool (jP m c).2])/\Below w.heap.size w w':=by
 have HS:=af h;clear h;obtain⟨c1,c2⟩:=c;rw[jV]
 go_enter Tryz.func168,Tryz.ntmps168
 go_upto_region 1 with(fail)
 refine cc (λw'=>dq w' (w.heap.size+1) 43 (ints [0,0])/\dq w' w.heap.size 43 (ints (hL (c1,c2)))/\Below w.heap.size w w') ⟨by have:=dq.new (w.alloc (.cells (ints (hL (c1,c2))) 43)) 43 (ints [0,0]);rwa[cQ]at this,(dq.new w _ _).alloc _,((Below.refl _ _).alloc (az _) _).alloc (by simp) _⟩ ?_
 rintro w1 ⟨hR,hC,hb⟩;have LC:=HS.out.after hb;have k0:w1.cell? ⟨p,0,ai⟩=ae (.map (ae b)):=LC.blk.cell 0;have k1:row? w1 w.heap.size 0 2=ae #[.int .i64 c1,.int .i64 c2]:=hC.bt rfl;have qw:=qB LC.map (c1,c2) (Below.refl _ _).drew;have BO:=qB LC.map (c1,c2) (((Below.refl _ w1).alloc (az _) (.cells #[.int .i64 0,.int .i64 0] 43)).drew);have NM:=(Below.refl w1.heap.size w1).alloc (az _) (.cells #[.int .i64 0,.int .i64 0] 43);have k2:row? (w1.alloc (.cells #[.int .i64 0,.int .i64 0] 43)) w.heap.size 0 2=ae #[.int .i64 c1,.int .i64 c2]:=(hC.after NM).bt rfl;have k3:(w1.alloc (.cells #[.int .i64 0,.int .i64 0] 43)).cell? ⟨p,0,ai⟩=ae (.map (ae b)):=(LC.blk.after NM).cell 0;have HR:=af hR;have HB:=af hb;have sN:w.heap.size<=w.heap.size+1:=Nat.le_succ _;rw[jV]at qw BO;generalize hr:jP m (c1,c2)=r at *;have UQ:=af hr;clear hr;obtain⟨⟨r1,r2⟩,is⟩:=r;simp only[jV]at qw BO;clear hR hC hb LC HS NM;generalize w.heap.size+1=rb at *
 go_region
 all_goals
  go_upto_region 2 with(fail)
  refine cc (λw'=>dq w' w1.heap.size 43 (ints [r1,r2])/\dq w' rb 43 (ints [0,0])/\Below w.heap.size w w') ⟨(kl w1 43 [0,0] [r1,r2] rfl).drew,(HR.out.after (eZ w1 43 [0,0] [r1,r2])).drew,(HB.out.trans ((eZ w1 43 [0,0] [r1,r2]).mono HB.out.size)).drew⟩ ?_;generalize w1.heap.size=xb at *;rintro w2 ⟨hx,Ja,gV⟩;have q1:row? w2 xb 0 2=ae (ints [r1,r2]):=hx.bt rfl;have f1:fits w2 rb 0 2=aA:=Ja.fits 0 2 (by rw[bJ];decide);have HP:=af (Ja.fc [r1,r2] rfl);have HBP:Hid (Below w.heap.size w (putRow w2 rb 0 [r1,r2])):=lM gV (by omega) 0 _;clear hx Ja gV qw BO k0 k1 k2 k3
  go_wp2_with fail
  refine cA rfl rb 43 (ints [r1,r2]) (.bool is) _ rfl rfl HP.out Tryz.underlying43 rfl (by rw[bJ];exact dV) rfl ?_;rw[UQ.out];exact⟨rfl,HBP.out⟩
end
section
open Go.RowKit
def GF (h:Hd)(x:Hd×Hd):Bool:=decide (x.1=h)||decide (x.2=h)
theorem adw (a b:Hd):decide (hL a=hL b)=decide (a=b):=by rw[nJ,decide_eq_true_eq,decide_eq_true_eq];exact⟨W7,λe=>by rw[e]⟩
theorem SP (x v h:Hd)(hb:Nat)(w:ah)(hB:dq w hb 43 (ints (hL h))):Calls Tryz.prog 179 #[nw x,nw v,.pointer (ae ⟨hb,0,ai⟩)] w λe w'=>e=.returned (.bool (GF h (x,v)))/\Below w.heap.size w w':=by
 have HB:=af hB;clear hB;have heq: ∀(a b:Hd) (W:ah),(binOp .eql 43 (.agg (ints (hL a))) (.agg (ints (hL b)))).run Tryz.prog W=.ok (.bool (decide (a=b))) W:=λa b W=>by rw[xF _ _ rfl rfl W,adw]
 have h1:=heq x h;have h2:=heq v h;have HR:Hid (GF h (x,v)=(decide (x=h)||decide (v=h))):=rfl;clear heq
 go_enter Tryz.func179,Tryz.ntmps179
 go_upto_region 1 with(fail)
 refine cc (λw'=>dq w' (w.heap.size+1) 43 (ints (hL v))/\dq w' w.heap.size 43 (ints (hL x))/\Below w.heap.size w w') ⟨by have:=dq.new (w.alloc (.cells (ints (hL x)) 43)) 43 (ints (hL v));rwa[cQ]at this,(dq.new w _ _).alloc _,((Below.refl _ _).alloc (az _) _).alloc (by simp) _⟩ ?_
 rintro w1 ⟨hV,hX,lf⟩;have tu:=af lf;have q1:row? w1 (w.heap.size+1) 0 2=ae (ints (hL v)):=hV.bt rfl;have q2:row? w1 w.heap.size 0 2=ae (ints (hL x)):=hX.bt rfl;have q3:row? w1 hb 0 2=ae (ints (hL h)):=(HB.out.after lf).bt rfl;clear hV hX lf HB;generalize hL x=xs at *;generalize hL v=vs at *;generalize hL h=hs at *;generalize w.heap.size+1=vb at *;cases Cj:decide (x=h)
 ·rw[Cj]at h1 HR;clear Cj;generalize decide (v=h)=d2 at *
  go_wp2_with fail
  go_ret;exact⟨dv (by rw[HR.out];rfl),tu.out⟩
 ·rw[Cj]at h1 HR;clear Cj h2;generalize decide (v=h)=d2 at *
  go_wp2_with fail
  go_ret;exact⟨dv (by rw[HR.out];rfl),tu.out⟩
theorem Kc {κ ν:Type}[DecidableEq κ]{P:aS}{k:aF}{ek:κ->aq}{ev:ν->aq}{good:κ->Prop}{w:ah}(K:ni P k ek good){ops:Array Oper}{rest:List Oper}{o:Oper}{a:Act}{Q:Exit->Act->ah->Prop}(qv:o.guard=ai)(mo xo:cw)(t e:aF)(hop:o.op=Op.call {callee:=Callee.builtin Builtin.delete,args:= #[mo,xo],argTypes:= #[t,k]})(ht:P.underlying t=ae (.map k e))(b r:Nat)(m left:List (κ×ν))(hm:a.eval mo=.map (ae b))(h:dw ek ev good w b r m left)(x:κ)(hx:a.eval xo=ek x)(U1:good x)(XH:x∉bG left)(hK: ∀w',dw ek ev good w' b r (ep m x) left->cW (· =b) w w'->w'.heap.size=w.heap.size->wpList P ops Q rest (a.put o.dst (.tuple #[])) w'):wpList P ops Q (o::rest) a w:=by
 refine wpList_plain qv λK' jH=> ?_
 obtain⟨w',cG,h1,h2,h3⟩:=h.drop K ht U1 XH o.type;unfold Oper.wp;simp[execOp,hop,resolve,invoke,builtin,hm,hx,cG,dU];exact jH _ _ (hK w' h1 h2 h3)
def lP (m:jS)(h:Hd)(left:jS):jS:=m.filter λx=>decide (x.1∈bG left)|| !GF h x
theorem FG (m:jS)(h:Hd):lP m h m=m:=by unfold lP;rw[List.filter_eq_self];intro x hx;rw[decide_eq_true (show x.1∈bG m from aN.2 ⟨x,hx,rfl⟩)];rfl
theorem Ly (m:jS)(h:Hd):lP m h []=oA m h:=by unfold lP oA GF;apply List.filter_congr;intro x _;simp[bG]
theorem oo {left:jS}{x y:Hd}:y∈bG (ep left x)↔y∈bG left/\y≠x:=by
 unfold bG;simp only[aN];constructor
 ·rintro⟨p,hp,rfl⟩;have:=fT.1 hp;exact⟨⟨p,this.1,rfl⟩,this.2⟩
 ·rintro⟨⟨p,hp,rfl⟩,dQ⟩;exact⟨p,fT.2 ⟨hp,dQ⟩,rfl⟩
theorem I2 {m left:jS}{h x v:Hd}(hn:(bG m).Nodup)(hx:(x,v)∈m)(hg:GF h (x,v)=aw):lP m h (ep left x)=lP m h left:=by
 unfold lP;apply List.filter_congr;intro y hy;by_cases e:y.1=x
 ·have:y=(x,v):=oy hn y hy (x,v) hx e;rw[this,hg];simp
 ·congr 1;rw[nJ,decide_eq_true_eq,decide_eq_true_eq,oo];exact⟨λh=>h.1,λh=>⟨h,e⟩⟩
theorem I1 {m left:jS}{h x v:Hd}(hn:(bG m).Nodup)(hx:(x,v)∈m)(hg:GF h (x,v)=aA):ep (lP m h left) x=lP m h (ep left x):=by
 unfold lP ep;rw[List.filter_filter];apply List.filter_congr;intro y hy;by_cases e:y.1=x
 ·have:y=(x,v):=oy hn y hy (x,v) hx e;have h2:decide (y.1∈bG (ep left x))=aw:=by rw[decide_eq_false_iff_not,oo];exact λh=>h.2 e
  rw[show(List.filter (λp:Hd×Hd=> !decide (p.1=x)) left)=ep left x from rfl,h2,this,hg];simp
 ·have h2:decide (y.1∈bG (ep left x))=decide (y.1∈bG left):=by rw[nJ,decide_eq_true_eq,decide_eq_true_eq,oo];exact⟨λh=>h.1,λh=>⟨h,e⟩⟩
  rw[show(List.filter (λp:Hd×Hd=> !decide (p.1=x)) left)=ep left x from rfl,h2];simp[e]
theorem FC {G:Nat->Prop}{w0 w:ah}{l:List bT}{b hb:Nat}{m:jS}(hn:(bG m).Nodup)(h:Hd)(hI:In G w0 (zH b m::bg hb 43 (ints (hL h))::l) w):Calls Tryz.prog 178 #[.map (ae b),.func (.func 179) #[] #[.pointer (ae ⟨hb,0,ai⟩)]] w λe w'=>e=.returned (.tuple #[])/\In G w0 (zH b (oA m h)::bg hb 43 (ints (hL h))::l) w':=by
 have k9:=af hI;have HN:=af hn;clear hI hn
 go_enter Tryz.func178,Tryz.ntmps178
 go_wp2_with (at_range;go_loud (refine iT rfl _ 173 43 rfl Tryz.underlying173 b _ rfl (In.hZ k9.out) ?_))
 intro w6 hr6 Kt ZM;have kE:=af (In.DX k9.out hr6 Kt ZM);generalize w.heap.size=ri at *;clear hr6 Kt ZM k9
 go_wp2_with fail
 go_loopw [9] (λ_ w'=> ∃left,(∀q∈left,q∈m)/\In G w0 (ij nw nw (λ_=>True) b ri (lP m h left) left::bg hb 43 (ints (hL h))::l) w') (λ_ w'=>w'.rangeLeft b ri)
 case atStart=>exact⟨m,λ_ h=>h,by rw[FG];exact kE.out⟩
 case round=>
  clear kE;obtain⟨left,oB,hI⟩:=hrel;have HI:=af hI;have HS:=af oB;clear hI oB
  go_wp2_with (at_next;go_loud (refine kU Dk rfl _ rfl b ri _ left rfl (In.rangeAt HI.out) ?_ ?_))
  ·intro S5;subst S5;rw[Ly]at HI
   go_wp2_with fail
   go_end0
   exact⟨rfl,In.vJ HI.out⟩
  ·intro x1 x2 v1 v2 w7 hx GL Fh S9 sM ZF;have kE:=af (In.nG HI.out GL Fh);have HX:=af (HS.out _ hx);have xy:=af sM;have HXL:=af hx;clear GL Fh S9 sM hx;obtain⟨f1,f2⟩:=Ej w7 43 43 [0,0] [0,0] [x1,x2]
   go_upto_region 3 with(fail)
   refine cc (In G w0 (bg (w7.heap.size+1) 43 (ints [v1,v2])::bg w7.heap.size 43 (ints [x1,x2])::ij nw nw (λ_=>True) b ri (lP m h left) (ep left (x1,x2))::bg hb 43 (ints (hL h))::l)) (kE.out.J6 43 43 [0,0] [0,0] [x1,x2] [v1,v2] rfl rfl) ?_;clear f1 f2 ZF kE;generalize w7.heap.size+1=vb;generalize w7.heap.size=xb;intro w8 l9;have q1:row? w8 xb 0 2=ae (ints [x1,x2]):=l9.swap.blk.bt rfl;have q2:row? w8 vb 0 2=ae (ints [v1,v2]):=l9.blk.bt rfl;have hBH:=l9.fourth.blk;have pO:=af l9.third;clear l9
   go_wp2_with fail
   refine(SP (x1,x2) (v1,v2) h hb w8 hBH).mono ?_;rintro e w9 ⟨rfl,hb9⟩;have pZ:=af (pO.out.below hb9);have q1:row? w9 xb 0 2=ae (ints [x1,x2]):=pZ.out.third.blk.bt rfl;have uu:Hid (In G w0 (ij nw nw (λ_=>True) b ri (lP m h left) (ep left (x1,x2))::bg hb 43 (ints (hL h))::l) w9):=by have:=pZ.out.swap.drop.swap.drop;exact this
   clear hb9 pO q2 pZ;cases hg:GF h ((x1,x2),(v1,v2))
   ·have HK:=af (I2 (left:=left) HN.out HX.out hg);clear hg
    go_wp2_with fail
    go_roundw
    case rel=>exact⟨ep left (x1,x2),λq hq=>HS.out q (fT.1 hq).1,by rw[HK.out];exact uu.out⟩
    case measure=>rw[(In.rangeAt uu.out).count,(In.rangeAt HI.out).count];exact xy.out
   ·have HK:=af (I1 (left:=left) HN.out HX.out hg);have hnl:(x1,x2)∉bG (ep left (x1,x2)):=λh=>(oo.1 h).2 rfl
    clear hg
    go_wp2_with (at_delete;go_loud (refine Kc Dk rfl _ _ 173 43 rfl Tryz.underlying173 b ri _ _ rfl (In.rangeAt uu.out) (x1,x2) rfl trivial hnl ?_))
    intro xx h1 h2 h3;have uw:=af (In.JO uu.out h1 h2);rw[HK.out]at uw;clear h1 h2 h3 uu hnl
    go_wp2_with fail
    go_roundw
    case rel=>exact⟨ep left (x1,x2),λq hq=>HS.out q (fT.1 hq).1,uw.out⟩
    case measure=>rw[(In.rangeAt uw.out).count,(In.rangeAt HI.out).count];exact xy.out
theorem WG {G:Nat->Prop}{w0 w:ah}{l:List bT}{p:Nat}{m:jS}(h:In G w0 (jE p m::l) w)(c:Hd):Calls Tryz.prog 132 #[.pointer (ae ⟨p,0,ai⟩),nw c] w λe w'=>e=.returned (.tuple #[])/\In G w0 (jE p (oA m c)::l) w':=by
 obtain⟨hm,b,hI⟩:=h.tX;have HM:=af hm;have k9:=af hI;clear h hm hI;obtain⟨c1,c2⟩:=c;rw[jV]
 go_enter Tryz.func132,Tryz.ntmps132
 go_upto_region 1 with(fail)
 refine cc (In G w0 (bg w.heap.size 43 (ints [c1,c2])::bg p 175 #[.map (ae b)]::zH b m::l)) (k9.out.alloc 43 (ints [c1,c2])) ?_;generalize w.heap.size=cb;intro w1 hI;have k0:w1.cell? ⟨p,0,ai⟩=ae (.map (ae b)):=hI.swap.blk.cell 0;have HI:Hid (In G w0 (zH b m::bg cb 43 (ints (hL (c1,c2)))::bg p 175 #[.map (ae b)]::l) w1):=hI.third;clear hI k9
 go_wp2_with fail
 refine(FC HM.out.nodup (c1,c2) HI.out).mono ?_;rintro e w2 ⟨rfl,gX⟩;have gd:=af gX;clear gX HI k0
 go_wp2_with fail
 go_end0
 exact⟨rfl,In.pN (HM.out.gone _) (gd.out.third.swap.third.drop.swap)⟩
end
section
open Go.RowKit
theorem Ox {G:Nat->Prop}{w0 w:ah}{l:List bT}{p:Nat}{m:jS}(h:In G w0 (jE p m::l) w)(c:Hd):Calls Tryz.prog 70 #[.pointer (ae ⟨p,0,ai⟩),nw c] w λe w'=>e=.returned (.int .i64 (fG m c).2)/\In G w0 (jE p (fG m c).1::l) w':=by
 obtain⟨hm,b,hI⟩:=h.tX;have HM:=af hm;have k9:=af hI;clear h hm hI;obtain⟨c1,c2⟩:=c;rw[jV]
 go_enter Tryz.func70,Tryz.ntmps70
 go_upto_region 1 with(fail)
 refine cc (In G w0 (bg w.heap.size 43 (ints [c1,c2])::bg p 175 #[.map (ae b)]::zH b m::l)) (k9.out.alloc 43 (ints [c1,c2])) ?_;generalize w.heap.size=cb;intro w1 hI;have NM:=(Below.refl w1.heap.size w1).alloc (az _) (.cells #[.int .i64 0,.int .i64 0] 43);have ny:=hI.third.hZ;have k0:w1.cell? ⟨p,0,ai⟩=ae (.map (ae b)):=hI.swap.blk.cell 0;have k1:row? w1 cb 0 2=ae #[.int .i64 c1,.int .i64 c2]:=hI.blk.bt (xs:=[c1,c2]) rfl;have k2:row? (w1.alloc (.cells #[.int .i64 0,.int .i64 0] 43)) cb 0 2=ae #[.int .i64 c1,.int .i64 c2]:=(hI.blk.after NM).bt (xs:=[c1,c2]) rfl;have k3:(w1.alloc (.cells #[.int .i64 0,.int .i64 0] 43)).cell? ⟨p,0,ai⟩=ae (.map (ae b)):=(hI.swap.blk.after NM).cell 0;have qw:=qB ny (c1,c2) (Below.refl _ _).drew;have BO:=qB ny (c1,c2) (((Below.refl _ w1).alloc (az _) (.cells #[.int .i64 0,.int .i64 0] 43)).drew);have HI:=af hI;rw[jV]at qw BO;have UQ:Hid ((jP m (c1,c2)).2=(eG m (c1,c2)).isSome):=rfl;generalize jP m (c1,c2)=r at *;obtain⟨⟨r1,r2⟩,is⟩:=r;simp only[jV]at qw BO UQ;clear hI ny NM k9;have AJ:Hid (∀w2,w2=(putRow (w1.alloc (.cells (ints [0,0]) 43)) w1.heap.size 0 [r1,r2]).drew->In G w0 (bg p 175 #[.map (ae b)]::zH b m::bg cb 43 (ints [c1,c2])::l) w2):=λw2 e=>by rw[e];exact((HI.out.below (eZ w1 43 [0,0] [r1,r2]).drew).perm ((cB _ _ _).trans ((cB _ _ _).cons _)))
 go_region
 all_goals
  go_upto_region 2 with(fail)
  refine cc (In G w0 (bg p 175 #[.map (ae b)]::zH b m::bg cb 43 (ints [c1,c2])::l)) (AJ.out _ rfl) ?_;intro w2 gX;have gd:=af gX;have k4:w2.cell? ⟨p,0,ai⟩=ae (.map (ae b)):=gX.blk.cell 0;have k5:row? w2 cb 0 2=ae #[.int .i64 c1,.int .i64 c2]:=gX.third.blk.bt (xs:=[c1,c2]) rfl;clear gX qw BO k0 k1 k2 k3 AJ HI;cases is
  ·have HL:Hid (fG m (c1,c2)=(m,5)):=by unfold Hid fG;rw[<-UQ.out];rfl
   go_wp2_with fail
   go_ret;rw[HL.out];exact⟨rfl,In.pN HM.out gd.out.third.drop⟩
  ·have HL:Hid (fG m (c1,c2)=(ep m (c1,c2),0)):=by unfold Hid fG;rw[<-UQ.out];rfl
   go_wp2_with fail
   go_still_tail 5,(by kernel_rfl)
   change wpList _ _ _ _ _ w2.drew;have gm:=af gd.out.drew;clear gd k4 k5;generalize w2.drew=w3 at *
   go_wp2_with (at_delete;go_loud (refine vL Dk rfl _ _ 173 43 rfl Tryz.underlying173 b m rfl gm.out.swap.hZ (c1,c2) rfl trivial ?_))
   intro w4 h1 h2 h3;have iY:=af (In.o6 gm.out.swap h1 h2);clear h1 h2 h3
   go_wp2_with fail
   go_ret;rw[HL.out];have wa:=HM.out.loosen (c1,c2);rw[HL.out]at wa;exact⟨rfl,In.pN wa iY.out.swap.third.drop⟩
end
section
open Go.RowKit
def acZ (A B:bT):bT where
 at_ w F:=Sep [A,B] w F
 frame h ho hd:=h.frame ho hd
 cut h hd:=h.cut hd
section
variable {A B:bT} {l:List bT} {F:Nat->Prop} {w0 w w':ah}
theorem In.join (h:In F w0 (A::B::l) w):In F w0 (acZ A B::l) w:=by
 obtain⟨⟨F1,F2,h1,⟨F3,F4,g1,g2,g3,g4⟩,h3,h4⟩,ho⟩:=h;refine⟨⟨λk=>F1 k\/F3 k,F4,⟨F1,F3,h1,⟨F3,λ_=>False,g1,trivial,λ_ _ h=>h,λk h=>by rcases h with h|h;exact h;exact h.elim⟩,λk a b=>h3 k a (g4 k (br b)),λk h=>h⟩,g2,λk a b=> ?_,λk h=> ?_⟩,ho⟩
 ·rcases a with a|a
  ·exact h3 k a (g4 k (bR b))
  ·exact g3 k a b
 ·rcases h with(h|h)|h
  ·exact h4 k (br h)
  ·exact h4 k (bR (g4 k (br h)))
  ·exact h4 k (bR (g4 k (bR h)))
theorem In.split (h:In F w0 (acZ A B::l) w):In F w0 (A::B::l) w:=by
 obtain⟨⟨F1,F2,⟨F3,F4,g1,⟨F5,F6,e1,_,e3,e4⟩,g3,g4⟩,h2,h3,h4⟩,ho⟩:=h;refine⟨⟨F3,λk=>F5 k\/F2 k,g1,⟨F5,F2,e1,h2,λk a b=>h3 k (g4 k (bR (e4 k (br a)))) b,λk h=>h⟩,λk a b=> ?_,λk h=> ?_⟩,ho⟩
 ·rcases b with b|b
  ·exact g3 k a (e4 k (br b))
  ·exact h3 k (g4 k (br a)) b
 ·rcases h with h|h|h
  ·exact h4 k (br (g4 k (br h)))
  ·exact h4 k (br (g4 k (bR (e4 k (br h)))))
  ·exact h4 k (bR h)
theorem In.added {p o n n' size:Nat}{T E:aF}{cs:Array aq}{v:aq}{xs xs':List aq}(h:In F w0 (bg p T cs::dP E size v n xs::l) w)(he:nS w w' p T cs o v E size n' xs'): ∃v',In F w0 (bg p T (cs.setIfInBounds o v')::dP E size v' n' xs'::l) w':=by
 obtain⟨v',h1,h2,h3,h4,h5⟩:=he;obtain⟨F1,hA,hF,jA⟩:=h.join.open_;obtain⟨G1,G2,⟨g1,g1p⟩,⟨G3,G4,g2,_,g3,g4⟩,g5,g6⟩:=hA;refine⟨v',In.split (jA (A':=acZ (bg p T (cs.setIfInBounds o v')) (dP E size v' n' xs')) ?_ (h5.mono λk _ hk=> ?_))⟩
 ·refine⟨(· =p),λk=>v'.ownBlock=ae k,⟨h1,rfl⟩,⟨λk=>v'.ownBlock=ae k,λ_=>False,⟨h2,λk hk=>hk⟩,trivial,λ_ _ h=>h,λk h=>by rcases h with h|h;exact h;exact h.elim⟩,λk a b=>h3 (by rw[<-a];exact b),λk hk=> ?_⟩;rcases hk with hk|hk
  ·rw[hk];exact br (g6 p (br g1p))
  ·rcases h4 k hk with h|h
   ·exact br (g6 k (bR (g4 k (br (g2.2 k h)))))
   ·exact bR ⟨h,(lq h2 k hk).2⟩
 ·rcases hk with hk|hk
  ·rw[hk];exact g6 p (br g1p)
  ·exact g6 k (bR (g4 k (br (g2.2 k hk))))
theorem In.sliceAt {p n size:Nat}{T E:aF}{cs:Array aq}{v:aq}{xs:List aq}(h:In F w0 (bg p T cs::dP E size v n xs::l) w):dq w p T cs/\w.ownsRow 0 E size v n xs/\v.ownBlock≠ae p:=by obtain⟨⟨F1,F2,⟨h1,h1p⟩,⟨F3,F4,g1,g2,g3,g4⟩,h3,h4⟩,ho⟩:=h;exact⟨h1,g1.1,λe=>h3 p h1p (g4 p (br (g1.2 p e)))⟩
theorem iX.parts {α:Type}{T E:aF}{size:Nat}{enc:α->List aq}{p:Nat}{xs:List α}(h:iX T E size enc w p xs F): ∃v,dq w p T #[v]/\w.ownsRow 0 E size v xs.length (xs.flatMap enc)/\v.ownBlock≠ae p/\ ∀(ys:List α) (w':ah),nS w w' p T #[v] 0 v E size ys.length (ys.flatMap enc)->iX T E size enc w' p ys (IA F w w')/\cW F w w':=by
 obtain⟨v,h1,h2,h3,h4,h5⟩:=h;refine⟨v,h1,h2,h3,λys w' he=> ?_⟩;obtain⟨v',g1,g2,g3,g4,g5⟩:=he;refine⟨⟨v',g1,g2,g3,br h4,λk hk=> ?_⟩,g5.mono λk _ hk=> ?_⟩
 ·rcases g4 k hk with h|h
  ·exact br (h5 k h)
  ·exact bR ⟨h,(lq g2 k hk).2⟩
 ·rcases hk with hk|hk
  ·rw[hk];exact h4
  ·exact h5 k hk
end
structure cz where
 h:Int×Int
 b:aQ
def cz.list (r:cz):List Int:=[r.h.1,r.h.2]++r.b.list
def aP:cz:=⟨(0,0),⟨0,[0,0,0,0,0,0,0,0]⟩⟩
def zU (x:Int):List aq:=[.int .i64 x]
abbrev vw (b:Nat):aq:=.pointer (ae ⟨b,0,ai⟩)
@[go_sem] theorem agV (b:Nat):vw b=.pointer (ae ⟨b,0,ai⟩):=rfl
def jw (K:Int):List Nat:=kinds K.toNat
theorem n4 (K:Int):(jw K).Nodup:=rC _
def cJ (rows:List cz)(k:Nat):List Int:=rows.map λr=>r.b.v.getD k 0
abbrev kD (b:Nat)(xs:List Int):bT:=Col 218 3 1 zU b xs
abbrev PtrMap (t:Nat)(m:List (Int×Nat)):bT:=ux (aZ .i64) vw nN t m
def AN (K:Int)(rows:List cz):Prop:= ∀r∈rows,r.b.k=K/\r.b.v.length=8/\ ∀k,k<8->k∉jw K->r.b.v.getD k 0=0
def lF (p:Nat)(K:Int)(hv:aq)(mb:Nat)(cb:Nat->Nat)(rows:List cz)(col:Nat->List Int):List bT:=[bg p 215 #[.int .i64 K,hv,.map (ae mb)],dP 43 2 hv rows.length (rows.flatMap λr=>hC r.h),PtrMap mb ((jw K).map λk:Nat=>((k:Int),cb k))]++(jw K).map λk=>kD (cb k) (col k)
def nI (p:Nat)(K:Int)(rows:List cz):bT where
 at_ w F:=AN K rows/\(0<=K/\K<=255)/\ ∃hv mb cb,Sep (lF p K hv mb cb rows (cJ rows)) w F
 frame h ho hd:=by obtain⟨h1,h2,hv,mb,cb,hs⟩:=h;exact⟨h1,h2,hv,mb,cb,hs.frame ho hd⟩
 cut h hd:=by obtain⟨h1,h2,hv,mb,cb,hs⟩:=h;exact⟨h1,h2,hv,mb,cb,hs.cut hd⟩
theorem In.Ju {F:Nat->Prop}{w0 w:ah}{l:List bT}{p:Nat}{K:Int}{rows:List cz}(h:In F w0 (nI p K rows::l) w):AN K rows/\(0<=K/\K<=255)/\ ∃hv mb cb,In F w0 (lF p K hv mb cb rows (cJ rows)++l) w:=by obtain⟨⟨F1,F2,⟨hT,hK,hv,mb,cb,hs⟩,h2,h3,h4⟩,ho⟩:=h;exact⟨hT,hK,hv,mb,cb,(Sep.join hs h2 h3).cut λk _ hk=>h4 k hk,ho⟩
theorem In.RN {F:Nat->Prop}{w0 w:ah}{l:List bT}{p:Nat}{K:Int}{rows:List cz}{hv:aq}{mb:Nat}{cb:Nat->Nat}(hT:AN K rows)(hK:0<=K/\K<=255)(h:In F w0 (lF p K hv mb cb rows (cJ rows)++l) w):In F w0 (nI p K rows::l) w:=by obtain⟨hs,ho⟩:=h;obtain⟨F1,F2,h1,h2,h3,h4⟩:=Sep.part hs;exact⟨⟨F1,F2,⟨hT,hK,hv,mb,cb,h1⟩,h2,h3,h4⟩,ho⟩
end
section
open Go.RowKit
structure tB (w:ah) (p:Nat) (K:Int) (rows:List cz) (hv:aq) (mb:Nat) (cb:Nat->Nat):Prop where
 t:AN K rows
 k:0<=K/\K<=255
 b:dq w p 215 #[.int .i64 K,hv,.map (ae mb)]
 o:w.ownsRow 0 43 2 hv rows.length (rows.flatMap λr=>hC r.h)
 m:ey (aZ .i64) vw nN w mb ((jw K).map λk:Nat=>((k:Int),cb k))
 c: ∀k∈jw K,∃F,iX 218 3 1 zU w (cb k) (cJ rows k) F
theorem tB.after {w w':ah}{p:Nat}{K:Int}{rows:List cz}{hv:aq}{mb:Nat}{cb:Nat->Nat}(h:tB w p K rows hv mb cb)(hb:Below w.heap.size w w'):tB w' p K rows hv mb cb:=⟨h.t,h.k,h.b.after hb,nY h.o hb,h.m.after hb,λk hk=>by obtain⟨F,hc⟩:=h.c k hk;exact⟨F,hc.after hb⟩⟩
theorem nI.see {w:ah}{p:Nat}{K:Int}{rows:List cz}{F:Nat->Prop}(h:(nI p K rows).at_ w F): ∃hv mb cb,tB w p K rows hv mb cb:=by obtain⟨hT,hK,hv,mb,cb,hs⟩:=h;have hI:In F w ([bg p 215 #[.int .i64 K,hv,.map (ae mb)],dP 43 2 hv rows.length (rows.flatMap λr=>hC r.h),PtrMap mb ((jw K).map λk:Nat=>((k:Int),cb k))]++(jw K).map λk=>kD (cb k) (cJ rows k)) w:=In.start hs;exact⟨hv,mb,cb,hT,hK,In.blk hI,(In.sliceAt hI).2.1,(In.third hI).hZ,λk hk=>hI.YD (n4 K) hk⟩
theorem aei {w:ah}{g o n:Nat}{x:Array aq}(h:row? w g o n=ae x):g<w.heap.size:=by
 unfold row? at h
 split at h
 ·rename_i hg;exact(aL.1 hg).1
 ·cases h
def l0 (n:Nat)(row:Int):Bool:=decide (0<=row)&&decide (row<n)
theorem GX {p:Nat}{K:Int}{rows:List cz}{hv:aq}{mb:Nat}{cb:Nat->Nat}(row:Int)(w:ah)(h:tB w p K rows hv mb cb)(hl:rows.length<=100000):Calls Tryz.prog 137 #[.pointer (ae ⟨p,0,ai⟩),.int .i64 row] w λe w'=>e=.returned (.bool (l0 rows.length row))/\w=w':=by
 obtain⟨A,c,rfl,_,_,_⟩:=cH h.o;have c1:w.cell? ⟨p,1,ai⟩=ae (.slice A rows.length c):=h.b.cell 1;clear h;by_cases h0:0<=row
 ·have hd:Hid (l0 rows.length row=decide (row<rows.length)):=by unfold Hid l0;rw[decide_eq_true h0];rfl
  have hb:decide (0<=row)=aA:=by simpa using h0
  go_enter Tryz.func137,Tryz.ntmps137
  go_wp2_with fail
  go_ret;exact⟨dv hd.out.symm,rfl⟩
 ·have hd:Hid (l0 rows.length row=aw):=by unfold Hid l0;rw[decide_eq_false h0];rfl
  have hb:decide (0<=row)=aw:=by simpa using h0
  go_enter Tryz.func137,Tryz.ntmps137
  go_wp2_with fail
  go_ret;exact⟨dv hd.out.symm,rfl⟩
def vC (rows:List cz)(row:Int):cz×Int:=if l0 rows.length row then(rows.getD row.toNat aP,0)else(aP,5)
theorem YJ {K:Int}{rows:List cz}(h:AN K rows)(row:Int):(vC rows row).1.b.v.length=8:=by
 unfold vC
 split
 ·rename_i hr
  simp only[l0,aM,decide_eq_true_eq]at hr;have bE:row.toNat<rows.length:=by omega
  simp only[bp,ao bE,bI];exact(h _ (aU bE)).2.1
 ·rfl
theorem Nz {p:Nat}{K:Int}{rows:List cz}{hv:aq}{mb:Nat}{cb:Nat->Nat}(row:Int)(w:ah)(h:tB w p K rows hv mb cb)(hl:rows.length<=100000):Calls Tryz.prog 73 #[.pointer (ae ⟨p,0,ai⟩),.int .i64 row] w λe w'=>e=.returned (.tuple #[.agg (ints (vC rows row).1.list),.int .i64 (vC rows row).2])/\Below w.heap.size w w':=by
 have HS:=af h;clear h
 go_enter Tryz.func73,Tryz.ntmps73
 go_upto_region 1 with(fail)
 refine cc (λw'=>dq w' w.heap.size 50 (ints aP.list)/\Below w.heap.size w w') ⟨dq.new _ _ _,(Below.refl _ _).alloc (az _) _⟩ ?_;rintro w1 ⟨vX,lf⟩;have tu:=af vX;have yi:=af lf;have Zw:=af (HS.out.after lf);clear vX lf
 go_wp2_with fail
 refine(GX row w1 Zw.out hl).mono ?_;rintro e w' ⟨rfl,rfl⟩;cases hr:l0 rows.length row
 ·have HR:Hid (vC rows row=(aP,5)):=by unfold Hid vC;rw[hr];rfl
  have ff:fits w1 w.heap.size 0 11=aA:=tu.out.fits 0 11 (by rw[bJ];decide);clear hr
  go_wp2_with fail
  refine cA rfl w.heap.size 50 (ints aP.list) (.int .i64 5) _ rfl rfl (tu.out.fc _ rfl) Tryz.underlying50 rfl (by rw[bJ];exact ta) rfl ?_;rw[HR.out];exact⟨rfl,yi.out.trans (lM (Below.refl w.heap.size w1) (az _) 0 _)⟩
 ·have HR:Hid (vC rows row=(rows.getD row.toNat aP,0)):=by unfold Hid vC;rw[hr];rfl
  simp only[l0,aM,decide_eq_true_eq]at hr;obtain⟨i,rfl⟩: ∃i:Nat,row=i:=⟨row.toNat,by omega⟩;have wL:i<rows.length:=by omega
  have hii:(i:Int)<rows.length:=by omega
  rw[dL]at HR;have HT:=af (HS.out.t _ (aU wL));obtain⟨A,c,rfl,wK,vZ,hA⟩:=cH Zw.out.o;obtain⟨g,rfl⟩:=hA (by omega);have Ck: ∀r:cz,(hC r.h).length=2:=λ_=>rfl
  have q1:row? w1 g (i *2) 2=ae (ints (hL (rows.getD i aP).h)):=by rw[lg Zw.out.o wL,lO Ck rows i wL];simp[bp,ao wL];rfl
  have c1:w1.cell? ⟨p,1,ai⟩=ae (.slice (ae ⟨g,0,ai⟩) rows.length c):=Zw.out.b.cell 1;have c0:w1.cell? ⟨p,0,ai⟩=ae (.int .i64 K):=Zw.out.b.cell 0;have qv:rows.getD i aP=rows[i]:=by simp[bp,ao wL]
  rw[<-qv]at HT;have HRW:Hid (∀k,(cJ rows k).getD i 0=(rows.getD i aP).b.v.getD k 0):=λk=>by unfold cJ;simp only[bp,dK,ao wL,eY,bI]
  generalize rows.getD i aP=r at *;obtain⟨⟨r1,r2⟩,b⟩:=r;change row? w1 g (i *2) 2=ae #[.int .i64 r1,.int .i64 r2]at q1;clear hr hA Ck qv;have LS:=qV _ _ c1;have I8:=aei q1;generalize hX:w1.alloc (.cells (ints aP.list) 50)=w2;have gV:Below w1.heap.size w1 w2:=by rw[<-hX];exact(Below.refl _ _).alloc (az _) _
  have q1':row? w2 g (i *2) 2=ae #[.int .i64 r1,.int .i64 r2]:=(iR gV I8 _ _).trans q1;have c1':w2.cell? ⟨p,1,ai⟩=ae (.slice (ae ⟨g,0,ai⟩) rows.length c):=(gV.cell (p:=⟨p,1,ai⟩) LS).trans c1;have c0':w2.cell? ⟨p,0,ai⟩=ae (.int .i64 K):=(gV.cell (p:=⟨p,0,ai⟩) LS).trans c0;have hX':w1.alloc (.cells #[.int .i64 0,.int .i64 0,.int .i64 0,.int .i64 0,.int .i64 0,.int .i64 0,.int .i64 0,.int .i64 0,.int .i64 0,.int .i64 0,.int .i64 0] 50)=w2:=hX;have hBn:dq w2 w1.heap.size 50 (ints aP.list):=by rw[<-hX];exact dq.new _ _ _
  have f2:fits w2 w1.heap.size 0 11=aA:=hBn.fits 0 11 (by rw[bJ];decide);have HBn:=af (hBn.fc [r1,r2,K,0,0,0,0,0,0,0,0] rfl);have wR:=af gV;clear hX hBn gV
  go_wp2_with fail
  go_region
  have UP:Hid (Below w.heap.size w (putRow w2 w1.heap.size 0 [r1,r2,K,0,0,0,0,0,0,0,0]).drew):=(yi.out.trans ((lM wR.out (az _) 0 _).mono yi.out.size)).drew;have HRs:Hid (dq (putRow w2 w1.heap.size 0 [r1,r2,K,0,0,0,0,0,0,0,0]).drew w.heap.size 50 (ints aP.list)):=((tu.out.after wR.out).yZ 0 _ (by have:=tu.out.lt;omega)).drew;have acU:Hid (dq (putRow w2 w1.heap.size 0 [r1,r2,K,0,0,0,0,0,0,0,0]).drew w1.heap.size 50 (ints [r1,r2,K,0,0,0,0,0,0,0,0])):=HBn.out.drew;have sN:Hid (w.heap.size<w1.heap.size):=tu.out.lt;generalize (putRow w2 w1.heap.size 0 [r1,r2,K,0,0,0,0,0,0,0,0]).drew=w3 at *;clear HBn wR hX' c0' c1' q1' f2 Zw c0 c1 q1;generalize w1.heap.size=rb at *;have HS3:=af (HS.out.after UP.out);have c1:w3.cell? ⟨p,2,ai⟩=ae (.map (ae mb)):=HS3.out.b.cell 2
  go_wp2_with (at_range;go_loud (refine iT rfl _ 213 216 rfl Tryz.underlying213 mb _ rfl HS3.out.m ?_))
  intro w4 hr4 UZ hs4;have HRA:=af hr4;have ae4:=af (HRs.out.after UZ);have aeW:=af (acU.out.after UZ);have HO4:Hid (Below w.heap.size w w4):=UP.out.trans (UZ.mono UP.out.size);have hri:Hid (rb<w3.heap.size):=acU.out.lt;clear hr4 UZ hs4 HS3 c1 HRs acU UP;generalize w3.heap.size=ri at *
  go_wp2_with fail
  go_loopw [7] (λ_ w'=> ∃left vs,dw (aZ .i64) vw nN w' mb ri ((jw K).map λk:Nat=>((k:Int),cb k)) left/\dq w' w.heap.size 50 (ints aP.list)/\dq w' rb 50 (ints ([r1,r2,K]++vs))/\vs.length=8/\(∀k,k<8->vs.getD k 0=if(k:Int)∈bG left\/k∉jw K then 0 else b.v.getD k 0)/\Below w.heap.size w w') (λ_ w'=>w'.rangeLeft mb ri)
  case atStart=>
   refine⟨_,[0,0,0,0,0,0,0,0],HRA.out,ae4.out,aeW.out,rfl,λk hk=> ?_,HO4.out⟩;have h0:([0,0,0,0,0,0,0,0]:List Int).getD k 0=0:=by
    match k,hk with
    |0,_|1,_|2,_|3,_|4,_|5,_|6,_|7,_=>rfl
   rw[h0];by_cases ZH:k∈jw K
   ·rw[if_pos (br (by simp only[bG,List.map_map];exact aN.2 ⟨k,ZH,rfl⟩))]
   ·rw[if_pos (bR ZH)]
  case round=>
   clear HRA ae4 aeW HO4;obtain⟨left,vs,h1,h2,h3,h4,h5,h6⟩:=hrel;have H1:=af h1;have H2:=af h2;have H3:=af h3;have H5:=af h5;have H6:=af h6;have U':=af h4;clear h1 h2 h3 h4 h5 h6
   go_wp2_with (at_next;go_loud (refine kU rV rfl _ rfl mb ri _ left rfl H1.out ?_ ?_))
   ·intro S5;subst S5;have hvs:vs=b.v:=by
     apply lJ;intro j;have Tc:=U'.out;have U0:b.v.length=8:=HT.out.2.1;by_cases hj:j<8
     ·have h1:=H5.out j hj;have h2:j∉jw K->b.v.getD j 0=0:=HT.out.2.2 j hj;simp only[bp,ao (show j<vs.length by omega),ao (show j<b.v.length by omega),bI]at h1 h2⊢;by_cases U6:j∈jw K
      ·rw[if_neg (by rintro(hm|hm);simp[bG]at hm;exact hm U6)]at h1;rw[h1]
      ·rw[if_pos (bR U6)]at h1;rw[h1,h2 U6]
     ·rw[je (by omega),je (by omega)]
    subst hvs;have hk:b.k=K:=HT.out.1;have acy:[r1,r2,K]++b.v=cz.list ⟨(r1,r2),b⟩:=by rw[<-hk];rfl
    have HBB:=H3.out;rw[acy]at HBB;have hlen:(cz.list ⟨(r1,r2),b⟩).length=11:=by have:=U'.out;simp[cz.list,aQ.list,this]
    have q1:row? wr rb 0 11=ae (ints (cz.list ⟨(r1,r2),b⟩)):=HBB.bt hlen;have f1:fits wr w.heap.size 0 11=aA:=H2.out.fits 0 11 (by rw[bJ];decide);have xy:=af hlen;have HRS:Hid (dq (putRow wr w.heap.size 0 (cz.list ⟨(r1,r2),b⟩)) w.heap.size 50 (ints (cz.list ⟨(r1,r2),b⟩))):=H2.out.fc _ hlen;clear hk acy HBB;generalize Q7:cz.list ⟨(r1,r2),b⟩=xs at *;have HXS:=af Q7;clear Q7
    go_wp2_with fail
    refine cA rfl w.heap.size 50 (ints xs) (.int .i64 0) _ rfl rfl HRS.out Tryz.underlying50 rfl (by rw[bJ,xy.out];exact ta) rfl ?_;rw[HR.out];exact⟨by rw[<-HXS.out],lM H6.out (az _) 0 _⟩
   ·intro x v w7 hx GL Fh S9 sM ZF;obtain⟨k,hk,hke⟩:=aN.1 (H1.out.sub _ hx);injection hke with e1 e2
    subst e1;subst e2;have sK:k<8:=by have:=(cu.1 hk).1;simpa using this
    have xH:(k:Int)<8:=by omega
    have XG:w.heap.size<=ri:=by have:=sN.out;have:=hri.out;omega
    have hb7:Below w.heap.size w w7:=H6.out.trans (Fh.below (B:=w.heap.size) H6.out.size λq _ e=>by rw[e];exact XG);have hS7:=HS.out.after hb7;obtain⟨F1,hC⟩:=hS7.c k hk;obtain⟨A3,c3,f1,f2,f3,f4,f5,f6,f7,f8⟩:=hC.slice;have rh:(cJ rows k).length=rows.length:=by unfold cJ;rw[List.length_map]
    obtain⟨A4,c4,hA4,_,_,hA5⟩:=cH f5;injection hA4 with e3 e4 e5
    obtain⟨g3,A7⟩:=hA5 (by omega);have e6:A3=ae ⟨g3,0,ai⟩:=e3.trans A7;subst e6;have hfi: ∀x:Int,(zU x).length=1:=λ_=>rfl
    have d1:w7.cell? ⟨g3,i,ai⟩=ae (.int .i64 (b.v.getD k 0)):=by rw[World.ownsRow.cellAt f5 i (by rw[rh];omega),<-Nat.mul_one i,<-kW (i *1),qm hfi (cJ rows k) i 0 (by rw[rh];omega) (by omega),<-HRW.out k];simp[bp,ao (show i<(cJ rows k).length by rw[rh];omega),zU]
    rw[rh]at f1;have SS:=H2.out;have zC:=Fh.blk H3.out (λe=>by have:=hri.out;omega);have afq:=Fh.blk H2.out (λe=>by have:=sN.out;have:=hri.out;omega);have c2:w7.frozen? ⟨rb,1+1+1+k,ai⟩=aw:=zC.frozen _;have hvk:vs.length=8:=U'.out;have c3:w7.cell? ⟨rb,1+1+1+k,ai⟩=ae (.int .i64 (vs.getD k 0)):=by rw[zC.cell,kM,show 1+1+1+k=k+3 from by omega];simp[bp,ao (show k<vs.length by omega)]
    have HR7:=af GL;have Zs:=af zC;have wR:=af afq;have HB7:=af hb7;have HX:=af hx;have HLT:=af sM;have Zu:=af hk;clear GL Fh S9 sM hx hk hC f2 f3 f4 f5 f6 f7 f8 hA5 SS zC afq hS7 hb7 rh hvk e4 e3 e5 A7;obtain⟨y,hy⟩: ∃y,b.v.getD k 0=y:=⟨_,rfl⟩;rw[hy]at d1;have HY:=af hy;clear hy;generalize vs.getD k 0=y0 at c3
    go_wp2_with fail
    have hmb:=HS.out.m.lt;have hO8:cW (· =rb) w7 (w7.setCell ⟨rb,3+k,ai⟩ (.int .i64 y)):=(cW.refl (F:=(· =rb))).setCell (g:=rb) (br rfl) _ _;have HR8:=af (HR7.out.only hO8 (by have:=sN.out;omega) (by have:=hri.out;omega))
    go_roundw
    case rel=>
     refine⟨ep left (k:Int),vs.set k y,HR8.out,wR.out.FD (by have:=sN.out;omega) _ _,?_,by rw[ew];exact U'.out,λj hj=> ?_,HB7.out.setCell (p:=⟨rb,3+k,ai⟩) (by have:=sN.out;simp;omega) _⟩
     ·have:=Zs.out.set (3+k) (.int .i64 y);rw[ints_set]at this;have e:([r1,r2,K]++vs).set (3+k) y=[r1,r2,K]++vs.set k y:=by rw[nP _ _ (by simp)];simp
      rw[e]at this;exact this
     ·rw[uZ];by_cases tQ:k=j
      ·subst tQ;rw[if_pos ⟨rfl,by rw[U'.out];omega⟩,if_neg]
       ·exact HY.out.symm
       ·rintro(hm|hm)
        ·obtain⟨q,hq,e⟩:=aN.1 hm;exact(fT.1 hq).2 e
        ·exact hm Zu.out
      ·rw[if_neg (λh=>tQ h.1),H5.out j hj];have:(j:Int)∈bG (ep left (k:Int))↔(j:Int)∈bG left:=by
        constructor
        ·intro hm;obtain⟨q,hq,e⟩:=aN.1 hm;exact aN.2 ⟨q,(fT.1 hq).1,e⟩
        ·intro hm;obtain⟨q,hq,e⟩:=aN.1 hm;exact aN.2 ⟨q,fT.2 ⟨hq,by simp only[e];omega⟩,e⟩
       simp only[this]
    case measure=>rw[HR8.out.count,H1.out.count];exact HLT.out
end
section
open Go.RowKit
def WI (n:Nat)(xs:List Int):List Int:=(xs++bZ n 0).take n
theorem WJ (n:Nat)(xs:List Int):(WI n xs).length=n:=by unfold WI;rw[dW,bM,List.length_replicate];omega
theorem QF {n:Nat}{xs:List Int}(h:xs.length=n):WI n xs=xs:=by unfold WI;rw[List.take_append_of_le_length (by omega),<-h,cD]
def uF (r:cz):List Int:=WI 11 r.list
def D2 (r:cz):List aq:=(uF r).map (aZ .i64)
theorem M7 (r:cz):(uF r).length=11:=WJ _ _
theorem D3 (r:cz):(D2 r).length=11:=by unfold D2;rw[List.length_map,M7]
theorem RF {r:cz}(h:r.b.v.length=8):uF r=r.list:=QF (by simp[cz.list,aQ.list,h])
abbrev cE (v:aq)(rows:List cz):bT:=dP 50 11 v rows.length (rows.flatMap D2)
theorem TY:(Tryz.prog.info? 50).map (λi=>(i.zero,i.size,i.bytes))=ae (ae (.agg (ints aP.list)),11,88):=by kernel_rfl
theorem In.YK {F:Nat->Prop}{w0 w:ah}{l:List bT}{v:aq}{rows:List cz}(h:In F w0 (cE v rows::l) w): ∃A c,v=.slice A rows.length c/\rows.length<=c/\c<=maxLen/\ ∀k,k<rows.length-> ∃g,A=ae ⟨g,0,ai⟩/\row? w g (k *11) 11=ae (ints (uF (rows.getD k aP))):=by
 obtain⟨F1,hA⟩:=h.head;have ho:w.ownsRow 0 50 11 v rows.length (rows.flatMap D2):=hA.1;obtain⟨A,c,rfl,wK,vZ,hg⟩:=cH ho;refine⟨A,c,rfl,wK,vZ,λk hk=> ?_⟩;obtain⟨g,rfl⟩:=hg (by omega);refine⟨g,rfl,?_⟩;rw[lg ho hk,lO D3 rows k hk];simp[bp,ao hk]
 rfl
end
section
open Go.RowKit
theorem TB {w:ah}{B:Nat}{e:aF}{size n c:Nat}{A:Option Addr}{xs:List aq}(h:w.ownsRow B e size (.slice A n c) n xs):Reads w w.heap.size size A n xs/\((A=ai/\n=0/\c=0)\/ ∃b o,A=ae ⟨b,o,ai⟩):=by
 refine⟨Reads.Ya h,?_⟩;rcases h.2 with⟨e1,h0⟩|⟨g,cap,cur,e1,_⟩
 ·injection e1 with e1 e2 e3;exact br ⟨e1,h0,e3⟩
 ·injection e1 with e1 e2 e3;exact bR ⟨g,0,e1⟩
theorem ad8 (hs:List (Int×Int)): ∀u∈hs.flatMap hC,u.oneCell'=aA:=by intro u hu;obtain⟨h,_,hu⟩:=List.mem_flatMap.1 hu;simp[hC]at hu;rcases hu with rfl|rfl<;>rfl
theorem J8 {p:Nat}{K:Int}{rows:List cz}{hv:aq}{mb:Nat}{cb:Nat->Nat}(w:ah)(h:tB w p K rows hv mb cb)(hl:rows.length<=100000):Calls Tryz.prog 96 #[.pointer (ae ⟨p,0,ai⟩)] w λe w'=> ∃v,e=.returned v/\w'.ownsRow w.heap.size 43 2 v rows.length (rows.flatMap λr=>hC r.h)/\Below w.heap.size w w':=by
 obtain⟨A,c,rfl,_,_,_⟩:=cH h.o;have c1:w.cell? ⟨p,1,ai⟩=ae (.slice A rows.length c):=h.b.cell 1;have HO:=af (TB h.o);have H1:Hid (∀u∈rows.flatMap (λr=>hC r.h),u.oneCell'=aA):=by intro u hu;obtain⟨r,hr,hu⟩:=List.mem_flatMap.1 hu;exact ad8 [r.h] u (by simpa using hu)
 clear h
 go_enter Tryz.func96,Tryz.ntmps96
 go_wp2_with fail
 refine(BI A rows.length c _ w w.heap.size HO.out.1 H1.out HO.out.2 (by omega)).mono ?_;rintro e w1 ⟨v,rfl,ho,hb⟩;have HR:=af ho;have HB:=af hb;clear ho hb
 go_wp2_with fail
 go_ret;exact⟨v,rfl,HR.out,HB.out⟩
theorem NH (w:ah):(zeroValue 216).run Tryz.prog w=.ok (.pointer ai) w:=by kernel_rfl
def ofR (K kind:Int):Option Nat×Int:=if 0<=kind/\kind<8 then if kind.toNat∈jw K then(ae kind.toNat,0)else(ai,5)else(ai,1)
def Wm (cb:Nat->Nat):Option Nat->aq
 |some k=>vw (cb k)
 |none=>.pointer ai
theorem X' (K kind:Int):(ofR K kind=(ai,1)/\ ¬(0<=kind/\kind<8))\/ ∃k:Nat,kind=k/\k<8/\((k∉jw K/\ofR K kind=(ai,5))\/(k∈jw K/\ofR K kind=(ae k,0))):=by
 unfold ofR;by_cases h:0<=kind/\kind<8
 ·right;refine⟨kind.toNat,by omega,by omega,?_⟩;by_cases hk:kind.toNat∈jw K
  ·right;exact⟨hk,by rw[if_pos h,if_pos hk]⟩
  ·left;exact⟨hk,by rw[if_pos h,if_neg hk]⟩
 ·left;exact⟨by rw[if_neg h],h⟩
theorem Qx {K:Int}{cb:Nat->Nat}(k:Nat):eG ((jw K).map λk:Nat=>((k:Int),cb k)) (k:Int)=if k∈jw K then ae (cb k)else ai:=by
 have hn:(bG ((jw K).map λk:Nat=>((k:Int),cb k))).Nodup:=by unfold bG;rw[List.map_map];exact List.Pairwise.map _ (λa b (h:a≠b) e=>h (by have e:(a:Int)=b:=e;omega)) (n4 K)
 by_cases hk:k∈jw K
 ·rw[if_pos hk];exact ko hn (aN.2 ⟨k,hk,rfl⟩)
 ·rw[if_neg hk,sV];intro hm;obtain⟨x,hx,e⟩:=aN.1 hm;obtain⟨y,hy,rfl⟩:=aN.1 hx;exact hk (by have:y=k:=by simp only at e;omega
                                                                                           rw[<-this];exact hy)
theorem ab3 {p:Nat}{K:Int}{rows:List cz}{hv:aq}{mb:Nat}{cb:Nat->Nat}(kind:Int)(w:ah)(h:tB w p K rows hv mb cb):Calls Tryz.prog 180 #[.pointer (ae ⟨p,0,ai⟩),.int .i64 kind] w λe w'=>e=.returned (.tuple #[Wm cb (ofR K kind).1,.int .i64 (ofR K kind).2])/\w=w':=by
 have c1:w.cell? ⟨p,2,ai⟩=ae (.map (ae mb)):=h.b.cell 2;have HM:=af h.m;clear h;rcases X' K kind with⟨hR,hn⟩|⟨k,rfl,hk,⟨hm,hR⟩|⟨hm,hR⟩⟩
 ·have HR:=af hR;clear hR;by_cases h0:kind<0
  ·have hb:decide (kind<0)=aA:=by simpa using h0
   clear hn
   go_enter Tryz.func180,Tryz.ntmps180
   go_wp2_with fail
   go_ret2
   exact⟨by rw[HR.out];rfl,rfl⟩
  ·have hb:decide (kind<0)=aw:=by simpa using h0
   have h8:8<=kind:=by omega
   have gV:decide (8<=kind)=aA:=by simpa using h8
   clear hn
   go_enter Tryz.func180,Tryz.ntmps180
   go_wp2_with fail
   go_ret2
   exact⟨by rw[HR.out];rfl,rfl⟩
 ·have HR:=af hR;have HG:Hid (eG ((jw K).map λk:Nat=>((k:Int),cb k)) (k:Int)=ai):=by unfold Hid;rw[Qx,if_neg hm]
  have xH:(k:Int)<8:=by omega
  have hb:decide ((k:Int)<0)=aw:=by simp
  have gV:decide (8<=(k:Int))=aw:=by simp;omega
  clear hR hm
  go_enter Tryz.func180,Tryz.ntmps180
  go_wp2_with (at_lookup;go_loud (refine BA rV rfl _ _ 213 216 aA rfl Tryz.underlying213 (.pointer ai) (NH _) mb _ rfl HM.out (k:Int) rfl (iw (by omega)) (.tuple #[.pointer ai,.bool aw]) (by rw[HG.out];rfl) ?_))
  go_ret2
  exact⟨by rw[HR.out];rfl,rfl⟩
 ·have HR:=af hR;have HG:Hid (eG ((jw K).map λk:Nat=>((k:Int),cb k)) (k:Int)=ae (cb k)):=by unfold Hid;rw[Qx,if_pos hm]
  have xH:(k:Int)<8:=by omega
  have hb:decide ((k:Int)<0)=aw:=by simp
  have gV:decide (8<=(k:Int))=aw:=by simp;omega
  clear hR hm
  go_enter Tryz.func180,Tryz.ntmps180
  go_wp2_with (at_lookup;go_loud (refine BA rV rfl _ _ 213 216 aA rfl Tryz.underlying213 (.pointer ai) (NH _) mb _ rfl HM.out (k:Int) rfl (iw (by omega)) (.tuple #[.pointer (ae ⟨cb k,0,ai⟩),.bool aA]) (by rw[HG.out];rfl) ?_))
  go_ret2
  exact⟨by rw[HR.out];rfl,rfl⟩
end
section
open Go.RowKit
def cutAt {α:Type}(d:α)(l:List α)(i:Nat):List α:=(l.set i (l.getD (l.length-1) d)).take (l.length-1)
def mB (rows:List cz)(row:Int):List cz×cz×Int:=if l0 rows.length row then(cutAt aP rows row.toNat,rows.getD row.toNat aP,0)else(rows,aP,5)
theorem vR {α:Type}(d:α)(l:List α)(i:Nat):(cutAt d l i).length=l.length-1:=by unfold cutAt;rw[dW,ew];omega
theorem Gl {α β:Type}(d:α)(d':β)(f:α->β)(l:List α)(i:Nat)(hi:i<l.length):(cutAt d l i).map f=cutAt d' (l.map f) i:=by unfold cutAt;rw[List.map_take,List.map_set,List.length_map];congr 2;simp only[bp,dK,ao (show l.length-1<l.length by omega),eY,bI]
theorem SB {α:Type}{d:α}{l:List α}{i:Nat}{x:α}(hi:i<l.length)(h:x∈cutAt d l i):x∈l:=by
 unfold cutAt at h;rcases List.mem_or_eq_of_mem_set (oY h)with h|h
 ·exact h
 ·rw[h];simp only[bp,ao (show l.length-1<l.length by omega),bI];exact aU _
theorem Yl {α:Type}(M P R B S:α)(L:List α):(M::P::R::B::S::L).Perm (B::S::([P,R,M]++L)):=by
 have h1:(M::P::R::B::S::L).Perm ((M::P::R::[])++([B,S]++L)):=pW _;have h2:((M::P::R::[])++([B,S]++L)).Perm ([B,S]++((M::P::R::[])++L)):=by rw[<-dn,<-dn];exact List.Perm.append_right L List.perm_append_comm
 have h3:(M::P::R::([]:List α)).Perm [P,R,M]:=(cB _ _ _).trans ((cB _ _ _).cons _);exact h2.trans (dE [B,S] (List.Perm.append_right L h3))
theorem Ny (p:Nat)(K:Int)(rows:List cz)(row:Int)(F:Nat->Prop)(w:ah)(h:(nI p K rows).at_ w F)(hl:rows.length<=10000):Calls Tryz.prog 181 #[.pointer (ae ⟨p,0,ai⟩),.int .i64 row] w λe w'=>e=.returned (.tuple #[.agg (ints (mB rows row).2.1.list),.int .i64 (mB rows row).2.2])/\(nI p K (mB rows row).1).at_ w' (IA F w w')/\cW F w w':=by
 have hT:=h.1;have k9:=af (In.one (A:=nI p K rows) h);clear h
 go_enter Tryz.func181,Tryz.ntmps181
 go_upto_region 1 with(fail)
 refine cc (In F w [bg w.heap.size 50 (ints aP.list),nI p K rows]) (k9.out.alloc 50 (ints aP.list)) ?_;generalize w.heap.size=rs;intro w1 jU;have pY:=af jU;obtain⟨F1,hA⟩:=jU.swap.head;obtain⟨hv,mb,cb,hS⟩:=nI.see hA;clear k9 jU hA
 go_wp2_with fail
 refine(Nz row w1 hS (by omega)).mono ?_;rintro e w2 ⟨rfl,gV⟩;have gd:=af (pY.out.below gV);clear pY gV hS;have hlen:(vC rows row).1.list.length=11:=by have:=YJ hT row;simp[cz.list,aQ.list,this]
 cases hr:l0 rows.length row
 ·have HR:Hid (vC rows row=(aP,5)):=by unfold Hid vC;rw[hr];rfl
  have HR2:Hid (mB rows row=(rows,aP,5)):=by unfold Hid mB;rw[hr];rfl
  rw[HR.out];clear hr hlen
  go_upto_region 2 with(fail)
  refine cc (In F w [bg w2.heap.size 50 (ints aP.list),bg rs 50 (ints aP.list),nI p K rows]) (gd.out.struct 50 aP.list aP.list rfl) ?_;generalize w2.heap.size=rb;intro w3 fF;have q1:row? w3 rb 0 11=ae (ints aP.list):=fF.blk.bt rfl;have f1:fits w3 rs 0 11=aA:=fF.swap.blk.fits 0 11 (by rw[bJ];decide);have iY:=af (fF.swap.fc aP.list rfl);clear fF gd
  go_wp2_with fail
  refine cA rfl rs 50 (ints aP.list) (.int .i64 5) _ rfl rfl iY.out.blk Tryz.underlying50 rfl (by rw[bJ];exact ta) rfl ?_;rw[HR2.out];obtain⟨g1,g2⟩:=iY.out.drop.drop.done;exact⟨rfl,g1,g2⟩
 ·have HR:Hid (vC rows row=(rows.getD row.toNat aP,0)):=by unfold Hid vC;rw[hr];rfl
  have HR2:Hid (mB rows row=(cutAt aP rows row.toNat,rows.getD row.toNat aP,0)):=by unfold Hid mB;rw[hr];rfl
  simp only[l0,aM,decide_eq_true_eq]at hr;obtain⟨i,rfl⟩: ∃i:Nat,row=i:=⟨row.toNat,by omega⟩;have wL:i<rows.length:=by omega
  rw[HR.out]at hlen⊢;rw[dL]at HR2 hlen⊢;clear hr HR;generalize Q7:(rows.getD i aP).list=xs at *;have HXS:=af Q7;clear Q7
  go_upto_region 2 with(fail)
  refine cc (In F w [nI p K rows,bg w2.heap.size 50 (ints xs),bg rs 50 (ints aP.list)]) ((gd.out.struct 50 aP.list xs hlen).third) ?_;generalize w2.heap.size=rb;clear gd;intro w3 fF;obtain⟨_,hK,hv,mb,cb,fX⟩:=fF.Ju;have iY:Hid (In F w ([bg p 215 #[.int .i64 K,hv,.map (ae mb)],dP 43 2 hv rows.length (rows.flatMap λr=>hC r.h),PtrMap mb ((jw K).map λk:Nat=>((k:Int),cb k)),bg rb 50 (ints xs),bg rs 50 (ints aP.list)]++(jw K).map λk=>kD (cb k) (cJ rows k)) w3):=fX.perm (dE [_,_,_] List.perm_append_comm)
  clear fF fX;obtain⟨hB4,hO4,ZC⟩:=In.sliceAt iY.out;have HK:=af hK;have hfm:(rows.map (·.h)).flatMap hC=rows.flatMap λr=>hC r.h:=by rw[List.flatMap_map]
  have OI:(rows.map (·.h)).length=rows.length:=List.length_map ..;have HO4:w3.ownsRow 0 43 2 hv (rows.map (·.h)).length ((rows.map (·.h)).flatMap hC):=by rw[hfm,OI];exact hO4
  have HO5:=af HO4;clear hK hO4 HO4 hfm
  go_wp2_with fail
  refine(M1 p 1 215 #[.int .i64 K,hv,.map (ae mb)] hv (rows.map (·.h)) i w3 hB4 rfl HO5.out ZC (by rw[OI];omega) (by rw[OI];exact wL)).mono ?_;rintro e w5 ⟨rfl,hE⟩;have hE':nS w3 w5 p 215 #[.int .i64 K,hv,.map (ae mb)] 1 hv 43 2 (rows.length-1) ((cutAt aP rows i).flatMap λr=>hC r.h):=by
   have e1:(cutAt aP rows i).flatMap (λr=>hC r.h)=(cutAt (0,0) (rows.map (·.h)) i).flatMap hC:=by rw[<-Gl aP (0,0) (·.h) rows i wL,List.flatMap_map]
   rw[e1];unfold cutAt;rw[OI]at hE⊢;exact hE
  obtain⟨Bb,iC⟩:=In.added iY.out hE';have aac:Hid (∀k,cutAt 0 (cJ rows k) i=cJ (cutAt aP rows i) k):=λk=>(Gl aP 0 (λr:cz=>r.b.v.getD k 0) rows i wL).symm
  have HTR:Hid (AN K (cutAt aP rows i)):=λr hr=>hT r (SB wL hr)
  have rh:(cutAt aP rows i).length=rows.length-1:=vR _ _ _;have HCL:=af rh;generalize adR:cutAt aP rows i=lh at *;have kh:Hid (In F w ([PtrMap mb ((jw K).map λk:Nat=>((k:Int),cb k)),bg p 215 #[.int .i64 K,Bb,.map (ae mb)],dP 43 2 Bb (rows.length-1) (lh.flatMap λr=>hC r.h),bg rb 50 (ints xs),bg rs 50 (ints aP.list)]++(jw K).map λk=>kD (cb k) (cJ rows k)) w5):=In.third iC;have c1:w5.cell? ⟨p,2,ai⟩=ae (.map (ae mb)):=(In.swap kh.out).blk.cell 2;clear hE hE' iC iY hB4 ZC HO5 rh adR OI
  go_wp2_with (at_range;go_loud (refine iT rfl _ 213 216 rfl Tryz.underlying213 mb _ rfl (In.hZ kh.out) ?_))
  intro w6 hr6 Kt ZM;have kE:=af (In.DX kh.out hr6 Kt ZM);generalize w5.heap.size=ri at *;clear hr6 Kt ZM c1
  go_wp2_with fail
  go_loopw [9] (λ_ w'=> ∃left,In F w ([ij (aZ .i64) vw nN mb ri ((jw K).map λk:Nat=>((k:Int),cb k)) left,bg p 215 #[.int .i64 K,Bb,.map (ae mb)],dP 43 2 Bb (rows.length-1) (lh.flatMap λr=>hC r.h),bg rb 50 (ints xs),bg rs 50 (ints aP.list)]++(jw K).map λk:Nat=>kD (cb k) (if(k:Int)∈bG left then cJ rows k else cJ lh k)) w') (λ_ w'=>w'.rangeLeft mb ri)
  case atStart=>
   refine⟨(jw K).map λk:Nat=>((k:Int),cb k),?_⟩;have:(jw K).map (λk:Nat=>kD (cb k) (if(k:Int)∈bG ((jw K).map λk:Nat=>((k:Int),cb k))then cJ rows k else cJ lh k))=(jw K).map λk:Nat=>kD (cb k) (cJ rows k):=by apply dy;intro k hk;rw[if_pos];simp only[bG,List.map_map];exact aN.2 ⟨k,hk,rfl⟩
   rw[this];exact kE.out
  case round=>
   clear kE kh;obtain⟨left,hI⟩:=hrel;have HI:=af hI;clear hI
   go_wp2_with (at_next;go_loud (refine kU rV rfl _ rfl mb ri _ left rfl (In.rangeAt HI.out) ?_ ?_))
   ·intro S5;subst S5;have pO:Hid (In F w (bg rb 50 (ints xs)::bg rs 50 (ints aP.list)::(lF p K Bb mb cb lh (cJ lh))) wr):=by
     have h1:=In.vJ HI.out;have e1:(jw K).map (λk:Nat=>kD (cb k) (if(k:Int)∈bG ([]:List (Int×Nat))then cJ rows k else cJ lh k))=(jw K).map (λk:Nat=>kD (cb k) (cJ lh k)):=by apply dy;intro k _;rw[if_neg (by simp[bG])]
     have h2:In F w (PtrMap mb ((jw K).map λk:Nat=>((k:Int),cb k))::bg p 215 #[.int .i64 K,Bb,.map (ae mb)]::dP 43 2 Bb (rows.length-1) (lh.flatMap λr=>hC r.h)::bg rb 50 (ints xs)::bg rs 50 (ints aP.list)::(jw K).map (λk:Nat=>kD (cb k) (cJ lh k))) wr:=by rw[<-e1];exact h1
     unfold lF;rw[HCL.out];exact h2.perm (Yl _ _ _ _ _ _)
    have q1:row? wr rb 0 11=ae (ints xs):=pO.out.blk.bt hlen;have f1:fits wr rs 0 11=aA:=pO.out.swap.blk.fits 0 11 (by rw[bJ];decide);have pZ:=af (pO.out.swap.fc xs hlen);have xy:=af hlen
    go_wp2_with fail
    refine cA rfl rs 50 (ints xs) (.int .i64 0) _ rfl rfl pZ.out.blk Tryz.underlying50 rfl (by rw[bJ,xy.out];exact ta) rfl ?_;rw[HR2.out];have hIT:=In.RN (l:=[]) HTR.out HK.out (by rw[eN];exact pZ.out.drop.drop);obtain⟨g1,g2⟩:=hIT.done;exact⟨by rw[<-HXS.out],g1,g2⟩
   ·intro x v w7 hx GL Fh S9 sM ZF;obtain⟨k,hk,hke⟩:=aN.1 ((In.rangeAt HI.out).sub _ hx);injection hke with e1 e2
    subst e1;subst e2;have kE:Hid (In F w ([ij (aZ .i64) vw nN mb ri ((jw K).map λk:Nat=>((k:Int),cb k)) (ep left (k:Int)),bg p 215 #[.int .i64 K,Bb,.map (ae mb)],dP 43 2 Bb (rows.length-1) (lh.flatMap λr=>hC r.h),bg rb 50 (ints xs),bg rs 50 (ints aP.list)]++(jw K).map λk:Nat=>kD (cb k) (if(k:Int)∈bG left then cJ rows k else cJ lh k)) w7):=In.nG HI.out GL Fh;have Zu:=af hk;have HX:=af hx;have HLT:=af sM;clear GL Fh S9 sM hk hx
    go_wp2_with fail
    obtain⟨F1,hA,_,jA⟩:=In.Jt kE.out (n4 K) Zu.out;have iM:(k:Int)∈bG left:=aN.2 ⟨_,HX.out,rfl⟩;rw[if_pos iM]at hA;obtain⟨v,hB,hO,hN,BL⟩:=iX.parts hA;have HB:=af jA;have rN:=af BL;have hlc:(cJ rows k).length=rows.length:=by unfold cJ;rw[List.length_map]
    refine(M2 (cb k) 0 218 #[v] v (cJ rows k) i w7 hB rfl hO hN (by omega) (by omega)).mono ?_;rintro e w8 ⟨rfl,hE⟩;have hE2:nS w7 w8 (cb k) 218 #[v] 0 v 3 1 (cJ lh k).length ((cJ lh k).flatMap zU):=by rw[<-aac.out k,vR];exact hE
    obtain⟨hC2,Xa⟩:=rN.out _ _ hE2;have pO:=af (HB.out _ (kD (cb k) (cJ lh k)) hC2 Xa);clear hA hB hO hN BL jA HB rN hlc hE hE2 hC2 Xa kE iM
    go_wp2_with fail
    go_roundw
    case rel=>
     refine⟨ep left (k:Int),?_⟩;have:(jw K).map (λj:Nat=>kD (cb j) (if(j:Int)∈bG (ep left (k:Int))then cJ rows j else cJ lh j))=
      (jw K).map (λj:Nat=>if j=k then kD (cb k) (cJ lh k)else kD (cb j) (if(j:Int)∈bG left then cJ rows j else cJ lh j)):=by
      apply dy;intro j hj;by_cases tQ:j=k
      ·subst tQ;rw[if_neg,if_pos rfl];intro hm;obtain⟨q,hq,e⟩:=aN.1 hm;exact(fT.1 hq).2 e
      ·rw[if_neg tQ];have:(j:Int)∈bG (ep left (k:Int))↔(j:Int)∈bG left:=by
        constructor
        ·intro hm;obtain⟨q,hq,e⟩:=aN.1 hm;exact aN.2 ⟨q,(fT.1 hq).1,e⟩
        ·intro hm;obtain⟨q,hq,e⟩:=aN.1 hm;exact aN.2 ⟨q,fT.2 ⟨hq,by simp only[e];omega⟩,e⟩
       by_cases hm:(j:Int)∈bG left
       ·rw[if_pos hm,if_pos (this.2 hm)]
       ·rw[if_neg hm,if_neg (λh=>hm (this.1 h))]
     rw[this];exact pO.out
    case measure=>rw[(In.rangeAt pO.out).count,(In.rangeAt HI.out).count];exact HLT.out
end
end Go.Proofs.YtknejlcijdngoaaGreat
