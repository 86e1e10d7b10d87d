/-
  Rules of the holder and of the child: operations that yield nothing; regions that draw; into a funct
-/
import Derived.MapKept
import Derived.WideLaws
import Derived.Conc.SmallLaws
import Derived.Maps.OwnOps
import Derived.Maps.OwnSet
import Derived.Test.YtnjkbffmmgckeaaGreatDoorProg
import Derived.WalkKit
import Derived.Lib.Hide
import Derived.OwnWalk
import Derived.Laws.AppendOwn
import Derived.Maps.AppendAt
import Derived.Deep.RegionHeld3
import Derived.Deep.RegionWith
import Derived.BigRegion
import Derived.Deep.AppendLies
import Derived.Lib.SmallJoins
import Derived.Deep.RegionLaw
import Derived.Shelf.Strconv.Itoa0
import Derived.Shelf.Strconv.Itoa1
import Derived.Shelf.LaysM
import Derived.Shelf.Strconv.Itoa2
import Derived.Shelf.Strconv.Itoa3
import Derived.Shelf.Slices.Turned
import Derived.Ground.Names2Prog
import Derived.Shelf.Slices.Delete
import Derived.Shelf.Slices.Cells
import Derived.Shelf.Slices.Empties
import Derived.Ground.SlgnProg
import Derived.Shelf.SlicesE.Delete
import Derived.Laws.IdiomCopy
import Derived.Lib.SliceRun
import Derived.Test.YtnjkbffmmgckeaaGreatDoorPaa
import Derived.Test.YtnjkbffmmgckeaaGreatDoorPad
set_option linter.all false
set_option maxRecDepth 100000
set_option maxHeartbeats 32000000
open Go renaming undef->I',World->J',Value->M',TypeId->Q',Program->U',execOp->V',Frame->Y',heap_setCell_other->a_,heap_setCell_same->b_,Calls->d_,Oper->y_
open Go.RowKit renaming Hid->f_
open Option renaming getD_some->A_
open Nat renaming le_refl->C_,le_trans->D_,lt_of_lt_of_le->E_,zero_le->nz
open Array renaming replicate->F_,getElem?_eq_getElem->H_,getElem?_setIfInBounds->Y_,getD_eq_getD_getElem?->r_
open List renaming getElem?_eq_getElem->G_,length_append->K_,length_take->Q_
open Go.World renaming cell?_of_block->J_,grownBy_alloc->N_,frozen?_of_block->m_,size_setCell->o_
open Bool renaming and_eq_true->T_,false_eq_true->qp
open Go.Region renaming wanted->U_
open Classical renaming byContradiction->j_
open Option.some renaming injEq->n_
open Go.Proofs.Tryz renaming prog->p_
open Go.Value renaming int->ah,slice->mN
open Ne renaming symm->ru
open Go.Proofs.Tryz
namespace Go.aC
section
open Go Go.Conc Go.Conc.Lib Go.ConcR Go.ConcR.Gen
def jd (ops:Array y_):Nat->Array Bool->List (List Nat)
 |0,_=>[[]]
 |fuel+1,listed=>if (Region.ready .any ops listed).isEmpty then [[]] else (Region.ready .any ops listed).flatMap fun i=>(jd ops fuel (listed.setIfInBounds i true)).map (i::·)
theorem MU (ops:Array y_):∀(fuel t:Nat) (listed:Array Bool),Region.linearise.go .any ops fuel t listed []∈jd ops fuel listed:=by
 intro fuel
 induction fuel with
 |zero=>intro t listed;simp [Region.linearise.go,jd]
 |succ fuel ih=>
  intro t listed
  simp only [Region.linearise.go]
  change (match (Region.ready .any ops listed)[t % (Region.ready .any ops listed).length]? with
   |some i=>Region.linearise.go .any ops fuel (t / (Region.ready .any ops listed).length) (listed.setIfInBounds i true) [i]
   |none=>[].reverse)∈_
  cases hi:(Region.ready .any ops listed)[t % (Region.ready .any ops listed).length]? with
  |none=>
   have Y9:Region.ready .any ops listed=[]:=by
    cases hr:Region.ready .any ops listed with
    |nil=>rfl
    |cons x xs=>
     rw [hr] at hi
     have hlt:t % (x::xs).length<(x::xs).length:=Nat.mod_lt _ (by simp)
     simp at hi
     simp at hlt
     omega
   simp [jd,Y9]
  |some i=>
   have hm:=List.mem_of_getElem? hi
   have hne:(Region.ready .any ops listed).isEmpty=false:=by
    cases hr:Region.ready .any ops listed with
    |nil=>rw [hr] at hm;cases hm
    |cons x xs=>rfl
   simp only []
   rw [linearise_go_acc,List.reverse_singleton,List.singleton_append]
   simp only [jd,hne,qp,if_false,List.mem_flatMap,List.mem_map]
   exact ⟨i,hm,_,ih _ _,rfl⟩
variable {P:U'} {C:cS} {b o:Nat} {Post:M'->J'->Prop} {Rs:(Nat->Prop)->(Nat->aX)->Nat->Prop} {k:Nat} {wl:J'} {ok:FuncId->Bool}
variable {ae Fin:Goroutine->J'->Prop} {h₀:Nat}
variable {aI:Y'} {a:Act} {id:Nat} {ops:Array y_} {K:List Item} {cs:List Y'}
theorem ay.drawn (hm:P.follows .mixedOrders=true) (B:eh P C b o ae Fin h₀) (hS:gh h₀ Rs) (hL:Lay C wl) {l:List (List Nat)} (hl:jd ops ops.size (F_ ops.size false)=l) (h:∀p∈l,ay P C b o ae Fin Post h₀ Rs wl (G (aI.at a (.inRegion ops p::K)) cs)):
 ay P C b o ae Fin Post h₀ Rs wl (G (aI.at a (.code (.region id ops true)::K)) cs):=by
 refine ay.walk B hS hL fun _ n U hw fI=>Walk.gU rfl fun w₁ h₁=> ?_
 have cv:=hw.outside hL.cut h₁
 refine ⟨_,_,#[],stepG_region_draw,⟨⟨C_ _,fun _ c _ _ h=>⟨c,h,rfl,fun _ _=>rfl⟩,fun _ _ h _=>h,fun _ o h ho=>⟨o,h,ho⟩,rfl,rfl,rfl,fun e he=>by simp at he⟩,fun hb=>⟨hb.os,hb.tape,hb.output,hb.size,hb.block⟩⟩,.stop fun lZ iN=>⟨wl, ?_,fI, ?_⟩⟩
 ·exact bI.outside (w:={w₁ with drawn:=w₁.drawn+1}) ⟨cv.size,cv.obj,cv.os,cv.out,cv.ic⟩ hL.cut iN
 ·simp only [Region.schedule,hm,Bool.true_or,if_true]
  exact h _ (hl▸MU ops _ _ _)
variable {i:Nat} {rest:List Nat} {x:y_}
theorem ay.Wh (B:eh P C b o ae Fin h₀) (hS:gh h₀ Rs) (hL:Lay C wl) (ho:ops[i]?=some x) (hw:U_ x (yielded ops a.tmps)=true) (hk:aI.kind≠.early) (cK:fN P ok x=true)
 (h:∀T d,∃w',(V' a.eval x).run P (wl.re T d)=.ok .skip w'/\(Cut (bS C) (fy C) w'->ay P C b o ae Fin Post h₀ Rs w' (G (aI.at (a.put x.dst I') (.inRegion ops rest::K)) cs))):
 ay P C b o ae Fin Post h₀ Rs wl (G (aI.at a (.inRegion ops (i::rest)::K)) cs):=by
 refine ay.walk B hS hL fun w n U EE fI=>Walk.gU rfl fun w₁ h₁=> ?_
 have cv:=EE.outside hL.cut h₁
 obtain ⟨w',hr,hc⟩:=h w₁.tape w₁.drawn
 have pk:(V' a.eval x).runT P (wl.re w₁.tape w₁.drawn) #[]=(.ok .skip w',((V' a.eval x).runT P (wl.re w₁.tape w₁.drawn) #[]).2):=by
  have:=Sem.runT_fst P (V' a.eval x) (wl.re w₁.tape w₁.drawn) #[]
  rw [hr] at this
  rw [<-this]
 have oJ:bI (wl.re w₁.tape w₁.drawn) w₁:=rM cv _ _
 obtain ⟨w2,h3,h4⟩:=pO (jh cK a) oJ pk (fun _ _=>rfl)
 have h5:(V' a.eval x).run P w₁=.ok .skip w2:=by rw [<-Sem.runT_fst P _ w₁ #[],h3]
 have h6:(V' a.eval x).events P w₁ #[]=((V' a.eval x).runT P (wl.re w₁.tape w₁.drawn) #[]).2:=by show ((V' a.eval x).runT P w₁ #[]).2=_;rw [h3]
 have hcut:Cut (bS C) (fy C) w':=(hL.cut.re w₁.tape w₁.drawn).upd h4.gR
 refine ⟨_,w2,_,stepG_none ho hw hk h5, ?_,.stop fun DU xo=>⟨w',h4.weak.outside hcut xo,(fI.re _ _).upd h4.gR,hc hcut⟩⟩
 unfold listed
 rw [h6]
 exact ⟨tO (hL.cut.re _ _) h4.seen oJ.size,fun hb=>kO (fI.re _ _) hb oJ.size h4.upd⟩
variable {main:Bool} {b:Y'} {k:List Item} {o:y_} {w:J'} {f:FuncId} {fn:Func} {c:Code} {args:Array Operand} {ats:Array Q'} {p q:M'}
theorem I1 (ho:ops[i]?=some o) (hw:U_ o (yielded ops a.tmps)=true) (hk:b.kind≠.early) (hop:o.op=.call {callee:=.value (.func f),args,argTypes:=ats})
 (hf:P.funcs[f]?=some fn) (lV:(fn.name== "runtime.NumGoroutine")=false) (hb:fn.body=some c):
 stepG P main (G (b.at a (.inRegion ops (i::rest)::k)) cs) w=.go (G (Frame.enter P f (args.map a.eval) .normal) (b.at a (.inRegion ops (i::rest)::k)::cs)) w #[]:=by
 have A8:fn.body.isNone=false:=by rw [hb];rfl
 rw [stepG_enter ho hw hk (run_call_body hop hf lV A8)]
 have:listed P b.fn a o w=#[]:=by unfold listed;rw [events_call_body hop hf lV A8];exact seen_none P _
 rw [this]
theorem bY {vs:Array M'} (ho:ops[i]?=some o) (hw:U_ o (yielded ops a.tmps)=true) (hk:b.kind≠.early) (hop:o.op=.call {callee:=.value (.func f),args,argTypes:=ats})
 (hf:P.funcs[f]?=some fn) (lV:(fn.name== "runtime.NumGoroutine")=false) (hb:fn.body=some c) (ha:args.map a.eval=vs):
 stepG P main (G (b.at a (.inRegion ops (i::rest)::k)) cs) w=.go (G (Frame.enter P f vs .normal) (b.at a (.inRegion ops (i::rest)::k)::cs)) w #[]:=by
 rw [<-ha];exact I1 ho hw hk hop hf lV hb
theorem ma:stepG P main (G (b.at a (.code .ret::k)) cs) w=.go (G {b.at a (.code .ret::k) with mode:=.returning} cs) w #[]:=stepG_ret'
variable {L:WgLink}
theorem I2 (H:WgLib P L) (ho:ops[i]?=some o) (hw:U_ o (yielded ops a.tmps)=true) (hk:b.kind≠.early) (hop:o.op=.call {callee:=.value (.func L.add),args:=args,argTypes:=ats}) (ha:args.map a.eval=#[p,q]):
 stepG P main (G (b.at a (.inRegion ops (i::rest)::k)) cs) w=.go (G ((base L.add).at ⟨#[p,q]++F_ 115 I',[]⟩ [.code ((addFn L).body.getD .skip)]) (b.at a (.inRegion ops (i::rest)::k)::cs)) w #[]:=by
 rw [i6 ho hw hk hop H.f_add (c:=(addFn L).body.getD .skip) rfl rfl,ha]
 rfl
theorem Mx (H:WgLib P L) (ho:ops[i]?=some o) (hw:U_ o (yielded ops a.tmps)=true) (hk:b.kind≠.early) (hop:o.op=.call {callee:=.value (.func L.wait),args:=args,argTypes:=ats}) (ha:args.map a.eval=#[p]):
 stepG P main (G (b.at a (.inRegion ops (i::rest)::k)) cs) w=.go (G ((base L.wait).at ⟨#[p]++F_ 83 I',[]⟩ [.code ((waitFn L).body.getD .skip)]) (b.at a (.inRegion ops (i::rest)::k)::cs)) w #[]:=by
 rw [i6 ho hw hk hop H.f_wait (c:=(waitFn L).body.getD .skip) rfl rfl,ha]
 rfl
end
section
open Go Go.Conc Go.Conc.Lib Go.ConcR Go.ConcR.Gen Go.RowKit
variable {ops:Array y_} {D:Array Bool} {i:Nat}
theorem tj (h:i∈Region.ready .any ops D):∃o,ops[i]?=some o/\i<ops.size/\D.getD i true=false/\∀e∈o.after,Region.binds .any e=true->D.getD e.on false=true:=by
 unfold Region.ready at h
 rw [List.mem_filter] at h
 obtain ⟨h1,h2⟩:=h
 have hlt:i<ops.size:=by simpa using h1
 refine ⟨ops[i],H_ hlt,hlt, ?_, ?_⟩
 ·have:=(T_ _ _▸h2).1;simpa using this
 ·have h3:=(T_ _ _▸h2).2
  rw [H_ hlt] at h3
  simp only [Option.map_some,A_,Array.all_eq_true] at h3
  intro e he hb
  obtain ⟨j,hj,rfl⟩:=Array.mem_iff_getElem.1 he
  have:=h3 j hj
  rw [hb] at this
  simpa using this
def ui (ops:Array y_):Bool:=(List.range ops.size).all fun i=>((ops[i]?).map fun o=>o.after.all fun e=>decide (e.on<i)).getD false
theorem xX (hs:D.size=ops.size) (hb:ui ops=true) (h:Region.ready .any ops D=[]):∀i,i<ops.size->D.getD i false=true:=by
 intro i
 induction i using Nat.strongRecOn with
 |_ i ih=>
  intro hi
  refine j_ fun hn=> ?_
  have hm:i∈Region.ready .any ops D:=by
   unfold Region.ready
   rw [List.mem_filter]
   refine ⟨by simpa using hi, ?_⟩
   have eo:=(List.all_eq_true.1 hb) i (by simpa using hi)
   rw [H_ hi] at eo ⊢
   simp only [Option.map_some,A_,Array.all_eq_true,decide_eq_true_eq] at eo
   rw [T_]
   refine ⟨?_, ?_⟩
   ·have hl:i<D.size:=hs▸hi
    simp [Array.getD,hl] at hn ⊢
    exact hn
   ·simp only [Option.map_some,A_,Array.all_eq_true]
    intro j hj
    have hlt:=eo j hj
    rw [ih _ hlt (by omega),Bool.or_true]
  rw [h] at hm;cases hm
def fU (ops:Array y_) (t:Nat):Option Nat:=(List.range ops.size).find? fun i=>((ops[i]?).bind (·.dst))==some t
def rT (ops:Array y_) (n:Nat):Bool:=(List.range ops.size).all fun i=>match (ops[i]?).bind (·.dst) with
 |none=>true
 |some t=>fU ops t==some i&&decide (t<n)
def nC (ops:Array y_) (base:Array M') (vals:Nat->M') (D:Array Bool) (t:Nat):M':=
 match fU ops t with
 |some i=>if D.getD i false then vals i else base.getD t I'
 |none=>base.getD t I'
structure iz (ops:Array y_) (base:Array M') (vals:Nat->M') (D:Array Bool) (a:Act):Prop where
 defers:a.defers=[]
 size:a.tmps.size=base.size
 at_:∀t,t<base.size->a.tmps.getD t I'=nC ops base vals D t
theorem qR {t:Nat} (h:fU ops t=some i):(ops[i]?).bind (·.dst)=some t:=by
 have:=List.find?_some h
 simpa using this
variable {j:Nat}
theorem bq:(D.setIfInBounds i true).getD j false=if i=j/\i<D.size then true else D.getD j false:=by
 simp only [r_,Y_]
 by_cases e:i=j
 ·subst e
  by_cases h:i<D.size
  ·simp [h]
  ·simp [h]
 ·simp [e]
variable {base:Array M'} {vals yV:Nat->M'} {a:Act}
theorem iz.val (h:iz ops base vals D a) {t:Nat} (hw:fU ops t=some j) (hd:D.getD j false=true) (ht:t<base.size):a.eval (.tmp t)=vals j:=by
 show a.tmps.getD t I'=_
 rw [h.at_ t ht];unfold nC;rw [hw];simp only [hd,if_true]
theorem iz.old (h:iz ops base vals D a) {t:Nat} (hw:fU ops t=none) (ht:t<base.size):a.eval (.tmp t)=base.getD t I':=by
 show a.tmps.getD t I'=_
 rw [h.at_ t ht];unfold nC;rw [hw]
theorem iz.put (h:iz ops base vals D a) (ho:rT ops base.size=true) (hi:i<ops.size) (hD:D.size=ops.size) (hn:D.getD i true=false) {o:y_} (Gc:ops[i]?=some o) (hv:∀j,D.getD j false=true->yV j=vals j):iz ops base yV (D.setIfInBounds i true) (a.put o.dst (yV i)):=by
 have iw:=(List.all_eq_true.1 ho) i (by simpa using hi)
 rw [Gc] at iw
 simp only [Option.bind_some] at iw
 have Me:i<D.size:=by omega
 have dS:∀t,t<base.size->fU ops t≠some i->nC ops base yV (D.setIfInBounds i true) t=nC ops base vals D t:=fun t ht hne=>by
  unfold nC
  cases hw:fU ops t with
  |none=>rfl
  |some j=>
   have vG:i≠j:=fun e=>hne (by rw [hw,e])
   simp only [bq,vG,false_and,if_false]
   by_cases hd:D.getD j false=true
   ·rw [if_pos hd,if_pos hd,hv j hd]
   ·rw [if_neg hd,if_neg hd]
 cases Q8:o.dst with
 |none=>
  refine ⟨h.defers,h.size,fun t ht=> ?_⟩
  refine (h.at_ t ht).trans (dS t ht fun e=> ?_).symm
  have:=qR e
  rw [Gc] at this
  simp only [Option.bind_some,Q8] at this
  cases this
 |some t0=>
  rw [Q8] at iw
  simp only [T_,beq_iff_eq,decide_eq_true_eq] at iw
  refine ⟨h.defers,by simp [Act.put,h.size],fun t ht=> ?_⟩
  show (a.tmps.setIfInBounds t0 (yV i)).getD t I'=_
  by_cases e:t0=t
  ·subst e
   unfold nC
   rw [iw.1]
   simp only [bq,true_and,Me,if_true]
   simp [r_,Y_,h.size,ht]
  ·have h1:(a.tmps.setIfInBounds t0 (yV i)).getD t I'=a.tmps.getD t I':=by
    simp [r_,Y_,e]
   rw [h1,h.at_ t ht]
   refine (dS t ht fun e1=> ?_).symm
   have:=qR e1
   rw [Gc] at this
   simp only [Option.bind_some,Q8,n_] at this
   exact e this
def FC (ops:Array y_) (base:Array M') (vals:Nat->M') (t:Nat):M':=match fU ops t with
 |some i=>vals i
 |none=>base.getD t I'
def slotsOf (ops:Array y_) (base:Array M') (vals:Nat->M'):Array M':=((List.range base.size).map (FC ops base vals)).toArray
theorem iz.done (h:iz ops base vals D a) (hd:∀i,i<ops.size->D.getD i false=true):a=⟨slotsOf ops base vals,[]⟩:=by
 obtain ⟨ts,ds⟩:=a
 have h1:ds=[]:=h.defers
 have h2:ts=slotsOf ops base vals:=by
  have hsz:ts.size=base.size:=h.size
  apply Array.ext
  ·rw [hsz];simp [slotsOf]
  ·intro t h3 h4
   have h5:=h.at_ t (hsz▸h3)
   have htb:t<base.size:=hsz▸h3
   have h6:ts.getD t I'=ts[t]:=by simp [r_,h3]
   have h7:(slotsOf ops base vals)[t]=FC ops base vals t:=by
    have h8:(slotsOf ops base vals)[t]?=some (FC ops base vals t):=by simp [slotsOf,htb]
    rw [H_ h4] at h8
    exact Option.some.inj h8
   rw [<-h6,h7]
   refine h5.trans ?_
   unfold FC nC
   cases hw:fU ops t with
   |none=>rfl
   |some i=>
    have hi:i<ops.size:=by
     have:=qR hw
     cases hx:ops[i]? with
     |none=>rw [hx] at this;cases this
     |some o=>exact (cI hx)
    simp only [hd i hi,if_true]
 rw [h1,h2]
theorem oQ (ops:Array y_) (base:Array M') (vals:Nat->M'):iz ops base vals (F_ ops.size false) ⟨base,[]⟩:=by
 refine ⟨rfl,rfl,fun t ht=> ?_⟩
 unfold nC
 cases hw:fU ops t with
 |none=>rfl
 |some i=>
  have:(F_ ops.size false).getD i false=false:=by
   simp only [r_,Array.getElem?_replicate]
   split<;>rfl
  simp only [this,qp,if_false]
variable {P:U'} {C:cS} {b o:Nat} {ae Fin:Goroutine->J'->Prop} {Post:M'->J'->Prop} {h₀:Nat} {wl:J'} {ok:FuncId->Bool} {T:Type} {Rs:T->(Nat->Prop)->(Nat->aX)->Nat->Prop}
variable {aI:Y'} {id:Nat} {K:List Item} {cs:List Y'} {kP:T}
theorem ay.any (hm:P.follows .mixedOrders=true) (B:eh P C b o ae Fin h₀) (hS:∀x,gh h₀ (Rs x)) {base:Array M'}
 (ho:rT ops base.size=true) (hb:ui ops=true) (vals:T->Nat->M') (Wd:Array Bool->T->J'->Prop) (hW:∀D x w,Wd D x w->Lay C w) (h0:Wd (F_ ops.size false) kP wl)
 (hstep:∀i o',ops[i]?=some o'->∀D x w a rest,D.size=ops.size->iz ops base (vals x) D a->Wd D x w->D.getD i false=false->(∀e∈o'.after,Region.binds .any e=true->D.getD e.on false=true)->
  (∀x' w',(∀j,D.getD j false=true->vals x' j=vals x j)->Wd (D.setIfInBounds i true) x' w'->ay P C b o ae Fin Post h₀ (Rs x') w' (G (aI.at (a.put o'.dst (vals x' i)) (.inRegion ops rest::K)) cs))->
  ay P C b o ae Fin Post h₀ (Rs x) w (G (aI.at a (.inRegion ops (i::rest)::K)) cs))
 (A6:∀D x w,(∀i,i<ops.size->D.getD i false=true)->Wd D x w->ay P C b o ae Fin Post h₀ (Rs x) w (G (aI.at ⟨slotsOf ops base (vals x),[]⟩ K) cs)):
 ay P C b o ae Fin Post h₀ (Rs kP) wl (G (aI.at ⟨base,[]⟩ (.code (.region id ops true)::K)) cs):=by
 refine ay.drawn hm B (hS kP) (hW _ _ _ h0) rfl ?_
 have key:∀fuel D x w a,D.size=ops.size->iz ops base (vals x) D a->Wd D x w->(∀i,i<ops.size->D.getD i false=true)\/(∃l,l=(List.range ops.size).filter (fun i=> !D.getD i true)/\l.length<=fuel)->∀p∈jd ops fuel D,ay P C b o ae Fin Post h₀ (Rs x) w (G (aI.at a (.inRegion ops p::K)) cs):=by
  intro fuel
  have fin:∀D x w a,iz ops base (vals x) D a->Wd D x w->(∀i,i<ops.size->D.getD i false=true)->ay P C b o ae Fin Post h₀ (Rs x) w (G (aI.at a (.inRegion ops []::K)) cs):=fun D x w a bc hw hd=>by
   refine ay.ctl B (hS x) (hW _ _ _ hw) rfl (fun _=>stepG_region_end) ?_
   rw [bc.done hd]
   exact A6 D x w hd hw
  induction fuel with
  |zero=>
   intro D x w a hD bc hw hl p hp
   simp only [jd,List.mem_singleton] at hp
   subst hp
   refine fin D x w a bc hw ?_
   rcases hl with hl|⟨l,hl,hlen⟩
   ·exact hl
   ·intro i hi
    refine j_ fun hn=> ?_
    have Ge:i∈l:=by
     rw [hl,List.mem_filter]
     refine ⟨by simpa using hi, ?_⟩
     have hlt:i<D.size:=hD▸hi
     simp [Array.getD,hlt] at hn ⊢
     exact hn
    cases l with
    |nil=>cases Ge
    |cons y ys=>simp at hlen
  |succ fuel ih=>
   intro D x w a hD bc hw hl p hp
   unfold jd at hp
   by_cases he:(Region.ready .any ops D).isEmpty=true
   ·rw [if_pos he,List.mem_singleton] at hp
    subst hp
    refine fin D x w a bc hw (xX hD hb ?_)
    cases hr:Region.ready .any ops D with
    |nil=>rfl
    |cons y ys=>rw [hr] at he;cases he
   ·rw [if_neg he,List.mem_flatMap] at hp
    obtain ⟨i,hi,hp⟩:=hp
    rw [List.mem_map] at hp
    obtain ⟨q,hq,rfl⟩:=hp
    obtain ⟨o',h1,h2,h3,h4⟩:=tj hi
    have Me:i<D.size:=by omega
    have O0:D.getD i false=false:=by simp [Array.getD,Me] at h3 ⊢;exact h3
    refine hstep i o' h1 D x w a q hD bc hw O0 h4 fun x' w' hv gC=> ?_
    refine ih (D.setIfInBounds i true) x' w' _ (by simpa using hD) (bc.put ho h2 hD h3 h1 hv) gC ?_ q hq
    rcases hl with hl|⟨l,hl,hlen⟩
    ·exact absurd (hl i h2) (by rw [O0];simp)
    ·refine .inr ⟨_,rfl, ?_⟩
     have Ge:i∈l:=by
      rw [hl,List.mem_filter]
      exact ⟨by simpa using h2,by rw [h3];rfl⟩
     have hle:((List.range ops.size).filter fun j=> !(D.setIfInBounds i true).getD j true).length<l.length:=by
      rw [hl]
      have yG:((List.range ops.size).filter fun j=> !(D.setIfInBounds i true).getD j true)=(l.filter fun j=>decide (j≠i)):=by
       rw [hl,List.filter_filter]
       apply List.filter_congr
       intro j hj
       have EL:j<ops.size:=by simpa using hj
       have UI:j<D.size:=by omega
       by_cases e:i=j
       ·subst e;simp [Array.getD,Me]
       ·have e':¬j=i:=fun h=>e h.symm
        simp [Array.getD,UI,e',e]
      rw [yG,<-hl]
      exact List.length_filter_lt_length_iff_exists.2 ⟨i,Ge,by simp⟩
     omega
 refine key _ _ _ _ _ (by simp) (oQ ops base (vals kP)) h0 (.inr ⟨_,rfl, ?_⟩)
 exact D_ (List.length_filter_le _ _) (by simp)
variable {rest:List Nat} {x:y_}
theorem ay.dY (B:eh P C b o ae Fin h₀) {zM:(Nat->Prop)->(Nat->aX)->Nat->Prop} (hS:gh h₀ zM) (hL:Lay C wl) (ho:ops[i]?=some x) (hg:x.guard=none) (hk:aI.kind≠.early) (cK:fN P ok x=true) {v:M'}
 (hx:∀T d,(V' a.eval x).run P (wl.re T d)=.ok (.value v) (wl.re T d)) (hc:ay P C b o ae Fin Post h₀ zM wl (G (aI.at (a.put x.dst v) (.inRegion ops rest::K)) cs)):
 ay P C b o ae Fin Post h₀ zM wl (G (aI.at a (.inRegion ops (i::rest)::K)) cs):=
 ay.op (ok:=ok) B hS hL ho (by simp [U_,hg]) hk cK fun T d=>⟨v,wl.re T d,hx T d,fun _=>hc.re T d⟩
theorem iz.vv {base:Array M'} (h:iz ops base vals D a) (v:M') (t j:Nat) (hd:D.getD j false=true) (hw:fU ops t=some j:=by kernel_rfl) (ht:t<base.size:=by exact Gl _ (by decide)) (e:vals j=v:=by exact rfl):a.eval (.tmp t)=v/\a.tmps[t]?.getD I'=v:=vw ((h.val hw hd ht).trans e)
theorem iz.oo {base:Array M'} (h:iz ops base vals D a) (v:M') (t:Nat) (e:base.getD t I'=v:=by exact HI _) (hw:fU ops t=none:=by kernel_rfl) (ht:t<base.size:=by exact Gl _ (by decide)):a.eval (.tmp t)=v/\a.tmps[t]?.getD I'=v:=vw ((h.old hw ht).trans e)
theorem dq {o:y_} (h:∀e∈o.after,Region.binds .any e=true->D.getD e.on false=true) (j:Nat) (m:(⟨j,.data⟩:Edge)∈o.after:=by simp):D.getD j false=true:=h _ m rfl
end
section
open Go Go.Conc Go.RowKit
variable {P:U'} {ops:Array y_} {Q:Exit->Act->J'->Prop} {T:Type}
variable {i:Nat} {a:Act} {w w':J'}
theorem bj {o:y_} {v:M'} {K:Act->J'->Prop} (ho:ops[i]?=some o) (hg:o.guard=none) (hr:(V' a.eval o).run P w=.ok (.value v) w') (hk:K (a.put o.dst v) w'):wpOp P ops Q i K a w:=by
 unfold wpOp
 rw [ho]
 have hw:U_ o (yielded ops a.tmps)=true:=by simp [U_,hg]
 simp only [hw,if_true]
 left
 unfold Oper.wp
 rw [hr]
 exact hk
theorem gQ {o:y_} {K:Act->J'->Prop} (ho:ops[i]?=some o) (hg:o.guard=none) (hr:(V' a.eval o).run P w=.ok .skip w') (hk:K (a.put o.dst I') w'):wpOp P ops Q i K a w:=by
 unfold wpOp
 rw [ho]
 have hw:U_ o (yielded ops a.tmps)=true:=by simp [U_,hg]
 simp only [hw,if_true]
 left
 unfold Oper.wp
 rw [hr]
 exact hk
variable {id:Nat} {kP:T}
theorem mA (hm:P.follows .mixedOrders=true) {base:Array M'} (ho:rT ops base.size=true) (hb:ui ops=true) (vals:T->Nat->M') (Wd:Array Bool->T->J'->Prop) (h0:Wd (F_ ops.size false) kP w.drew)
 (hstep:∀i o',ops[i]?=some o'->∀D x w a,D.size=ops.size->iz ops base (vals x) D a->Wd D x w->D.getD i false=false->(∀e∈o'.after,Region.binds .any e=true->D.getD e.on false=true)->
  ∀K:Act->J'->Prop,(∀x' w',(∀j,D.getD j false=true->vals x' j=vals x j)->Wd (D.setIfInBounds i true) x' w'->K (a.put o'.dst (vals x' i)) w')->wpOp P ops Q i K a w)
 (A6:∀D x w,(∀i,i<ops.size->D.getD i false=true)->Wd D x w->Q .normal ⟨slotsOf ops base (vals x),[]⟩ w):
 Code.wp P (.region id ops true) Q ⟨base,[]⟩ w:=by
 refine wp_region_any hm ?_
 have key:∀fuel D x w a,D.size=ops.size->iz ops base (vals x) D a->Wd D x w->(∀i,i<ops.size->D.getD i false=true)\/((List.range ops.size).filter (fun i=> !D.getD i true)).length<=fuel->wpAny P .any ops Q fuel D a w:=by
  intro fuel
  induction fuel with
  |zero=>
   intro D x w a hD bc hw hl
   have hd:∀i,i<ops.size->D.getD i false=true:=by
    rcases hl with hl|hl
    ·exact hl
    ·intro i hi
     refine j_ fun hn=> ?_
     have Ge:i∈(List.range ops.size).filter (fun i=> !D.getD i true):=by
      rw [List.mem_filter]
      refine ⟨by simpa using hi, ?_⟩
      have hlt:i<D.size:=hD▸hi
      simp [Array.getD,hlt] at hn ⊢
      exact hn
     cases hx:(List.range ops.size).filter (fun i=> !D.getD i true) with
     |nil=>rw [hx] at Ge;cases Ge
     |cons y ys=>rw [hx] at hl;simp at hl
   refine ⟨?_, ?_⟩
   ·unfold Region.ready
    rw [List.filter_eq_nil_iff]
    intro i hi
    have lE:i<ops.size:=by simpa using hi
    have hlt:i<D.size:=hD▸lE
    have:=hd i lE
    simp [Array.getD,hlt] at this ⊢
    intro h;rw [this] at h;cases h
   ·rw [bc.done hd];exact A6 D x w hd hw
  |succ fuel ih=>
   intro D x w a hD bc hw hl
   refine ⟨fun he=> ?_,fun i hi=> ?_⟩
   ·have hd:=xX hD hb he
    rw [bc.done hd];exact A6 D x w hd hw
   ·obtain ⟨o',h1,h2,h3,h4⟩:=tj hi
    have Me:i<D.size:=by omega
    have O0:D.getD i false=false:=by simp [Array.getD,Me] at h3 ⊢;exact h3
    refine hstep i o' h1 D x w a hD bc hw O0 h4 _ fun x' w' hv gC=> ?_
    refine ih (D.setIfInBounds i true) x' w' _ (by simpa using hD) (bc.put ho h2 hD h3 h1 hv) gC ?_
    rcases hl with hl|hl
    ·exact absurd (hl i h2) (by rw [O0];simp)
    ·refine .inr ?_
     have Ge:i∈(List.range ops.size).filter (fun i=> !D.getD i true):=by
      rw [List.mem_filter]
      exact ⟨by simpa using h2,by rw [h3];rfl⟩
     have yG:((List.range ops.size).filter fun j=> !(D.setIfInBounds i true).getD j true)=(((List.range ops.size).filter (fun i=> !D.getD i true)).filter fun j=>decide (j≠i)):=by
      rw [List.filter_filter]
      apply List.filter_congr
      intro j hj
      have EL:j<ops.size:=by simpa using hj
      have UI:j<D.size:=by omega
      by_cases e:i=j
      ·subst e;simp [Array.getD,Me]
      ·have e':¬j=i:=fun h=>e h.symm
       simp [Array.getD,UI,e',e]
     have hle:=List.length_filter_lt_length_iff_exists (p:=fun j=>decide (j≠i)) (l:=(List.range ops.size).filter (fun i=> !D.getD i true)) |>.2 ⟨i,Ge,by simp⟩
     rw [<-yG] at hle
     omega
 refine key _ _ _ _ _ (by simp) (oQ ops base (vals kP)) h0 (.inr ?_)
 exact D_ (List.length_filter_le _ _) (by simp)
theorem iY {o:y_} {K:Act->J'->Prop} (ho:ops[i]?=some o) (v:M') (hk:K (a.put o.dst v) w) (hg:o.guard=none:=by exact rfl) (hr:(V' a.eval o).run P w=.ok (.value v) w:=by (try clear aD ho;clear bc hw aA bH qi qn;go_simp)):wpOp P ops Q i K a w:=bj ho hg hr hk
theorem wpN {c:Code} {df:_} {arr:Array M'} (n:Nat) (h:∀bs,arr=bs->bs.size=n->(∀t,bs.getD t I'=arr.getD t I')->Code.wp P c Q ⟨bs,df⟩ w) (hn:arr.size=n:=by exact rfl):Code.wp P c Q ⟨arr,df⟩ w:=h _ rfl hn fun _=>rfl
variable {D:Array Bool}
theorem qI {n:Nat} (hD:D.size=n) (h:i<n):(D.setIfInBounds i true).getD i false=true:=by rw [bq,if_pos ⟨rfl,by rw [hD];exact h⟩]
theorem qN (D:Array Bool) (i j:Nat) (hj:j≠i):(D.setIfInBounds i true).getD j false=D.getD j false:=by rw [bq,if_neg fun e=>hj e.1.symm]
theorem IZ {o:y_} {K:Act->J'->Prop} (v:M') (hk:K (a.put o.dst v) w:=by exact aA.out x w (fun _ _=>rfl) (hw.same qn qi (by decide))) (ho:ops[i]?=some o:=by exact rfl) (hg:o.guard=none:=by exact rfl) (hr:(V' a.eval o).run P w=.ok (.value v) w:=by (try clear aD ho;clear bc hw aA bH qi qn;go_simp)):wpOp P ops Q i K a w:=bj ho hg hr hk
end
section
open Go Go.Conc
def qE (x:Nat) (e:MapEntry):Bool:=match e.key with| .chan (some y)=>x==y|_=>false
def V5 (es:Array MapEntry):Prop:=∀e∈es.toList,∃y,e.key=.chan (some y)
variable {P:U'} {w:J'} {mt kt et e:Q'} {dir:ChanDir} {m x:Nat} {es:Array MapEntry} {clock:Nat}
theorem wM (hk:P.underlying kt=some (.chan dir e)) (a b:Option Nat) (w:J'):(Op.equal kt (.chan a) (.chan b)).run P w=.ok (a==b) w:=by
 show (Op.equalIn (9999+1) kt (.chan a) (.chan b)).run P w=_
 unfold Op.equalIn
 simp [run_underlying hk,Result.andThen]
theorem Be (l:List MapEntry) (hl:l≠[]) (i:Nat):Instr.findNow (.chan dir e) (.chan (some x)) l i=none:=by
 cases l with
 |nil=>exact absurd rfl hl
 |cons a l=>rfl
theorem ko (hk:P.underlying kt=some (.chan dir e)):∀(l:List MapEntry) (i:Nat) (w:J'),(∀a∈l,∃y,a.key=.chan (some y))->
 (Instr.findAsking kt (.chan (some x)) l i).run P w=.ok ((l.findIdx? (qE x)).map fun j=>(i+j,((l[j]?).map (·.val)).getD I')) w
 |[],i,w,_=>by simp [Instr.findAsking]
 |a::l,i,w,h=>by
  obtain ⟨y,hy⟩:=h a (by simp)
  have ih:=ko hk l (i+1) w (fun b hb=>h b (by simp [hb]))
  unfold Instr.findAsking
  simp only [Sem.run_bind,hy,wM hk,Result.andThen]
  by_cases e:x=y
  ·subst e
   have:qE x a=true:=by simp [qE,hy]
   simp [List.findIdx?_cons,this]
  ·have fS:qE x a=false:=by simp [qE,hy,e]
   have hne:((some x:Option Nat)==some y)=false:=by simp [e]
   simp only [hne,qp,if_false,ih,List.findIdx?_cons,fS,Option.map_map]
   congr 1
   cases l.findIdx? (qE x) with
   |none=>rfl
   |some j=>simp;omega
theorem tf (hk:P.underlying kt=some (.chan dir e)) (l:List MapEntry) (w:J') (h:∀a∈l,∃y,a.key=.chan (some y)):
 (Instr.findKey kt (.chan (some x)) l).run P w=.ok ((l.findIdx? (qE x)).map fun j=>(j,((l[j]?).map (·.val)).getD I')) w:=by
 unfold Instr.findKey
 simp only [Sem.run_bind,run_underlying hk,Result.andThen]
 cases l with
 |nil=>simp [Instr.findNow]
 |cons a l=>
  rw [Be _ (by simp)]
  simp only [ko hk (a::l) 0 w h,Nat.zero_add]
theorem rO (hk:P.underlying kt=some (.chan dir e)) (b:Bool) (n:Nat) (c:Option Nat) (w:J'):(Instr.checkKey b (n+1) kt (.chan c)).run P w=.ok () w:=by
 unfold Instr.checkKey
 simp [run_underlying hk,Result.andThen]
end
end Go.aC
namespace Go.aC.Of
section
open Go Go.Conc Go.aC
open Go.ConcN (upd upd_ne upd_same)
structure Keys (P:U') (kt:Q') {K:Type} (enc:K->M'):Prop where
 inj:∀a b,enc a=enc b->a=b
 find:∀(l:List MapEntry) (k:K) (w:J'),(∀e∈l,∃k',e.key=enc k')->∃r:Option (Nat × M'),(Instr.findKey kt (enc k) l).run P w=.ok r w/\
  ((r=none/\∀e∈l,e.key≠enc k)\/∃i e,r=some (i,e.val)/\l[i]?=some e/\e.key=enc k)
 check:∀b n k (w:J'),(Instr.checkKey b (n+1) kt (enc k)).run P w=.ok () w
 stays:∀k (w:J'),(Instr.keyThatStays (enc k) (enc k)).run P w=.ok (enc k) w
structure ed (w:J') (m:Nat) {K:Type} (enc:K->M') (f:K->Option M'):Prop where
 ex:∃es clock,w.heap[m]?=some (.map es clock)/\(∀e∈es.toList,∃k,e.key=enc k/\f k=some e.val)/\(∀k v,f k=some v->∃e∈es.toList,e.key=enc k)/\es.toList.Pairwise fun a b=>a.key≠b.key
variable {w w':J'} {m:Nat}
theorem ed.block {K:Type} {enc:K->M'} {f:K->Option M'} (h:ed w m enc f) (hb:w'.heap[m]?=w.heap[m]?):ed w' m enc f:=by
 obtain ⟨es,clock,h1,h2⟩:=h.ex
 exact ⟨es,clock,hb.trans h1,h2⟩
def World.bK (w:J') (m:Nat) (o:Obj):J':={w with heap:=w.heap.setIfInBounds m o}
variable {P:U'} {mt kt et:Q'} {K:Type} {enc:K->M'} {f:K->Option M'}
theorem ed.lookup (hK:Keys P kt enc) (hm:P.underlying mt=some (.map kt et)) (h:ed w m enc f) (k:K) {z:M'} (hz:∀w:J',(zeroValue et).run P w=.ok z w) (ok:Bool):
 (Instr.lookup mt (.map (some m)) (enc k) ok).run P w=.ok (if ok then .tuple #[(f k).getD z,.bool (f k).isSome] else (f k).getD z) w:=by
 obtain ⟨es,clock,h1,h2,h3,h4⟩:=h.ex
 obtain ⟨r,hr,pv⟩:=hK.find es.toList k w (fun e he=>(h2 e he).imp fun k' fS=>fS.1)
 unfold Instr.lookup
 rcases pv with ⟨rfl,hno⟩|⟨i,e,rfl,hi,yM⟩
 ·have hf:f k=none:=by
   cases Zy:f k with
   |none=>rfl
   |some v=>obtain ⟨e,he,yM⟩:=h3 k v Zy;exact absurd yM (hno e he)
  cases ok<;>simp [run_underlying hm,MapKept.run_getObj_map h1,hK.check,hr,hz,hf,Result.andThen]
 ·obtain ⟨k',fS,hv⟩:=h2 e (List.mem_of_getElem? hi)
  have:k'=k:=hK.inj _ _ (fS.symm.trans yM)
  subst this
  cases ok<;>simp [run_underlying hm,MapKept.run_getObj_map h1,hK.check,hr,hv,Result.andThen]
variable {α:Type} {i:Nat}
theorem Hk {l:List α} {a:α} (h:l[i]?=some a):∃hi:i<l.length,l[i]=a:=List.getElem?_eq_some_iff.1 h
variable {j:Nat}
theorem On {l:List MapEntry} (hp:l.Pairwise fun a b=>a.key≠b.key) {a b:MapEntry} (hi:l[i]?=some a) (hj:l[j]?=some b) (hk:a.key=b.key):i=j:=by
 obtain ⟨lE,rfl⟩:=Hk hi
 obtain ⟨EL,rfl⟩:=Hk hj
 rw [List.pairwise_iff_getElem] at hp
 rcases Nat.lt_trichotomy i j with h|h|h
 ·exact absurd hk (hp i j lE EL h)
 ·exact h
 ·exact absurd hk.symm (hp j i EL lE h)
open Classical in
theorem ed.update (hK:Keys P kt enc) (hm:P.underlying mt=some (.map kt et)) (h:ed w m enc f) (k:K) (v:M'):
 ∃o,(Instr.mapUpdate mt (.map (some m)) (enc k) v).run P w=.ok () (World.bK w m o)/\ed (World.bK w m o) m enc (fun x=>if x=k then some v else f x):=by
 obtain ⟨es,clock,h1,h2,h3,h4⟩:=h.ex
 have hlt:=(cI h1)
 have vD:∀o,(World.bK w m o).heap[m]?=some o:=fun o=>by simp [World.bK,hlt]
 obtain ⟨r,hr,pv⟩:=hK.find es.toList k w (fun e he=>(h2 e he).imp fun k' fS=>fS.1)
 rcases pv with ⟨rfl,hno⟩|⟨i,e,rfl,hi,yM⟩
 ·have hf:f k=none:=by
   cases Zy:f k with
   |none=>rfl
   |some v=>obtain ⟨e,he,yM⟩:=h3 k v Zy;exact absurd yM (hno e he)
  refine ⟨.map (es.push {key:=enc k,val:=v,born:=clock}) (clock+1), ?_,_,_,vD _,fun e he=> ?_,fun x u hx=> ?_, ?_⟩
  ·unfold Instr.mapUpdate
   simp [run_underlying hm,MapKept.run_getObj_map h1,hK.check,hr,MapKept.run_setObj_map _ h1,Result.andThen,World.bK]
  ·simp only [Array.toList_push,List.mem_append,List.mem_singleton] at he
   rcases he with he|rfl
   ·obtain ⟨k',fS,hv⟩:=h2 e he
    refine ⟨k',fS, ?_⟩
    rw [if_neg (by rintro rfl;exact hno e he fS)];exact hv
   ·exact ⟨k,rfl,by simp⟩
  ·by_cases Qp:x=k
   ·subst Qp
    exact ⟨{key:=enc x,val:=v,born:=clock},by simp,rfl⟩
   ·rw [if_neg Qp] at hx
    obtain ⟨e,he,yM⟩:=h3 x u hx
    exact ⟨e,by simp [he],yM⟩
  ·simp only [Array.toList_push]
   rw [List.pairwise_append]
   exact ⟨h4,by simp,fun a ha b hb=>by simp at hb;subst hb;exact hno a ha⟩
 ·have ml:=(Hk hi).choose
  have he0:=(Hk hi).choose_spec
  refine ⟨.map (es.modify i fun e=>{e with key:=enc k,val:=v}) clock, ?_,_,_,vD _,fun a ha=> ?_,fun x u hx=> ?_, ?_⟩
  ·have hes:es[i]?=some e:=by rw [<-Array.getElem?_toList];exact hi
   unfold Instr.mapUpdate
   simp [run_underlying hm,MapKept.run_getObj_map h1,hK.check,hr,MapKept.run_setObj_map _ h1,Result.andThen,World.bK,hes,yM,hK.stays]
  ·obtain ⟨j,hj⟩:=List.getElem?_of_mem ha
   rw [Array.getElem?_toList,Array.getElem?_modify] at hj
   split at hj
   ·rename_i vG
    subst vG
    obtain ⟨e',SC,rfl⟩:=Option.map_eq_some_iff.1 hj
    exact ⟨k,rfl,by simp⟩
   ·rename_i vG
    rw [<-Array.getElem?_toList] at hj
    obtain ⟨k',fS,hv⟩:=h2 a (List.mem_of_getElem? hj)
    refine ⟨k',fS, ?_⟩
    rw [if_neg (by rintro rfl;exact vG (On h4 hi hj (yM.trans fS.symm)))];exact hv
  ·have key:∀e'∈es.toList,∃e''∈(es.modify i fun e=>{e with key:=enc k,val:=v}).toList,e''.key=e'.key:=fun e' SC=>by
    obtain ⟨j,hj⟩:=List.getElem?_of_mem SC
    by_cases vG:i=j
    ·subst vG
     rw [hi] at hj;cases hj
     refine ⟨{e with key:=enc k,val:=v}, ?_,yM.symm⟩
     have hes:es[i]?=some e:=by rw [<-Array.getElem?_toList];exact hi
     exact List.mem_of_getElem? (i:=i) (by rw [Array.getElem?_toList,Array.getElem?_modify];simp [hes])
    ·refine ⟨e', ?_,rfl⟩
     exact List.mem_of_getElem? (i:=j) (by rw [Array.getElem?_toList,Array.getElem?_modify,if_neg vG,<-Array.getElem?_toList];exact hj)
   by_cases Qp:x=k
   ·subst Qp
    obtain ⟨e'',h5,h6⟩:=key e (List.mem_of_getElem? hi)
    exact ⟨e'',h5,h6.trans yM⟩
   ·rw [if_neg Qp] at hx
    obtain ⟨e',SC,Nw⟩:=h3 x u hx
    obtain ⟨e'',h5,h6⟩:=key e' SC
    exact ⟨e'',h5,h6.trans Nw⟩
  ·rw [List.pairwise_iff_getElem] at h4 ⊢
   intro a c ha hc ZT
   simp only [Array.length_toList,Array.size_modify] at ha hc
   have ka:∀j (hj:j<es.size),((es.modify i fun e=>{e with key:=enc k,val:=v}).toList[j]'(by simpa using hj)).key=(es.toList[j]'(by simpa using hj)).key:=fun j hj=>by
    simp only [Array.getElem_toList,Array.getElem_modify]
    split
    ·rename_i vG
     subst vG
     rw [<-he0] at yM
     simpa using yM.symm
    ·rfl
   rw [ka a ha,ka c hc]
   exact h4 a c (by simpa using ha) (by simpa using hc) ZT
open Classical in
theorem ed.delete (hK:Keys P kt enc) (hm:P.underlying mt=some (.map kt et)) (h:ed w m enc f) (k:K) (ty Qh:Q'):
 ∃o,(Builtin.delete_ #[mt,Qh] ty #[.map (some m),enc k]).run P w=.ok (.tuple #[]) (World.bK w m o)/\ed (World.bK w m o) m enc (fun x=>if x=k then none else f x):=by
 obtain ⟨es,clock,h1,h2,h3,h4⟩:=h.ex
 have hlt:=(cI h1)
 have vD:∀o,(World.bK w m o).heap[m]?=some o:=fun o=>by simp [World.bK,hlt]
 obtain ⟨r,hr,pv⟩:=hK.find es.toList k w (fun e he=>(h2 e he).imp fun k' fS=>fS.1)
 rcases pv with ⟨rfl,hno⟩|⟨i,e,rfl,hi,yM⟩
 ·refine ⟨.map es clock, ?_,_,_,vD _,fun e he=> ?_,fun x u hx=> ?_,h4⟩
  ·unfold Builtin.delete_
   simp [run_underlying hm,MapKept.run_getObj_map h1,hK.check,hr,MapKept.run_setObj_map _ h1,Result.andThen,World.bK]
  ·obtain ⟨k',fS,hv⟩:=h2 e he
   exact ⟨k',fS,by rw [if_neg (by rintro rfl;exact hno e he fS)];exact hv⟩
  ·split at hx
   ·cases hx
   ·exact h3 x u hx
 ·have ml:=(Hk hi).choose
  have yG:(es.eraseIdxIfInBounds i).toList=es.toList.eraseIdx i:=by
   simp only [Array.length_toList] at ml
   simp [Array.eraseIdxIfInBounds,ml]
  refine ⟨.map (es.eraseIdxIfInBounds i) clock, ?_,_,_,vD _,fun a ha=> ?_,fun x u hx=> ?_, ?_⟩
  ·unfold Builtin.delete_
   simp [run_underlying hm,MapKept.run_getObj_map h1,hK.check,hr,MapKept.run_setObj_map _ h1,Result.andThen,World.bK]
  ·rw [yG,List.mem_eraseIdx_iff_getElem?] at ha
   obtain ⟨j,SA,hj⟩:=ha
   obtain ⟨k',fS,hv⟩:=h2 a (List.mem_of_getElem? hj)
   exact ⟨k',fS,by rw [if_neg (by rintro rfl;exact SA (On h4 hj hi (fS.trans yM.symm)))];exact hv⟩
  ·split at hx
   ·cases hx
   ·rename_i Qp
    obtain ⟨e',SC,Nw⟩:=h3 x u hx
    refine ⟨e', ?_,Nw⟩
    rw [yG,List.mem_eraseIdx_iff_getElem?]
    obtain ⟨j,hj⟩:=List.getElem?_of_mem SC
    refine ⟨j,fun SA=>Qp ?_,hj⟩
    subst SA
    rw [hi] at hj;cases hj
    exact hK.inj _ _ (Nw.symm.trans yM)
  ·rw [yG]
   exact h4.sublist (List.eraseIdx_sublist _ _)
theorem JS (hk:P.underlying kt=some (.int .i64)):Keys P kt (ah .i64):=by
 refine ⟨fun a b h=>by injection h,fun l k w hl=> ?_,fun b n k w=> ?_,fun k w=> ?_⟩
 ·have key:∀(l:List MapEntry) (i:Nat),(∀e∈l,∃k',e.key=ah .i64 k')->∃r:Option (Nat × M'),Instr.findNow (.int .i64) (.int .i64 k) l i=some r/\((r=none/\∀e∈l,e.key≠.int .i64 k)\/∃j e,r=some (i+j,e.val)/\l[j]?=some e/\e.key=.int .i64 k):=by
   intro l
   induction l with
   |nil=>exact fun i _=>⟨none,rfl,.inl ⟨rfl,by simp⟩⟩
   |cons a l ih=>
    intro i hl
    obtain ⟨k',fS⟩:=hl a (by simp)
    by_cases e:k=k'
    ·subst e
     exact ⟨some (i,a.val),by simp [Instr.findNow,Instr.sameNow,fS],.inr ⟨0,a,by simp,rfl,fS⟩⟩
    ·obtain ⟨r,hr,hc⟩:=ih (i+1) (fun e he=>hl e (by simp [he]))
     have hne:(k==k')=false:=beq_eq_false_iff_ne.2 e
     refine ⟨r,by simp [Instr.findNow,Instr.sameNow,fS,hne,hr], ?_⟩
     rcases hc with ⟨rfl,hno⟩|⟨j,e',rfl,hj,Zm⟩
     ·refine .inl ⟨rfl,fun x hx=> ?_⟩
      rcases List.mem_cons.1 hx with rfl|hx
      ·rw [fS];intro h;injection h with _ h;exact e h.symm
      ·exact hno x hx
     ·exact .inr ⟨j+1,e',by rw [show i+1+j=i+(j+1) by omega],by simpa using hj,Zm⟩
  obtain ⟨r,hr,hc⟩:=key l 0 hl
  refine ⟨r, ?_, ?_⟩
  ·unfold Instr.findKey
   simp [run_underlying hk,hr,Result.andThen]
  ·rcases hc with h|⟨j,e,h1,h2,h3⟩
   ·exact .inl h
   ·exact .inr ⟨j,e,by simpa using h1,h2,h3⟩
 ·unfold Instr.checkKey
  simp [run_underlying hk,Result.andThen]
 ·unfold Instr.keyThatStays
  simp [Instr.sameBits]
def Bl (x:Nat):M':=.chan (some x)
theorem Hy {e:Q'} {dir:ChanDir} (hk:P.underlying kt=some (.chan dir e)):Keys P kt Bl:=by
 refine ⟨fun a b h=>by injection h with h;injection h,fun l k w hl=> ?_,fun b n k w=>rO hk b n (some k) w,fun k w=> ?_⟩
 ·have h0:=tf (x:=k) hk l w hl
  refine ⟨_,h0, ?_⟩
  cases hi:l.findIdx? (qE k) with
  |none=>
   refine .inl ⟨rfl,fun e he yM=> ?_⟩
   rw [List.findIdx?_eq_none_iff] at hi
   have:=hi e he
   simp [qE,yM,Bl] at this
  |some j=>
   obtain ⟨hj,h1,_⟩:=List.findIdx?_eq_some_iff_getElem.1 hi
   obtain ⟨y,hy⟩:=hl l[j] (List.getElem_mem hj)
   refine .inr ⟨j,l[j],by simp [G_ hj],G_ hj, ?_⟩
   simp [qE,hy,Bl] at h1
   rw [hy,h1]
 ·unfold Instr.keyThatStays Bl
  simp [Instr.sameBits]
end
section
open Go Go.Conc Go.aC Go.RowKit Go.Proofs
open Go.ConcN (upd upd_ne upd_same)
abbrev Bs:=List UInt8
structure Rec where
 call:Int
 line:Int
 op:Int
 jy:Int
 heard:Int
 wI:Int
 fin:Bs
def Rec.cells (r:Rec):List M':=[.int .i64 r.call,.int .i64 r.line,.int .i64 r.op,.int .i64 r.jy,.int .i64 r.heard,.int .i64 r.wI,.string ⟨r.fin.toArray⟩]
def cj (rs:List Rec):List M':=rs.flatMap Rec.cells
def ax (ws:List (Int × Int)):List M':=ws.flatMap fun p=>[.int .i64 p.1,.int .i64 p.2]
structure Hs where
 lines:List Nat
 on:Nat->Option Int
 of:Int->Option Nat
 rc:Int->Option Nat
 wait:List (Int × Int)
 back:List Int
 recs:List Rec
 clock:Int
 log:List Bs
 cg:List Int
structure Ha where
 B:Nat
 hb:Nat
 lb:Nat
 cl:Nat
 ob:Nat
 co:Nat
 m:Nat
 m1:Nat
 m2:Nat
 m3:Nat
 L:Int
 O:Int
 P:Int
 n0:Nat
 h0:Array Obj
structure Ha.Ok (A:Ha):Prop where
 hb:A.hb<A.B
 lb:A.lb<A.B
 ob:A.ob<A.B
 m1:A.m1<A.B
 m2:A.m2<A.B
 m3:A.m3<A.B
 d1:A.hb≠A.m1/\A.hb≠A.m2/\A.hb≠A.m3/\A.m1≠A.m2/\A.m1≠A.m3/\A.m2≠A.m3
 d2:A.lb≠A.hb/\A.lb≠A.m1/\A.lb≠A.m2/\A.lb≠A.m3
 d3:A.ob≠A.hb/\A.ob≠A.m1/\A.ob≠A.m2/\A.ob≠A.m3
def ug (A:Ha) (n:Nat) (clock:Int) (vw vb vr va vt:M'):Array M':=
 #[.int .i64 A.L,.int .i64 A.O,.int .i64 A.P,.slice (some ⟨A.lb,0,none⟩) n A.cl,.map (some A.m1),.map (some A.m2),.slice (some ⟨A.ob,0,none⟩) A.m A.co,vw,vb,vr,.map (some A.m3),.int .i64 clock,va,vt]
structure aQ (A:Ha) (S:Hs) (vw vb vr va vt:M') (w:J'):Prop where
 ok:A.Ok
 big:A.B<=w.heap.size
 box:w.heap[A.hb]?=some (.cells (ug A S.lines.length S.clock vw vb vr va vt) 77 (0,0))
 lines:∀i (h:i<S.lines.length),w.cell? ⟨A.lb,i,none⟩=some (.chan (some S.lines[i]))
 on:ed w A.m1 Bl fun x=>(S.on x).map (ah .i64)
 of:ed w A.m2 (ah .i64) fun c=>(S.of c).map fun x=>.chan (some x)
 rc:ed w A.m3 (ah .i64) fun c=>(S.rc c).map fun i=>.int .i64 (i:Nat)
 wait:w.ownsRow A.B 84 2 vw S.wait.length (ax S.wait)
 back:w.ownsRow A.B 3 1 vb S.back.length (S.back.map (ah .i64))
 recs:w.ownsRow A.B 44 7 vr S.recs.length (cj S.recs)
 log:w.ownsRow A.B 9 1 va S.log.length (S.log.map fun s=>Value.string ⟨s.toArray⟩)
 cg:w.ownsRow A.B 3 1 vt S.cg.length (S.cg.map (ah .i64))
 apart:vb.ownBlock=none\/vb.ownBlock≠vt.ownBlock
def cQ (A:Ha) (va vt:M') (S:Hs) (w:J'):Prop:=∃vw vb vr,aQ A S vw vb vr va vt w
structure Fr (A:Ha) (w w':J'):Prop where
 os:w'.os=w.os
 tape:w'.tape=w.tape
 output:w'.output=w.output
 size:w.heap.size<=w'.heap.size
 block:∀i,i<A.B->i≠A.hb->i≠A.m1->i≠A.m2->i≠A.m3->w'.heap[i]?=w.heap[i]?
theorem Fr.refl (A:Ha) (w:J'):Fr A w w:=⟨rfl,rfl,rfl,C_ _,fun _ _ _ _ _ _=>rfl⟩
variable {A:Ha} {b:J'}
theorem Fr.trans {a c:J'} (h:Fr A a b) (k:Fr A b c):Fr A a c:=⟨k.os.trans h.os,k.tape.trans h.tape,k.output.trans h.output,D_ h.size k.size,fun i a b c d e=>(k.block i a b c d e).trans (h.block i a b c d e)⟩
theorem pe:Keys p_ 3 (ah .i64):=JS Tryz.underlying3
theorem zo:Keys p_ 78 Bl:=Hy Tryz.underlying78
theorem BO (w:J'):(zeroValue 3).run p_ w=.ok (.int .i64 0) w:=by have:=Tryz.zeroValue3 (w:=w);exact this
theorem qQ (w:J'):(zeroValue 78).run p_ w=.ok (.chan none) w:=by have:=Tryz.zeroValue78 (w:=w);exact this
section
variable {P:U'} (w:J') {ops:Array y_} {rest:List y_} {o:y_} {a:Act} {Q:Exit->Act->J'->Prop} {K:Type} {enc:K->M'} {f:K->Option M'} {kt et:Q'}
theorem cU (hg:o.guard=none) (m x:Operand) (t:Q') (ok:Bool) (hop:o.op=Op.lookup t m x ok) (hK:Keys P kt enc) (ht:P.underlying t=some (.map kt et)) (b:Nat) (hm:a.eval m=.map (some b)) (h:ed w b enc f) (k:K) (hx:a.eval x=enc k) {z:M'} (hz:∀w:J',(zeroValue et).run P w=.ok z w)
 (hk:wpList P ops Q rest (a.put o.dst (if ok then .tuple #[(f k).getD z,.bool (f k).isSome] else (f k).getD z)) w):wpList P ops Q (o::rest) a w:=by
 refine wpList_plain hg fun K' hK'=> ?_
 have hrun:=h.lookup hK ht k hz ok
 unfold Oper.wp
 simp [V',hop,hm,hx,hrun,Result.andThen]
 exact hK' _ _ hk
open Classical in
theorem kn (hg:o.guard=none) (m x v:Operand) (t:Q') (hop:o.op=Op.mapUpdate t m x v) (hK:Keys P kt enc) (ht:P.underlying t=some (.map kt et)) (b:Nat) (hm:a.eval m=.map (some b)) (h:ed w b enc f) (k:K) (hx:a.eval x=enc k) (val:M') (hv:a.eval v=val)
 (hk:∀ob,ed (World.bK w b ob) b enc (fun x=>if x=k then some val else f x)->wpList P ops Q rest (a.put o.dst I') (World.bK w b ob)):wpList P ops Q (o::rest) a w:=by
 refine wpList_plain hg fun K' hK'=> ?_
 obtain ⟨ob,hrun,h2⟩:=h.update hK ht k val
 unfold Oper.wp
 simp [V',hop,hm,hx,hv,hrun,Result.andThen]
 exact hK' _ _ (hk ob h2)
open Classical in
theorem sZ (hg:o.guard=none) (m x:Operand) (t Qh:Q') (hop:o.op=Op.call {callee:=Callee.builtin Builtin.delete,args:=#[m,x],argTypes:=#[t,Qh]}) (hK:Keys P kt enc) (ht:P.underlying t=some (.map kt et)) (b:Nat) (hm:a.eval m=.map (some b)) (h:ed w b enc f) (k:K) (hx:a.eval x=enc k)
 (hk:∀ob,ed (World.bK w b ob) b enc (fun x=>if x=k then none else f x)->wpList P ops Q rest (a.put o.dst (.tuple #[])) (World.bK w b ob)):wpList P ops Q (o::rest) a w:=by
 refine wpList_plain hg fun K' hK'=> ?_
 obtain ⟨ob,hrun,h2⟩:=h.delete hK ht k o.type Qh
 unfold Oper.wp
 simp [V',hop,resolve,invoke,builtin,hm,hx,hrun,Result.andThen]
 exact hK' _ _ (hk ob h2)
end
variable {w:J'}
theorem aB {b o:Nat} {c:Array M'} {t:Q'} {f:Nat × Nat} (h:w.heap[b]?=some (.cells c t f)):w.cell? ⟨b,o,none⟩=c[o]?:=by
 simp [World.cell?,h]
theorem bX {b o:Nat} {c:Array M'} {t:Q'} (h:w.heap[b]?=some (.cells c t (0,0))):w.frozen? ⟨b,o,none⟩=false:=by
 simp [World.frozen?,h]
variable {S:Hs} {vw vb vr va vt:M'} {w':J'}
theorem aQ.c (h:aQ A S vw vb vr va vt w):w.cell? ⟨A.hb,3,none⟩=some (.slice (some ⟨A.lb,0,none⟩) S.lines.length A.cl)/\w.cell? ⟨A.hb,4,none⟩=some (.map (some A.m1))/\w.cell? ⟨A.hb,5,none⟩=some (.map (some A.m2))/\w.cell? ⟨A.hb,6,none⟩=some (.slice (some ⟨A.ob,0,none⟩) A.m A.co)/\w.cell? ⟨A.hb,7,none⟩=some vw/\w.cell? ⟨A.hb,8,none⟩=some vb/\w.cell? ⟨A.hb,9,none⟩=some vr/\w.cell? ⟨A.hb,10,none⟩=some (.map (some A.m3))/\w.cell? ⟨A.hb,11,none⟩=some (.int .i64 S.clock)/\w.cell? ⟨A.hb,12,none⟩=some va/\w.cell? ⟨A.hb,13,none⟩=some vt:=by
 refine ⟨?_, ?_, ?_, ?_, ?_, ?_, ?_, ?_, ?_, ?_, ?_⟩<;>(rw [aB h.box];rfl)
theorem aQ.z (h:aQ A S vw vb vr va vt w) (j:Nat):w.frozen? ⟨A.hb,j,none⟩=false:=bX h.box
end
section
open Go Go.Conc Go.Conc.Lib Go.ConcR Go.ConcR.Gen Go.aC Go.Proofs
open Go.RowKit hiding Hid
open Go.ConcN (upd upd_ne upd_same)
theorem aa {p:Prop} (h:p):f_ p:=h
variable {w w':J'} {m:Nat}
theorem ed.heap {K:Type} {enc:K->M'} {f:K->Option M'} (h:ed w m enc f) (e:w'.heap=w.heap):ed w' m enc f:=h.block (by rw [e])
variable {A:Ha} {S:Hs} {vb vr va vt:M'}
theorem aQ.heap {vw:M'} (h:aQ A S vw vb vr va vt w) (e:w'.heap=w.heap):aQ A S vw vb vr va vt w':=by
 have own:∀{e1 s n:Nat} {v:M'} {xs:List M'},w.ownsRow A.B e1 s v n xs->w'.ownsRow A.B e1 s v n xs:=fun {e1 s n v xs} hh=>by
  refine ⟨hh.1,hh.2.imp id fun ⟨g,cap,cur,h1,h2,h3,h4⟩=>⟨g,cap,cur,h1,h2,by rw [e];exact h3,h4⟩⟩
 exact ⟨h.ok,by rw [e];exact h.big,by rw [e];exact h.box,fun i hi=>(J_ (by rw [e])).trans (h.lines i hi),h.on.heap e,h.of.heap e,h.rc.heap e,own h.wait,own h.back,own h.recs,own h.log,own h.cg,h.apart⟩
def gf (S:Hs):Int:=match S.lines.findIdx? (fun x=>(S.on x).isNone) with|some i=>(i:Nat)|none=> -1
variable {k:Nat}
theorem E0 (hk:k<S.lines.length) (h0:S.on S.lines[k]=none) (h:∀j (hj:j<k),(S.on (S.lines[j]'(by omega))).isSome=true):gf S=(k:Nat):=by
 have:S.lines.findIdx? (fun x=>(S.on x).isNone)=some k:=by
  rw [List.findIdx?_eq_some_iff_getElem]
  refine ⟨hk,by simp [h0],fun j hj=> ?_⟩
  have:=h j hj
  cases hx:S.on (S.lines[j]'(by omega)) with
  |none=>rw [hx] at this;cases this
  |some _=>simp
 unfold gf;rw [this]
theorem E1 (h:∀j (hj:j<S.lines.length),(S.on S.lines[j]).isSome=true):gf S= -1:=by
 have:S.lines.findIdx? (fun x=>(S.on x).isNone)=none:=by
  rw [List.findIdx?_eq_none_iff]
  intro x hx
  obtain ⟨j,hj,rfl⟩:=List.mem_iff_getElem.1 hx
  have:=h j hj
  cases hx:S.on S.lines[j] with
  |none=>rw [hx] at this;cases this
  |some _=>rfl
 unfold gf;rw [this]
theorem kK {vw:M'} (h:aQ A S vw vb vr va vt w) (hn:S.lines.length<=1000):
 d_ p_ 128 #[.pointer (some ⟨A.hb,0,none⟩)] w fun e w'=>e=.returned (.int .i64 (gf S))/\w'=w:=by
 obtain ⟨c3,c4,c5,c6,c7,c8,c9,W5,Ig,c12,c13⟩:=h.c
 have hL:=aa h.lines
 have b9:=h.on
 clear h c5 c6 c7 c8 c9 W5 Ig c12 c13
 go_enter func128,ntmps128
 go_wp2
 go_loopw [12] (fun i wr=>∃k:Nat,k<=S.lines.length/\i=.int .i64 k/\f_ (∀j (hj:j<k) (Dy:j<S.lines.length),(S.on S.lines[j]).isSome=true)/\w=wr) (fun i _=>S.lines.length - (intOf i).toNat)
 case atStart=>exact ⟨0,nz _,rfl,fun j hj=>by omega,rfl⟩
 case round=>
  obtain ⟨k,hk,rfl,hT,rfl⟩:=hrel
  by_cases hlt:k<S.lines.length
  ·have gJ:(k:Int)<(S.lines.length:Int):=by omega
   have hcell:=hL.out k hlt
   have dS:f_ (S.on S.lines[k]=none->gf S=(k:Nat)):=fun h0=>E0 hlt h0 (fun j hj=>hT.out j hj (by omega))
   have eF:f_ ((S.on S.lines[k]).isSome=true->∀j (hj:j<k+1) (Dy:j<S.lines.length),(S.on S.lines[j]).isSome=true):=fun h0 j hj Dy=>by
    by_cases e:j=k
    ·subst e;exact h0
    ·exact hT.out j (by omega) Dy
   generalize S.lines[k]=x at hcell dS eF
   cases hx:S.on x with
   |none=>
    have h1:=dS.out hx
    clear dS eF
    go_wp2_with (at_lookup;refine cU _ rfl _ _ 71 true rfl zo Tryz.underlying71 A.m1 rfl b9 x rfl BO ?_;simp only [hx,Option.map_none,Option.getD_none,Option.isSome_none,if_true])
    go_ret
    exact ⟨by rw [h1];rfl,rfl⟩
   |some c=>
    have h1:=aa (eF.out (by rw [hx];rfl))
    clear dS eF
    go_wp2_with (at_lookup;refine cU _ rfl _ _ 71 true rfl zo Tryz.underlying71 A.m1 rfl b9 x rfl BO ?_;simp only [hx,Option.map_some,A_,Option.isSome_some,if_true])
    go_roundw
    case rel=>exact ⟨k+1,by omega,by go_num,h1,trivial⟩
    case measure=>simp [intOf];omega
  ·have h1:=E1 (S:=S) fun j hj=>hT.out j (by omega) hj
   go_wp2
   go_ret
   exact ⟨by rw [h1];rfl,rfl⟩
theorem Fr.of_heap (h:w'.heap=w.heap) (ho:w'.os=w.os) (ht:w'.tape=w.tape) (hu:w'.output=w.output):Fr A w w':=⟨ho,ht,hu,Nat.le_of_eq (congrArg Array.size h).symm,fun _ _ _ _ _ _=>by rw [h]⟩
variable {B sz:Nat} {xs:List M'}
theorem cz {e n:Nat} {v:M'} (h:w.ownsRow B e sz v n xs) (hn:0<n):∃g cap cur,v=.slice (some ⟨g,0,none⟩) n cap/\B<=g/\w.heap[g]?=some (.cells cur e (0,0))/\n<=cap/\cap<=maxLen/\cur.size=cap * sz/\cur.toList.take (n * sz)=xs:=by
 rcases h.2 with ⟨_,h0⟩|h
 ·omega
 ·exact h
variable {i g:Nat}
theorem jL {vw:M'} (h:aQ A S vw vb vr va vt w) {c:Int} (hc:S.rc c=some i) (hi:i<S.recs.length) {cap:Nat} (hv:vr=.slice (some ⟨g,0,none⟩) S.recs.length cap) (hb:S.recs.length<=100000):
 d_ p_ 134 #[.pointer (some ⟨A.hb,0,none⟩),.int .i64 c] w fun e w'=>e=.returned (.pointer (some ⟨g,i * 7,none⟩))/\w'.heap=w.heap/\Fr A w w':=by
 obtain ⟨c3,c4,c5,c6,c7,c8,c9,W5,Ig,c12,c13⟩:=h.c
 have mj:=h.rc
 subst hv
 have h1:(Int.ofNat i)<(S.recs.length:Int):=by exact Int.ofNat_lt.2 hi
 generalize S.recs.length=n at hi hb c9 h1 ⊢
 clear h c3 c4 c5 c6 c7 c8 Ig c12 c13
 have Sy:Sem.run p_ (Instr.lookup 75 (Value.map (some A.m3)) (ah IntKind.i64 c) false) w.drew=.ok (.int .i64 (Int.ofNat i)) w.drew:=by
  have:=(mj.heap (w':=World.drew w) rfl).lookup pe Tryz.underlying75 c (z:=.int .i64 0) (fun w=>BO w) false
  rw [hc] at this;exact this
 go_enter func134,ntmps134
 go_wp2
 go_region
 go_wp2
 go_ret
 all_goals exact ⟨rfl,rfl,Fr.of_heap rfl rfl rfl rfl⟩
theorem bG {o:Obj} (h:i≠m):(World.bK w m o).heap[i]?=w.heap[i]?:=by
 simp only [World.bK];rw [Y_];rw [if_neg (fun e=>h e.symm)]
theorem jT {o:Obj}:(World.bK w m o).heap.size=w.heap.size:=by simp [World.bK]
variable {B' e' s' n':Nat} {v':M'} {Sk:List M'}
theorem gF {e s n:Nat} {v:M'} (h:w.ownsRow B e s v n xs) (h':w.ownsRow B' e' s' v' n' Sk) (hne:e≠e'):v.ownBlock=none\/v.ownBlock≠v'.ownBlock:=by
 rcases h.2 with ⟨rfl,_⟩|⟨g,cap,cur,rfl,_,hg,_⟩
 ·exact .inl rfl
 ·right
  rcases h'.2 with ⟨rfl,_⟩|⟨g',cap',yR,rfl,_,iJ,_⟩
  ·simp [Value.ownBlock]
  ·intro e1
   simp only [Value.ownBlock,n_] at e1
   subst e1
   rw [hg] at iJ
   simp at iJ
   exact hne iJ.2
variable {vw:M'}
theorem cH {e s n:Nat} {v:M'} (h:w.ownsRow B e s v n xs) (hs:∀g,B<=g->g<w.heap.size->w'.heap[g]?=w.heap[g]?):w'.ownsRow B e s v n xs:=by
 refine ⟨h.1, ?_⟩
 rcases h.2 with h0|⟨g,cap,cur,h1,h2,h3,h4⟩
 ·exact .inl h0
 ·refine .inr ⟨g,cap,cur,h1,h2, ?_,h4⟩
  rw [hs g h2 (cI h3)];exact h3
open Classical in
theorem aQ.N9 (h:aQ A S vw vb vr va vt w) {o:Obj} {f:Nat->Option Int} (hm:ed (World.bK w A.m1 o) A.m1 Bl fun x=>(f x).map (ah .i64)):aQ A {S with on:=f} vw vb vr va vt (World.bK w A.m1 o):=by
 obtain ⟨d1,d2,d3,d4,d5,d6⟩:=h.ok.d1
 obtain ⟨e1,e2,e3,e4⟩:=h.ok.d2
 have hs:∀i,A.B<=i->i<w.heap.size->(World.bK w A.m1 o).heap[i]?=w.heap[i]?:=fun i hi _=>bG (by have:=h.ok.m1;omega)
 exact ⟨h.ok,by rw [jT];exact h.big,by rw [bG d1];exact h.box,fun i hi=>(J_ (bG e2)).trans (h.lines i hi),hm,h.of.block (bG (ru d4)),h.rc.block (bG (ru d5)),
  cH h.wait hs,cH h.back hs,cH h.recs hs,cH h.log hs,cH h.cg hs,h.apart⟩
theorem aQ.setOf (h:aQ A S vw vb vr va vt w) {o:Obj} {f:Int->Option Nat} (hm:ed (World.bK w A.m2 o) A.m2 (ah .i64) fun x=>(f x).map fun x=>.chan (some x)):aQ A {S with of:=f} vw vb vr va vt (World.bK w A.m2 o):=by
 obtain ⟨d1,d2,d3,d4,d5,d6⟩:=h.ok.d1
 obtain ⟨e1,e2,e3,e4⟩:=h.ok.d2
 have hs:∀i,A.B<=i->i<w.heap.size->(World.bK w A.m2 o).heap[i]?=w.heap[i]?:=fun i hi _=>bG (by have:=h.ok.m2;omega)
 exact ⟨h.ok,by rw [jT];exact h.big,by rw [bG d2];exact h.box,fun i hi=>(J_ (bG e3)).trans (h.lines i hi),h.on.block (bG d4),hm,h.rc.block (bG (ru d6)),
  cH h.wait hs,cH h.back hs,cH h.recs hs,cH h.log hs,cH h.cg hs,h.apart⟩
theorem aQ.Tb (h:aQ A S vw vb vr va vt w) {o:Obj} {f:Int->Option Nat} (hm:ed (World.bK w A.m3 o) A.m3 (ah .i64) fun x=>(f x).map fun i=>.int .i64 (i:Nat)):aQ A {S with rc:=f} vw vb vr va vt (World.bK w A.m3 o):=by
 obtain ⟨d1,d2,d3,d4,d5,d6⟩:=h.ok.d1
 obtain ⟨e1,e2,e3,e4⟩:=h.ok.d2
 have hs:∀i,A.B<=i->i<w.heap.size->(World.bK w A.m3 o).heap[i]?=w.heap[i]?:=fun i hi _=>bG (by have:=h.ok.m3;omega)
 exact ⟨h.ok,by rw [jT];exact h.big,by rw [bG d3];exact h.box,fun i hi=>(J_ (bG e4)).trans (h.lines i hi),h.on.block (bG d5),h.of.block (bG d6),hm,
  cH h.wait hs,cH h.back hs,cH h.recs hs,cH h.log hs,cH h.cg hs,h.apart⟩
theorem Fr.bK {o:Obj} (hm:m=A.m1\/m=A.m2\/m=A.m3):Fr A w (World.bK w m o):=⟨rfl,rfl,rfl,by rw [jT];exact C_ _,fun i _ _ h1 h2 h3=>bG (by rcases hm with rfl|rfl|rfl<;>assumption)⟩
theorem aQ.grown (h:aQ A S vw vb vr va vt w) {row:Option Nat} (hg:w.grownBy w' row) (hr:∀g,row=some g->A.B<=g) {v:M'} {jA qS qb IX Io:M'} {S':Hs}
 (ZL:(ug A S.lines.length S.clock vw vb vr va vt).setIfInBounds k v=ug A S'.lines.length S'.clock jA qS qb IX Io) (hl:S'.lines=S.lines) (b9:S'.on=S.on) (kE:S'.of=S.of) (mj:S'.rc=S.rc)
 (h1:w'.ownsRow A.B 84 2 jA S'.wait.length (ax S'.wait)) (h2:w'.ownsRow A.B 3 1 qS S'.back.length (S'.back.map (ah .i64))) (h3:w'.ownsRow A.B 44 7 qb S'.recs.length (cj S'.recs))
 (h4:w'.ownsRow A.B 9 1 IX S'.log.length (S'.log.map fun s=>Value.string ⟨s.toArray⟩)) (h5:w'.ownsRow A.B 3 1 Io S'.cg.length (S'.cg.map (ah .i64))) (h6:qS.ownBlock=none\/qS.ownBlock≠Io.ownBlock):
 aQ A S' jA qS qb IX Io (w'.setCell ⟨A.hb,k,none⟩ v)/\Fr A w (w'.setCell ⟨A.hb,k,none⟩ v):=by
 have low:∀i,i<A.B->w'.heap[i]?=w.heap[i]?:=fun i hi=>hg.block i (E_ hi h.big) (fun e=>by have:=hr i e.symm;omega)
 have ne:∀i,i≠A.hb->(w'.setCell ⟨A.hb,k,none⟩ v).heap[i]?=w'.heap[i]?:=fun i hi=>a_ w' ⟨A.hb,k,none⟩ i v hi
 have own:∀{e s n:Nat} {v1:M'} {xs:List M'},w'.ownsRow A.B e s v1 n xs->(w'.setCell ⟨A.hb,k,none⟩ v).ownsRow A.B e s v1 n xs:=fun hh=>cH hh fun g hg _=>ne g (by have:=h.ok.hb;omega)
 obtain ⟨d1,d2,d3,d4,d5,d6⟩:=h.ok.d1
 obtain ⟨e1,e2,e3,e4⟩:=h.ok.d2
 refine ⟨⟨h.ok, ?_, ?_, ?_, ?_, ?_, ?_,own h1,own h2,own h3,own h4,own h5,h6⟩,hg.os,hg.tape,hg.output, ?_,fun i hi hn _ _ _=>(ne i hn).trans (low i hi)⟩
 ·simp only [o_];exact D_ h.big hg.size
 ·rw [<-ZL];exact b_ w' A.hb k _ 77 v ((low _ h.ok.hb).trans h.box)
 ·intro i hi
  have lE:i<S.lines.length:=hl▸hi
  have:=(J_ (a:=⟨A.lb,i,none⟩) ((ne _ e1).trans (low _ h.ok.lb))).trans (h.lines i lE)
  simpa only [hl] using this
 ·rw [b9];exact h.on.block ((ne _ (ru d1)).trans (low _ h.ok.m1))
 ·rw [kE];exact h.of.block ((ne _ (ru d2)).trans (low _ h.ok.m2))
 ·rw [mj];exact h.rc.block ((ne _ (ru d3)).trans (low _ h.ok.m3))
 ·simp only [o_];exact hg.size
def eR:Bs:=[111,112,101,110]
def kT (S:Hs) (c:Int) (l:Nat):Rec:=⟨c,(l:Int)+1,0,S.clock, -1, -1,eR⟩
def conn (S:Hs) (c:Int) (l x:Nat):Hs:={S with on:=fun y=>if y=x then some c else S.on y,of:=fun y=>if y=c then some x else S.of y,rc:=fun y=>if y=c then some S.recs.length else S.rc y,recs:=S.recs++[kT S c l]}
theorem EA:(Tryz.prog.info? 44).map (fun i=>(i.zero,i.size,i.bytes))=some (some (.agg #[.int .i64 0,.int .i64 0,.int .i64 0,.int .i64 0,.int .i64 0,.int .i64 0,.string ⟨#[]⟩]),7,64):=by kernel_rfl
theorem nG (a b:List Rec):cj (a++b)=cj a++cj b:=by simp [cj]
theorem aE {e n:Nat} {v:M'} (h:w.ownsRow B e sz v n xs):∃a cap,v=.slice a n cap:=by
 rcases h.2 with ⟨h0,h1⟩|⟨g,cap,cur,h1,_⟩
 ·exact ⟨none,0,by rw [h0,h1]⟩
 ·exact ⟨_,_,h1⟩
theorem pU {e n:Nat} {v:M'} (h:w.ownsRow B e sz v n xs) (g:Nat) (hg:v.ownBlock=some g):B<=g:=(h.lt g hg).1
theorem bU {e s n:Nat} {v:M'} (h:w.ownsRow B e s v n xs) (h':w.ownsRow B' e' s' v' n' Sk) (hne:e≠e') (hg:w.grownBy w' v'.ownBlock):w'.ownsRow B e s v n xs:=h.kept hg (gF h h' hne)
theorem aQ.push (h:aQ A S vw vb vr va vt w) {rs:List Rec} (hg:w.grownBy w' vr.ownBlock) (ho:w'.ownsRow A.B 44 7 v' rs.length (cj rs)):
 aQ A {S with recs:=rs} vw vb v' va vt (w'.setCell ⟨A.hb,9,none⟩ v')/\Fr A w (w'.setCell ⟨A.hb,9,none⟩ v'):=
 h.grown hg (fun g e=>pU h.recs g e) (k:=9) (v:=v') (S':={S with recs:=rs}) rfl rfl rfl rfl rfl (bU h.wait h.recs (by decide) hg) (bU h.back h.recs (by decide) hg) ho (bU h.log h.recs (by decide) hg) (bU h.cg h.recs (by decide) hg) h.apart
theorem aQ.TF (h:aQ A S vw vb vr va vt w) {r:Rec} (hg:w.grownBy w' vr.ownBlock) (ho:w'.ownsRow A.B 44 7 v' (S.recs.length+1) (cj S.recs++r.cells)):
 aQ A {S with recs:=S.recs++[r]} vw vb v' va vt (w'.setCell ⟨A.hb,9,none⟩ v')/\Fr A w (w'.setCell ⟨A.hb,9,none⟩ v'):=
 h.push hg (by rw [K_,nG];simpa [cj] using ho)
theorem aQ.alloc (h:aQ A S vw vb vr va vt w) (o:Obj):aQ A S vw vb vr va vt (w.alloc o):=by
 have hs:∀i,i<w.heap.size->(w.alloc o).heap[i]?=w.heap[i]?:=fun i hi=>(N_ w o none).block i hi (by simp)
 have lt:∀{i},i<A.B->i<w.heap.size:=fun hi=>E_ hi h.big
 exact ⟨h.ok,D_ h.big (N_ w o none).size,by rw [hs _ (lt h.ok.hb)];exact h.box,fun i hi=>(J_ (hs _ (lt h.ok.lb))).trans (h.lines i hi),h.on.block (hs _ (lt h.ok.m1)),h.of.block (hs _ (lt h.ok.m2)),h.rc.block (hs _ (lt h.ok.m3)),h.wait.alloc o,h.back.alloc o,h.recs.alloc o,h.log.alloc o,h.cg.alloc o,h.apart⟩
theorem Fr.alloc (hB:A.B<=w.heap.size) (o:Obj):Fr A w (w.alloc o):=⟨rfl,rfl,rfl,(N_ w o none).size,fun i hi _ _ _ _=>(N_ w o none).block i (E_ hi hB) (by simp)⟩
variable {j:Nat}
theorem bJ {cs:Array M'} {e:Q'} {v:M'} (h:cs[j]?=some v):(w.alloc (.cells cs e)).cell? ⟨w.heap.size,j,none⟩=some v:=by
 unfold World.cell?
 simp only [World.alloc,Array.getElem?_push_size]
 simpa using h
theorem fY (w:J') (cs:Array M') (e:Q') (h:cs.toList=xs):∀j u,xs[j]?=some u->(w.alloc (.cells cs e)).cell? ((⟨w.heap.size,0,none⟩:Addr).add j)=some u:=by
 intro j u hu
 have:cs[j]?=some u:=by rw [<-hu,<-h];simp
 have h2:=bJ (w:=w) (e:=e) this
 by_cases h0:j=0
 ·subst h0;simpa [Addr.add] using h2
 ·simpa [Addr.add,h0] using h2
theorem Fr.drew:Fr A w w.drew:=Fr.of_heap rfl rfl rfl rfl
variable {W0:J'}
theorem oy (h:aQ A S vw vb vr va vt w) {c:Int} {l:Nat} (hl:l<S.lines.length) (hn:S.lines.length<=1000) (hr:S.recs.length<=100000) (hc: -1000000<=c) (BJ:c<=1000000) (hW:Fr A W0 w):
 d_ p_ 129 #[.pointer (some ⟨A.hb,0,none⟩),.int .i64 c,.int .i64 (l:Nat)] w fun e w'=>e=.returned (.tuple #[])/\(∃qb,aQ A (conn S c l S.lines[l]) vw vb qb va vt w')/\Fr A W0 w':=by
 obtain ⟨c3,_,_,_,_,_,_,_,_,_,_⟩:=h.c
 have hcell:=h.lines l hl
 have Iv:(l:Int)<(S.lines.length:Int):=by omega
 have hl3:(l:Int)<=1000:=by omega
 have c4:=h.c.2.1
 generalize hx:S.lines[l]=x at hcell ⊢
 have b9:=h.on
 have H:=aa h
 have HW:=aa hW
 clear h hW
 go_enter func129,ntmps129
 go_wp2_with (first
  |(at_mapUpdate;refine kn _ rfl _ _ _ 71 rfl zo Tryz.underlying71 A.m1 rfl b9 x rfl (.int .i64 c) rfl ?_;intro o1 Nh;have H1:=aa (H.out.N9 (f:=fun y=>if y=x then some c else S.on y) (cast (congrArg _ (funext fun y=>by by_cases e:y=x<;>simp [e])) Nh));have F1:=aa (HW.out.trans (Fr.bK (A:=A) (w:=w) (m:=A.m1) (o:=o1) (.inl rfl)));clear Nh H HW c3 c4 hcell b9;generalize World.bK w A.m1 o1=w1 at H1 F1 ⊢;have c5:=H1.out.c.2.2.1;have kE:=H1.out.of)
  |(at_mapUpdate;refine kn _ rfl _ _ _ 72 rfl pe Tryz.underlying72 A.m2 rfl kE c rfl (.chan (some x)) rfl ?_;intro o2 Uv;have H2:=aa (H1.out.setOf (f:=fun y=>if y=c then some x else S.of y) (cast (congrArg _ (funext fun y=>by by_cases e:y=c<;>simp [e])) Uv));have F2:=aa (F1.out.trans (Fr.bK (A:=A) (w:=w1) (m:=A.m2) (o:=o2) (.inr (.inl rfl))));clear Uv H1 F1 c5 kE;generalize World.bK w1 A.m2 o2=w2 at H2 F2 ⊢))
 obtain ⟨a,cap,ev⟩:=aE H2.out.recs
 obtain ⟨o3,Uc,hm3⟩:=(H2.out.rc.heap (w':=w2.drew) rfl).update pe Tryz.underlying75 c (.int .i64 (S.recs.length:Nat))
 have H3:=aa ((H2.out.heap (w':=w2.drew) rfl).Tb (f:=fun y=>if y=c then some S.recs.length else S.rc y) (cast (congrArg _ (funext fun y=>by by_cases e:y=c<;>simp [e])) hm3))
 have F3:=aa (F2.out.trans (Fr.drew.trans (Fr.bK (A:=A) (w:=w2.drew) (m:=A.m3) (o:=o3) (.inr (.inr rfl)))))
 have W5:=H2.out.c.2.2.2.2.2.2.2.1
 have c9:=H2.out.c.2.2.2.2.2.2.1
 rw [ev] at c9
 replace ev:=aa ev
 clear hm3 H2 F2
 go_region
 clear Uc W5 c9
 generalize World.bK w2.drew A.m3 o3=w3 at H3 F3 ⊢
 have c9:=H3.out.c.2.2.2.2.2.2.1
 rw [ev.out] at c9
 have Ig:=H3.out.c.2.2.2.2.2.2.2.2.1
 have f9:=H3.out.z 9
 simp only at Ig
 have hcB:=H3.out.big
 obtain ⟨S01,S02⟩:w3.drew.cell? ⟨A.hb,9,none⟩=some (.slice a S.recs.length cap)/\w3.drew.cell? ⟨A.hb,11,none⟩=some (.int .i64 S.clock):=⟨c9,Ig⟩
 have S1:∀o,(w3.drew.alloc o).cell? ⟨A.hb,9,none⟩=some (.slice a S.recs.length cap)/\(w3.drew.alloc o).cell? ⟨A.hb,11,none⟩=some (.int .i64 S.clock):=fun o=>⟨(N_ w3.drew o none).cell (a:=⟨A.hb,9,none⟩) c9 (by simp),(N_ w3.drew o none).cell (a:=⟨A.hb,11,none⟩) Ig (by simp)⟩
 have S11:=fun o=>(S1 o).1
 have S12:=fun o=>(S1 o).2
 have S13:∀o,(w3.alloc o).drew.cell? ⟨A.hb,9,none⟩=some (.slice a S.recs.length cap):=S11
 have S14:∀o,(w3.alloc o).drew.cell? ⟨A.hb,11,none⟩=some (.int .i64 S.clock):=S12
 have S15:∀o,(w3.alloc o).cell? ⟨A.hb,9,none⟩=some (.slice a S.recs.length cap):=S11
 have iw:∀o,(w3.drew.alloc o).ownsRow A.B 44 7 (.slice a S.recs.length cap) S.recs.length (cj S.recs):=fun o=>(ev.out▸(H3.out.heap (w':=w3.drew) rfl).recs).alloc o
 have hne:some A.hb≠(mN a S.recs.length cap).ownBlock:=fun e=>by
  have h1:=(ev.out▸H3.out.recs.lt) A.hb e.symm
  have h2:=H3.out.ok.hb
  omega
 have S2f:∀o w5,(w3.drew.alloc o).grownBy w5 (mN a S.recs.length cap).ownBlock->(w5.cell? ⟨A.hb,9,none⟩=some (.slice a S.recs.length cap)/\w5.cell? ⟨A.hb,11,none⟩=some (.int .i64 S.clock)):=fun o w5 hg=>⟨hg.cell (S1 o).1 hne,hg.cell (S1 o).2 hne⟩
 have F2f:∀o w5,(w3.drew.alloc o).grownBy w5 (mN a S.recs.length cap).ownBlock->w5.frozen? ⟨A.hb,9,none⟩=false:=fun o w5 hg=>by
  have h2:=H3.out.ok.hb
  rw [m_ (hg.block A.hb (by rw [World.size_alloc];show A.hb<w3.heap.size+1;omega) hne),m_ ((N_ w3.drew o none).block A.hb (by show A.hb<w3.heap.size;omega) (by simp))]
  exact f9
 have ub:∀o,A.B<=(w3.drew.alloc o).heap.size:=fun o=>D_ hcB (N_ w3.drew o none).size
 obtain ⟨i0,hi,tX,rm,uF⟩:=info_parts EA
 have oJ:=aa (show IntKind.i64.wrap ((l:Int)+1)=(l:Int)+1 from IntWalk.i64_in _ (by omega))
 go_wp2
 go_region_law
  ((refine step_append_lies _ (by rfl) _ _ _ (by rfl) A.B 44 i0 _ 7 64 Tryz.underlying37 hi tX rm uF rfl (by decide) _ S.recs.length _ (by rfl) (iw _) ⟨w3.heap.size,0,none⟩ 1 1 (kT S c l).cells (by rfl) (by rfl) (fY w3.drew _ _ (by rw [oJ.out];rfl)) (by intro u hu;simp [Rec.cells,kT] at hu;rcases hu with rfl|rfl|rfl|rfl|rfl|rfl|rfl<;>rfl) (by omega) (by unfold maxLen;omega) (by omega) (ub _) (w3.heap.size+1) (World.size_alloc ..) ?_;intro gg aEg w5 jl kh iP mR;obtain ⟨S2,S3⟩:=S2f _ _ kh;have f5:=F2f _ _ kh))
 all_goals
  go_end0
  have hp:=((H3.out.heap (w':=w3.drew) rfl).alloc _).TF (r:=kT S c l) (ev.out▸kh) jl
  exact ⟨rfl,⟨_,hp.1⟩,F3.out.trans (Fr.drew.trans ((Fr.alloc (w:=w3.drew) hcB _).trans hp.2))⟩
variable {α β:Type}
theorem sK (f:α->List β) (m:Nat) (hm:∀x,(f x).length=m):∀(xs:List α) (i k:Nat) (hi:i<xs.length) (hk:k<m) (v:β) (x':α),f x'=(f xs[i]).set k v->(xs.set i x').flatMap f=(xs.flatMap f).set (i * m+k) v:=by
 intro xs
 induction xs with
 |nil=>intro i k hi;simp at hi
 |cons x xs ih=>
  intro i k hi hk v x' h
  cases i with
  |zero=>
   simp only [List.set_cons_zero,List.flatMap_cons,Nat.zero_mul,Nat.zero_add]
   rw [List.set_append_left _ _ (by rw [hm];exact hk),h]
   rfl
  |succ i=>
   simp only [List.set_cons_succ,List.flatMap_cons]
   rw [List.set_append_right _ _ (by rw [hm,Nat.succ_mul];omega),ih i k (by simpa using hi) hk v x' (by simpa using h),hm]
   congr 2
   rw [Nat.succ_mul];omega
theorem jr (f:α->List β) (m:Nat) (hm:∀x,(f x).length=m):∀(xs:List α) (i k:Nat) (hi:i<xs.length) (hk:k<m),(xs.flatMap f)[i * m+k]?=(f xs[i])[k]?:=by
 intro xs
 induction xs with
 |nil=>intro i k hi;simp at hi
 |cons x xs ih=>
  intro i k hi hk
  cases i with
  |zero=>
   simp only [List.flatMap_cons,Nat.zero_mul,Nat.zero_add]
   rw [List.getElem?_append_left (by rw [hm];exact hk)]
   rfl
  |succ i=>
   simp only [List.flatMap_cons]
   rw [List.getElem?_append_right (by rw [hm,Nat.succ_mul];omega),hm]
   rw [show (i+1) * m+k - m=i * m+k by rw [Nat.succ_mul];omega,ih i k (by simpa using hi) hk]
   rfl
theorem aQ.pQ (h:aQ A S vw vb vr va vt w) {cap:Nat} (hv:vr=.slice (some ⟨g,0,none⟩) S.recs.length cap) (hi:i<S.recs.length) (hk:k<7):w.cell? ⟨g,i * 7+k,none⟩=(S.recs[i]).cells[k]?/\w.frozen? ⟨g,i * 7+k,none⟩=false:=by
 have ho:=h.recs
 rw [hv] at ho
 exact ⟨(ho.cellAt _ (by omega)).trans (jr Rec.cells 7 (fun _=>rfl) _ _ _ hi hk),ho.frozenAt _⟩
theorem aQ.Ac (h:aQ A S vw vb vr va vt w) {cap:Nat} (hv:vr=.slice (some ⟨g,0,none⟩) S.recs.length cap) (hi:i<S.recs.length) (hk:k<7) {v:M'} {r:Rec} (hr:r.cells=(S.recs[i]).cells.set k v):
 aQ A {S with recs:=S.recs.set i r} vw vb vr va vt (w.setCell ⟨g,i * 7+k,none⟩ v)/\Fr A w (w.setCell ⟨g,i * 7+k,none⟩ v):=by
 have ho:=h.recs
 have hg:=(ho.lt g (by rw [hv];rfl)).1
 have hs:∀yD,yD≠g->(w.setCell ⟨g,i * 7+k,none⟩ v).heap[yD]?=w.heap[yD]?:=fun yD ig=>a_ w ⟨g,i * 7+k,none⟩ yD v ig
 have lo:∀yD,yD<A.B->(w.setCell ⟨g,i * 7+k,none⟩ v).heap[yD]?=w.heap[yD]?:=fun yD ig=>hs _ (by omega)
 have Ky:w.grownBy (w.setCell ⟨g,i * 7+k,none⟩ v) vr.ownBlock:=⟨rfl,rfl,rfl,by simp,fun j _ hj=>hs j (fun e=>hj (by rw [e,hv];rfl))⟩
 refine ⟨⟨h.ok,by simpa using h.big, ?_,fun j hj=>(J_ (lo _ h.ok.lb)).trans (h.lines j hj),h.on.block (lo _ h.ok.m1),h.of.block (lo _ h.ok.m2),h.rc.block (lo _ h.ok.m3),bU h.wait ho (by decide) Ky,bU h.back ho (by decide) Ky, ?_,bU h.log ho (by decide) Ky,bU h.cg ho (by decide) Ky,h.apart⟩,rfl,rfl,rfl,by simp,fun j hj _ _ _ _=>lo j hj⟩
 ·rw [lo _ h.ok.hb];exact h.box
 ·rw [hv] at ho ⊢
  have:=(ho.stored (i * 7+k) v).1
  simpa [cj,sK Rec.cells 7 (fun _=>rfl) _ _ _ hi hk v r hr] using this
variable {P:U'} {kt:Q'} {ops:Array y_} {a:Act} {Q:Exit->Act->J'->Prop}
open Classical in
theorem wJ {K:Type} {enc:K->M'} {f:K->Option M'} {et:Q'} {o:y_} {K':Act->J'->Prop} {E:Prop} (Q4:o.guard=none) (m x:Operand) (t Qh:Q') (hop:o.op=Op.call {callee:=Callee.builtin Builtin.delete,args:=#[m,x],argTypes:=#[t,Qh]}) (hK:Keys P kt enc) (ht:P.underlying t=some (.map kt et)) (b:Nat) (hm:a.eval m=.map (some b)) (h:ed w b enc f) (k:K) (hx:a.eval x=enc k)
 (hk:∀ob,ed (World.bK w b ob) b enc (fun x=>if x=k then none else f x)->K' (a.put o.dst (.tuple #[])) (World.bK w b ob)):if U_ o (yielded ops a.tmps)=true then Oper.wp P o a w K' Q else E:=by
 have hw:U_ o (yielded ops a.tmps)=true:=by simp [U_,Q4]
 rw [if_pos hw]
 obtain ⟨ob,hrun,h2⟩:=h.delete hK ht k o.type Qh
 unfold Oper.wp
 simp [V',hop,resolve,invoke,builtin,hm,hx,hrun,Result.andThen]
 exact hk ob h2
structure nc (A:Ha) (row:Option Nat) (w w':J'):Prop where
 size:w.heap.size<=w'.heap.size
 block:∀i,i<w.heap.size->i≠A.hb->i≠A.m1->i≠A.m2->i≠A.m3->some i≠row->w'.heap[i]?=w.heap[i]?
variable {b:J'}
theorem nc.trans {row:Option Nat} {a c:J'} (h:nc A row a b) (k:nc A row b c):nc A row a c:=⟨D_ h.size k.size,fun i hi h1 h2 h3 h4 h5=>(k.block i (E_ hi h.size) h1 h2 h3 h4 h5).trans (h.block i hi h1 h2 h3 h4 h5)⟩
theorem nc.same {row:Option Nat} (h:w'.heap=w.heap):nc A row w w':=⟨by rw [h];exact C_ _,fun _ _ _ _ _ _ _=>by rw [h]⟩
theorem nc.bK {row:Option Nat} {o:Obj} (hm:m=A.m1\/m=A.m2\/m=A.m3):nc A row w (World.bK w m o):=⟨by rw [jT];exact C_ _,fun i _ _ h1 h2 h3 _=>bG (by rcases hm with rfl|rfl|rfl<;>assumption)⟩
theorem nc.setCell {row:Option Nat} {o:Nat} {v:M'} (hg:row=some g):nc A row w (w.setCell ⟨g,o,none⟩ v):=⟨by simp,fun i _ _ _ _ _ h=>a_ w ⟨g,o,none⟩ i v (fun e=>h (by rw [hg,show i=g from e]))⟩
def uk (S:Hs) (c:Int) (x i:Nat) (r:Rec) (q:Bs):Hs:={S with on:=fun y=>if y=x then none else S.on y,of:=fun y=>if y=c then none else S.of y,recs:=S.recs.set i {r with wI:=S.clock,fin:=q}}
theorem um (h:aQ A S vw vb vr va vt w) {c:Int} {x:Nat} (kE:S.of c=some x) (mj:S.rc c=some i) (hi:i<S.recs.length) (hr:S.recs.length<=100000) {q:Bs} (hW:Fr A W0 w):
 d_ p_ 135 #[.pointer (some ⟨A.hb,0,none⟩),.int .i64 c,.string ⟨q.toArray⟩] w fun e w'=>e=.returned (.tuple #[])/\aQ A (uk S c x i S.recs[i] q) vw vb vr va vt w'/\Fr A W0 w'/\nc A vr.ownBlock w w':=by
 have c4:=h.c.2.1
 have c5:=h.c.2.2.1
 have b9:=h.on.heap (w':=w.drew) rfl
 have Sy:Sem.run p_ (Instr.lookup 72 (Value.map (some A.m2)) (ah IntKind.i64 c) false) w.drew=.ok (.chan (some x)) w.drew:=by
  have:=(h.of.heap (w':=w.drew) rfl).lookup pe Tryz.underlying72 c (z:=.chan none) (fun w=>qQ w) false
  rw [kE] at this;exact this
 have H:=aa h
 have HW:=aa hW
 clear h hW
 go_enter func135,ntmps135
 go_wp2
 go_region_law ((refine wJ (by rfl) _ _ 71 78 (by rfl) zo Tryz.underlying71 A.m1 (by rfl) b9 x (by rfl) ?_;intro o1 Nh))
 all_goals
  have H1:=aa ((H.out.heap (w':=w.drew) rfl).N9 (f:=fun y=>if y=x then none else S.on y) (cast (congrArg _ (funext fun y=>by by_cases e:y=x<;>simp [e])) Nh))
  have F1:=aa (HW.out.trans (Fr.drew.trans (Fr.bK (A:=A) (w:=w.drew) (m:=A.m1) (o:=o1) (.inl rfl))))
  have A1:f_ (nc A vr.ownBlock w (World.bK w.drew A.m1 o1)):=(nc.same (w:=w) (w':=w.drew) rfl).trans (nc.bK (.inl rfl))
  clear Nh c4 c5 b9 Sy H HW
  generalize World.bK w.drew A.m1 o1=w1 at H1 F1 A1 ⊢
  have c5:=H1.out.c.2.2.1
  have Un:=H1.out.of
  go_wp2_with (first
   |(at_delete;refine sZ _ rfl _ _ 72 3 rfl pe Tryz.underlying72 A.m2 rfl Un c rfl ?_;intro o2 Uv;have H2:=aa (H1.out.setOf (f:=fun y=>if y=c then none else S.of y) (cast (congrArg _ (funext fun y=>by by_cases e:y=c<;>simp [e])) Uv));have F2:=aa (F1.out.trans (Fr.bK (A:=A) (w:=w1) (m:=A.m2) (o:=o2) (.inr (.inl rfl))));have A2:f_ (nc A vr.ownBlock w (World.bK w1 A.m2 o2)):=A1.out.trans (nc.bK (.inr (.inl rfl)));clear Uv H1 F1 A1 c5 Un;generalize World.bK w1 A.m2 o2=w2 at H2 F2 A2 ⊢))
  obtain ⟨g,cap,cur,ev,_⟩:=cz H2.out.recs (Nat.lt_of_le_of_lt (nz _) hi)
  have ev:=aa ev
  refine (jL H2.out mj hi ev.out hr).mono ?_
  rintro e w3 ⟨rfl,hh,F3⟩
  have H3:=aa (H2.out.heap hh)
  have F3':=aa (F2.out.trans F3)
  have A3:=aa (A2.out.trans (nc.same hh))
  clear F3 F2 H2 A2 hh
  have Ig:=H3.out.c.2.2.2.2.2.2.2.2.1
  simp only at Ig
  obtain ⟨x1,x2⟩:=H3.out.pQ ev.out hi (k:=5) (by decide)
  have H4:=H3.out.Ac ev.out hi (k:=5) (by decide) (v:=.int .i64 S.clock) (r:={S.recs[i] with wI:=S.clock}) rfl
  obtain ⟨x3,x4⟩:=H4.1.pQ (i:=i) (g:=g) (cap:=cap) (by rw [ev.out];simp) (by simpa using hi) (k:=6) (by decide)
  have H5:=H4.1.Ac (i:=i) (g:=g) (cap:=cap) (by rw [ev.out];simp) (by simpa using hi) (k:=6) (by decide) (v:=.string ⟨q.toArray⟩) (r:={S.recs[i] with wI:=S.clock,fin:=q}) (by simp [Rec.cells])
  replace H5:=aa (And.intro H5.1 (F3'.out.trans (H4.2.trans H5.2)))
  simp [Rec.cells] at x1 x3
  clear H4 F3' H3
  go_wp2
  go_end0
  have h6:=H5.out
  simp only [List.set_set] at h6
  have hro:vr.ownBlock=some g:=by rw [ev.out];rfl
  exact ⟨rfl,h6.1,h6.2,A3.out.trans ((nc.setCell hro).trans (nc.setCell hro))⟩
end
end Go.aC.Of
namespace Go.Proofs
section
open Go.Shelf
def Tryz.AJ:Go.Shelf.Ren:=⟨fun|171=>131|243=>142|246=>145|283=>147|284=>148|285=>149|286=>150|129=>152|317=>151|318=>153|319=>154|320=>155|337=>156|338=>157|n=>n,fun|3=>3|9=>9|2=>2|4=>4|171=>178|0=>0|53=>103|37=>42|5=>5|173=>181|212=>184|51=>106|20=>20|213=>185|46=>134|232=>189|233=>190|n=>n,fun|17=>0|18=>1|19=>2|n=>n⟩
theorem Tryz.JO:Go.Proofs.LaysM.n171 p_ Tryz.AJ:={
 mixed:=by kernel_rfl
 f129:=func152.trans (congrArg some (by kernel_rfl))
 f171:=func131.trans (congrArg some (by kernel_rfl))
 f243:=func142.trans (congrArg some (by kernel_rfl))
 f246:=func145.trans (congrArg some (by kernel_rfl))
 f283:=func147.trans (congrArg some (by kernel_rfl))
 f284:=func148.trans (congrArg some (by kernel_rfl))
 f285:=func149.trans (congrArg some (by kernel_rfl))
 f286:=func150.trans (congrArg some (by kernel_rfl))
 f317:=func151.trans (congrArg some (by kernel_rfl))
 f318:=func153.trans (congrArg some (by kernel_rfl))
 f319:=func154.trans (congrArg some (by kernel_rfl))
 f320:=func155.trans (congrArg some (by kernel_rfl))
 f337:=func156.trans (congrArg some (by kernel_rfl))
 f338:=func157.trans (congrArg some (by kernel_rfl))
 t0:=Tryz.underlying0
 a0:=Tryz.isAgg0
 z0:=Tryz.sizeOf0
 v0:=Tryz.zeroValue0
 t2:=Tryz.underlying2
 a2:=Tryz.isAgg2
 z2:=Tryz.sizeOf2
 v2:=Tryz.zeroValue2
 t3:=Tryz.underlying3
 a3:=Tryz.isAgg3
 z3:=Tryz.sizeOf3
 v3:=Tryz.zeroValue3
 t4:=Tryz.underlying4
 a4:=Tryz.isAgg4
 z4:=Tryz.sizeOf4
 v4:=Tryz.zeroValue4
 t5:=Tryz.underlying5
 a5:=Tryz.isAgg5
 z5:=Tryz.sizeOf5
 v5:=Tryz.zeroValue5
 t9:=Tryz.underlying9
 a9:=Tryz.isAgg9
 z9:=Tryz.sizeOf9
 v9:=Tryz.zeroValue9
 t20:=Tryz.underlying20
 a20:=Tryz.isAgg20
 z20:=Tryz.sizeOf20
 v20:=Tryz.zeroValue20
 t37:=Tryz.underlying42
 a37:=Tryz.isAgg42
 z37:=Tryz.sizeOf42
 v37:=Tryz.zeroValue42
 t46:=Tryz.underlying134
 a46:=Tryz.isAgg134
 z46:=Tryz.sizeOf134
 v46:=Tryz.zeroValue134
 t51:=Tryz.underlying106
 a51:=Tryz.isAgg106
 z51:=Tryz.sizeOf106
 v51:=Tryz.zeroValue106
 t53:=Tryz.underlying103
 a53:=Tryz.isAgg103
 z53:=Tryz.sizeOf103
 v53:=Tryz.zeroValue103
 t171:=Tryz.underlying178
 a171:=Tryz.isAgg178
 z171:=Tryz.sizeOf178
 v171:=Tryz.zeroValue178
 t173:=Tryz.underlying181
 a173:=Tryz.isAgg181
 z173:=Tryz.sizeOf181
 v173:=Tryz.zeroValue181
 t212:=Tryz.underlying184
 a212:=Tryz.isAgg184
 z212:=Tryz.sizeOf184
 v212:=Tryz.zeroValue184
 t213:=Tryz.underlying185
 a213:=Tryz.isAgg185
 z213:=Tryz.sizeOf185
 t232:=Tryz.underlying189
 a232:=Tryz.isAgg189
 z232:=Tryz.sizeOf189
 v232:=Tryz.zeroValue189
 t233:=Tryz.underlying190
 a233:=Tryz.isAgg190
 z233:=Tryz.sizeOf190
 v233:=Tryz.zeroValue190
 g17:=by kernel_rfl
 g18:=by kernel_rfl
 g19:=by kernel_rfl
 i0:=by kernel_rfl
 i2:=by kernel_rfl
 i3:=by kernel_rfl
 i4:=by kernel_rfl
 i5:=by kernel_rfl
 i9:=by kernel_rfl
 i20:=by kernel_rfl
 i37:=by kernel_rfl
 i46:=by kernel_rfl
 i51:=by kernel_rfl
 i53:=by kernel_rfl
 i171:=by kernel_rfl
 i173:=by kernel_rfl
 i212:=by kernel_rfl
 i232:=by kernel_rfl
 i233:=by kernel_rfl
 m17:=by kernel_rfl
 m18:=by kernel_rfl
 m19:=by kernel_rfl}
open Go.RowKit Go.Sort Go.Lib in
theorem Tryz.strconv_Itoa (n:Int) (h0: -9223372036854775808<=n) (h1:n<=9223372036854775807) (w:J') (sr:Lib.TabIs p_ w "internal/strconv.uint64pow10" .u64 Lib.pow10Tab):
 d_ p_ 131 #[.int .i64 n] w fun e w'=>e=.returned (.string ⟨(Lib.itoa n).toArray⟩)/\∃k os,w'=grow (w.drewN k) os:=Any.strconv_Itoa Tryz.JO n h0 h1 w sr
def Tryz.Ox:Go.Shelf.Ren:=⟨fun|171=>131|243=>142|246=>145|283=>147|284=>148|285=>149|286=>150|129=>152|317=>151|318=>153|319=>154|320=>155|337=>156|338=>157|n=>n,fun|3=>3|9=>9|2=>2|4=>4|171=>178|0=>0|53=>103|37=>42|5=>5|173=>181|212=>184|51=>106|20=>20|213=>185|46=>134|232=>189|233=>190|n=>n,fun|17=>0|18=>1|19=>2|n=>n⟩
open Go.RowKit Go.Sort Go.Lib in
def Tryz.Cv:Go.Shelf.Ren:=⟨fun|108=>132|n=>n,fun|28=>26|3=>3|0=>0|4=>4|n=>n,fun|n=>n⟩
theorem Tryz.FM:Go.Proofs.Lays.n108 p_ Tryz.Cv:={
 mixed:=by kernel_rfl
 f108:=func132.trans (congrArg some (by kernel_rfl))
 t0:=Tryz.underlying0
 a0:=Tryz.isAgg0
 z0:=Tryz.sizeOf0
 v0:=Tryz.zeroValue0
 t3:=Tryz.underlying3
 a3:=Tryz.isAgg3
 z3:=Tryz.sizeOf3
 v3:=Tryz.zeroValue3
 t4:=Tryz.underlying4
 a4:=Tryz.isAgg4
 z4:=Tryz.sizeOf4
 v4:=Tryz.zeroValue4
 t28:=Tryz.underlying26
 a28:=Tryz.isAgg26
 z28:=Tryz.sizeOf26
 v28:=Tryz.zeroValue26}
open Go.Lib in
theorem Tryz.slices_Index_int (b off n c:Nat) (zs:List Int) (x:Int) (w:J') (hz:n<=zs.length) (CW:n<=9223372036854775807) (hc:∀j,j<zs.length->w.cell? ⟨b,off+j,none⟩=some (.int .i64 (zs.getD j 0))):
 d_ p_ 132 #[.slice (some ⟨b,off,none⟩) n c,.int .i64 x] w fun e w'=>e=.returned (.int .i64 (Lib.idxOf (zs.take n) x))/\w'=w:=Any.slices_Index_int Tryz.FM b off n c zs x w hz CW hc
open Go.Lib in
theorem Tryz.slices_Index_int_empty (a:Option Addr) (c:Nat) (x:Int) (w:J'):
 d_ p_ 132 #[.slice a 0 c,.int .i64 x] w fun e w'=>e=.returned (.int .i64 (Lib.idxOf [] x))/\w'=w:=Any.slices_Index_int_empty Tryz.FM a c x w
def Tryz.Cw:Go.Shelf.Ren:=⟨fun|107=>127|108=>132|n=>n,fun|28=>26|3=>3|4=>4|0=>0|n=>n,fun|n=>n⟩
theorem Tryz.FN:Go.Proofs.Lays.n107 p_ Tryz.Cw:={
 mixed:=by kernel_rfl
 f107:=func127.trans (congrArg some (by kernel_rfl))
 f108:=func132.trans (congrArg some (by kernel_rfl))
 t0:=Tryz.underlying0
 a0:=Tryz.isAgg0
 z0:=Tryz.sizeOf0
 v0:=Tryz.zeroValue0
 t3:=Tryz.underlying3
 a3:=Tryz.isAgg3
 z3:=Tryz.sizeOf3
 v3:=Tryz.zeroValue3
 t4:=Tryz.underlying4
 a4:=Tryz.isAgg4
 z4:=Tryz.sizeOf4
 v4:=Tryz.zeroValue4
 t28:=Tryz.underlying26
 a28:=Tryz.isAgg26
 z28:=Tryz.sizeOf26
 v28:=Tryz.zeroValue26}
open Go.Lib in
theorem Tryz.slices_Contains_int (b off n c:Nat) (zs:List Int) (x:Int) (w:J') (hz:n<=zs.length) (CW:n<=9223372036854775807) (hc:∀j,j<zs.length->w.cell? ⟨b,off+j,none⟩=some (.int .i64 (zs.getD j 0))):
 d_ p_ 127 #[.slice (some ⟨b,off,none⟩) n c,.int .i64 x] w fun e w'=>e=.returned (.bool ((zs.take n).contains x))/\w'=w:=Any.slices_Contains_int Tryz.FN b off n c zs x w hz CW hc
open Go.Lib in
theorem Tryz.slices_Contains_int_empty (a:Option Addr) (c:Nat) (x:Int) (w:J'):
 d_ p_ 127 #[.slice a 0 c,.int .i64 x] w fun e w'=>e=.returned (.bool false)/\w'=w:=Any.slices_Contains_int_empty Tryz.FN a c x w
def Tryz.yA:Go.Shelf.Ren:=⟨fun|23=>133|n=>n,fun|22=>26|3=>3|4=>4|0=>0|n=>n,fun|n=>n⟩
theorem Tryz.Hq:Go.Proofs.Lays2.n23 p_ Tryz.yA:={
 mixed:=by kernel_rfl
 f23:=func133.trans (congrArg some (by kernel_rfl))
 t0:=Tryz.underlying0
 a0:=Tryz.isAgg0
 z0:=Tryz.sizeOf0
 v0:=Tryz.zeroValue0
 t3:=Tryz.underlying3
 a3:=Tryz.isAgg3
 z3:=Tryz.sizeOf3
 v3:=Tryz.zeroValue3
 t4:=Tryz.underlying4
 a4:=Tryz.isAgg4
 z4:=Tryz.sizeOf4
 v4:=Tryz.zeroValue4
 t22:=Tryz.underlying26
 a22:=Tryz.isAgg26
 z22:=Tryz.sizeOf26
 v22:=Tryz.zeroValue26
 i3:=by kernel_rfl}
open Go.RowKit Go.Lib Go.Sort in
open Go.RowKit Go.Lib Go.Sort in
theorem Tryz.slices_Delete_int_cells (b off n c i j:Nat) (zs:List Int) (w:J') (hz:n<=zs.length) (lJ:n<=c) (hm:c<=9223372036854775807) (vG:i<=j) (hj:j<=n) (hc:∀j,j<zs.length->w.cell? ⟨b,off+j,none⟩=some (.int .i64 (zs.getD j 0))) (hf:∀j,j<n->w.frozen? ⟨b,off+j,none⟩=false):
 d_ p_ 133 #[.slice (some ⟨b,off,none⟩) n c,.int .i64 i,.int .i64 j] w fun e w'=>e=.returned (.slice (some ⟨b,off,none⟩) (n - (j - i)) c)/\∃q,w'=(w.drewN q).setCells b off (((zs.take n).take i++(zs.take n).drop j++List.replicate (j - i) 0).map (ah .i64)):=Any.slices_Delete_int_cells Tryz.Hq b off n c i j zs w hz lJ hm vG hj hc hf
end
end Go.Proofs
namespace Go.aC.Of
section
open Go Go.Conc Go.Conc.Lib Go.ConcR Go.ConcR.Gen Go.aC Go.Proofs
open Go.RowKit hiding Hid
open Go.ConcN (upd upd_ne upd_same)
theorem cW (b:Nat):∀(vs:List M') (o:Nat) (w:J') (i:Nat),i≠b->(w.setCells b o vs).heap[i]?=w.heap[i]?
 |[],_,_,_,_=>rfl
 |v::r,o,w,i,h=>by
  rw [World.setCells,cW b r (o+1) _ i h]
  exact a_ w ⟨b,o,none⟩ i v h
theorem fv (b:Nat) {t:Q'}:∀(vs:List M') (o:Nat) (w:J') (cur:Array M'),w.heap[b]?=some (.cells cur t (0,0))->o+vs.length<=cur.size->∃yR,(w.setCells b o vs).heap[b]?=some (.cells yR t (0,0))/\yR.size=cur.size/\yR.toList=cur.toList.take o++vs++cur.toList.drop (o+vs.length)
 |[],o,w,cur,h,_=>⟨cur,h,rfl,by simp⟩
 |v::r,o,w,cur,h,hl=>by
  simp only [List.length_cons] at hl
  obtain ⟨yR,h1,h2,h3⟩:=fv b r (o+1) (w.setCell ⟨b,o,none⟩ v) (cur.setIfInBounds o v) (b_ w b o cur t v h) (by simp;omega)
  refine ⟨yR,h1,by simpa using h2, ?_⟩
  rw [h3,Array.toList_setIfInBounds]
  have ho:o<cur.toList.length:=by simp;omega
  rw [List.take_set,List.drop_set_of_lt (by omega),List.take_succ_eq_append_getElem ho,List.set_append_right _ _ (by simp;omega)]
  simp only [Q_,Nat.min_eq_left (Nat.le_of_lt ho),Nat.sub_self,List.set_cons_zero,List.length_cons,List.append_assoc,List.cons_append,List.nil_append]
  rw [show o+1+r.length=o+(r.length+1) by omega]
theorem fq (b:Nat):∀(vs:List M') (o:Nat) (w:J'),(w.setCells b o vs).heap.size=w.heap.size
 |[],_,_=>rfl
 |v::r,o,w=>by rw [World.setCells,fq b r];simp
theorem bL (b:Nat):∀(vs:List M') (o:Nat) (w:J'),(w.setCells b o vs).os=w.os/\(w.setCells b o vs).tape=w.tape/\(w.setCells b o vs).output=w.output
 |[],_,_=>⟨rfl,rfl,rfl⟩
 |v::r,o,w=>by rw [World.setCells];exact bL b r (o+1) _
variable {w:J'} {B n' g:Nat} {xs:List M'}
theorem wR {e s n cap:Nat} {ys:List M'} {vs:List M'} (h:w.ownsRow B e s (.slice (some ⟨g,0,none⟩) n cap) n xs) (hn:n'<=n) (hv:vs.length=n * s) (hy:vs.take (n' * s)=ys):
 (w.setCells g 0 vs).ownsRow B e s (.slice (some ⟨g,0,none⟩) n' cap) n' ys/\w.grownBy (w.setCells g 0 vs) (some g):=by
 refine ⟨?_,(bL g vs 0 w).1,(bL g vs 0 w).2.1,(bL g vs 0 w).2.2,Nat.le_of_eq (fq g vs 0 w).symm,fun k _ hk=>cW g vs 0 w k (fun e=>hk (by rw [e]))⟩
 have hle:n' * s<=n * s:=Nat.mul_le_mul_right _ hn
 refine ⟨by rw [<-hy,Q_];omega, ?_⟩
 rcases h.2 with ⟨h',_⟩|⟨g',cap',cur,h',hb,hg,hc,hm,hs,ht⟩
 ·simp at h'
 ·simp only [Value.slice.injEq,n_,Addr.mk.injEq,and_true,true_and] at h'
  obtain ⟨rfl,rfl⟩:=h'
  have hcs:n * s<=cap * s:=Nat.mul_le_mul_right _ hc
  obtain ⟨yR,h1,h2,h3⟩:=fv g vs 0 w cur hg (by omega)
  refine .inr ⟨g,cap,yR,rfl,hb,h1,by omega,hm,by omega, ?_⟩
  rw [h3,List.take_zero,List.nil_append,List.take_append_of_le_length (by omega),hy]
variable {n cap:Nat}
variable {i:Nat}
theorem Gt {zs:List Int} (h:w.ownsRow B 3 1 (.slice (some ⟨g,0,none⟩) zs.length cap) zs.length (zs.map (ah .i64))) (hi:i<zs.length):
 d_ p_ 133 #[.slice (some ⟨g,0,none⟩) zs.length cap,.int .i64 (i:Nat),.int .i64 ((i+1:Nat):Int)] w fun e w'=>e=.returned (.slice (some ⟨g,0,none⟩) (zs.length - 1) cap)/\w'.ownsRow B 3 1 (.slice (some ⟨g,0,none⟩) (zs.eraseIdx i).length cap) (zs.eraseIdx i).length ((zs.eraseIdx i).map (ah .i64))/\w.grownBy w' (some g):=by
 obtain ⟨g',cap',cur,h',hb,hg,hc,hm,hs,ht⟩:=cz h (by omega)
 simp only [Value.slice.injEq,n_,Addr.mk.injEq,and_true,true_and] at h'
 obtain ⟨rfl,rfl⟩:=h'
 refine (Tryz.slices_Delete_int_cells g 0 zs.length cap i (i+1) zs w (C_ _) hc (by unfold maxLen at hm;omega) (by omega) hi ?_ ?_).mono ?_
 ·intro j hj
  rw [Nat.zero_add,h.cellAt j (by omega)]
  simp [List.getElem?_map,G_ hj,List.getD_eq_getElem?_getD]
 ·intro j _
  rw [Nat.zero_add];exact h.frozenAt j
 ·rintro e w' ⟨rfl,q,rfl⟩
  refine ⟨by rw [show i+1 - i=1 by omega], ?_⟩
  have hl:(zs.eraseIdx i).length=zs.length - 1:=by rw [List.length_eraseIdx];simp [hi]
  have hh:(w.drewN q).ownsRow B 3 1 (.slice (some ⟨g,0,none⟩) zs.length cap) zs.length (zs.map (ah .i64)):=h
  have:=wR (n':=zs.length - 1) hh (by omega) (vs:=((zs.take zs.length).take i++(zs.take zs.length).drop (i+1)++List.replicate (i+1 - i) 0).map (ah .i64)) (by simp;omega) (ys:=(zs.eraseIdx i).map (ah .i64)) (by
   rw [<-List.map_take]
   congr 1
   rw [List.take_length,List.eraseIdx_eq_take_drop_succ,List.take_append_of_le_length (by simp;omega)]
   exact List.take_of_length_le (by simp;omega))
  rw [hl]
  exact ⟨this.1,this.2.os,this.2.tape,this.2.output,this.2.size,this.2.block⟩
theorem bV:∀ws:List (Int × Int),(ax ws).length=ws.length * 2
 |[]=>rfl
 |a::l=>by
  show ([ah .i64 a.1,ah .i64 a.2]++ax l).length=(l.length+1) * 2
  rw [K_,bV l];simp;omega
theorem oc (b:Nat) (ys:List M'):∀(xs:List M') (o:Nat) (w:J'),w.setCells b o (xs++ys)=(w.setCells b o xs).setCells b (o+xs.length) ys
 |[],o,w=>rfl
 |x::r,o,w=>by
  rw [List.cons_append,World.setCells,World.setCells,oc b ys r (o+1) _,List.length_cons,show o+1+r.length=o+(r.length+1) by omega]
theorem Pj (z:M') (n:Nat):(Builtin.zeroCells #[z,z] n).toList=List.replicate (n * 2) z:=by
 simp [Builtin.zeroCells]
 apply List.ext_getElem
 ·simp<;>omega
 ·intro i h1 h2
  simp
  rcases Nat.mod_two_eq_zero_or_one i with h|h<;>simp [h]
variable {P:U'}
theorem wN (w:J') (t e ty:Q') (z:M') (ht:P.underlying t=some (.slice e)) (hv:∀w,∃zz,(zeroValue e).run P w=.ok zz w/\zz.cells=#[z,z]) (h1:z.oneCell'=true) (b o n c:Nat) (hn:0<n)
 (hc:∀j,j<n * 2->(w.cell? ⟨b,o+j,none⟩).isSome=true) (hf:∀j,j<n * 2->w.frozen? ⟨b,o+j,none⟩=false):
 (Builtin.clear_ #[t] ty #[.slice (some ⟨b,o,none⟩) n c]).run P w=.ok (.tuple #[]) (w.setCells b o (List.replicate (n * 2) z)):=by
 obtain ⟨zz,tX,hz⟩:=hv w
 have hzc:(Builtin.zeroCells zz.cells n).toList=List.replicate (n * 2) z:=by rw [hz];exact Pj z n
 have hst:=run_storeCells_cells (P:=P) b o (List.replicate (n * 2) z) 0 w (by simpa using hc) (by simpa using hf) (by intro v hv';rw [List.eq_of_mem_replicate hv'];exact h1)
 simp only [Nat.add_zero] at hst
 obtain ⟨m,rfl⟩:∃m,n=m+1:=⟨n - 1,by omega⟩
 simp [Builtin.clear_,run_underlying ht,tX,hzc,hst]
theorem IG (w:J'):∃zz,(zeroValue 84).run p_ w=.ok zz w/\zz.cells=#[.int .i64 0,.int .i64 0]:=⟨_,Tryz.zeroValue84 (w:=w),rfl⟩
theorem xn:(Tryz.prog.info? 84).map (fun i=>(i.zero,i.size,i.bytes))=some (some (.agg #[.int .i64 0,.int .i64 0]),2,16):=by kernel_rfl
variable {ws:List (Int × Int)}
theorem NN {p:Int × Int} (h:w.ownsRow B 84 2 (.slice (some ⟨g,0,none⟩) (ws.length+1) cap) (ws.length+1) (ax (p::ws))):
 d_ p_ 138 #[.slice (some ⟨g,0,none⟩) (ws.length+1:Nat) cap,.int .i64 0,.int .i64 1] w fun e w'=>e=.returned (.slice (some ⟨g,0,none⟩) ws.length cap)/\w'.ownsRow B 84 2 (.slice (some ⟨g,0,none⟩) ws.length cap) ws.length (ax ws)/\w.grownBy w' (some g):=by
 obtain ⟨g',cap',cur,h',hb,hg,hc,hm,hs,ht⟩:=cz h (by omega)
 simp only [Value.slice.injEq,n_,Addr.mk.injEq,and_true,true_and] at h'
 obtain ⟨rfl,rfl⟩:=h'
 obtain ⟨news,iU⟩:∃news,news=ax ws:=⟨_,rfl⟩
 have hlen:news.length=ws.length * 2:=by rw [iU];exact bV ws
 have hcell:∀j,j<(ws.length+1) * 2->w.cell? ⟨g,j,none⟩=(ax (p::ws))[j]?:=fun j hj=>h.cellAt j hj
 have kj:∀j,w.frozen? ⟨g,j,none⟩=false:=fun j=>h.frozenAt j
 obtain ⟨A,hA,QB⟩:∃A:Addr,(if cap=1 then (some ⟨g,0,none⟩:Option Addr) else some ⟨g,2,none⟩)=some A/\f_ (∀t u,news[t]?=some u->w.drew.cell? (A.add t)=some u):=by
  by_cases h1:cap=1
  ·refine ⟨⟨g,0,none⟩,by simp [h1],fun t u hu=> ?_⟩
   have h0:news.length=0:=by rw [hlen];omega
   rw [List.length_eq_zero_iff.1 h0] at hu
   simp at hu
  ·refine ⟨⟨g,2,none⟩,by simp [h1],fun t u hu=> ?_⟩
   have h2:t<news.length:=(List.getElem?_eq_some_iff.1 hu).1
   rw [Addr.add_lit]
   show w.cell? _=_
   rw [hcell (2+t) (by omega),<-hu,iU]
   simp [ax,Nat.add_comm 2 t]
 have iw:news.all (fun u=>u.oneCell')=true:=by rw [iU,List.all_eq_true];intro u hu;simp [ax] at hu;obtain ⟨a,b,_,rfl|rfl⟩:=hu<;>rfl
 have s2:f_ (∀u∈news,u.oneCell'=true):=fun u hu=>List.all_eq_true.1 iw u hu
 have s3:f_ (∀t,t<news.length->(w.drew.cell? ⟨g,0+0 * 2+t,none⟩).isSome=true/\w.drew.frozen? ⟨g,0+0 * 2+t,none⟩=false):=by
  intro t Wn
  rw [Nat.zero_mul,Nat.zero_add]
  refine ⟨?_,kj t⟩
  show (w.cell? _).isSome=true
  rw [hcell t (by omega),G_ (by rw [bV];simp;omega)];rfl
 have s1:f_ (news.length=ws.length * 2):=hlen
 obtain ⟨W1,wq⟩:∃W1,W1=w.drew.setCells g (0+0 * 2) news:=⟨_,rfl⟩
 have k1:∀x,W1.cell? x=(w.drew.setCells g 0 news).cell? x:=fun x=>by rw [wq]
 have rq:∀ty,(Builtin.clear_ #[74] ty #[.slice (some ⟨g,ws.length * 2,none⟩) 1 (cap - ws.length)]).run p_ W1=.ok (.tuple #[]) (W1.setCells g (ws.length * 2) (List.replicate (1 * 2) (.int .i64 0))):=
  fun ty=>wN W1 _ _ ty _ Tryz.underlying74 IG rfl g (ws.length * 2) 1 _ (by omega) (fun t Wn=>by
   rw [k1,World.cell?_setCells_out g news 0 _ _ (fun _ _=>.inr (by rw [hlen];simp)),show w.drew.cell? _=w.cell? ⟨g,ws.length * 2+t,none⟩ from rfl,hcell _ (by omega),G_ (by rw [bV];simp;omega)];rfl) (fun t Wn=>by rw [wq,World.frozen?_setCells];exact kj _)
 have hW:f_ (W1=w.drew.setCells g (0+0 * 2) news):=wq
 have H:=aa h
 replace hlen:=aa hlen
 replace iU:=aa iU
 have lJ:(1:Int)<=(cap:Int):=by omega
 have CP:(1:Int)<=(ws.length:Int)+1:=by omega
 have L9:(ws.length:Int)+1<=(cap:Int):=by omega
 have QO:(ws.length:Int)<=(ws.length:Int)+1:=by omega
 have hn4:ws.length<=cap:=by omega
 have hn5:(0:Int)<=(ws.length:Int):=by omega
 obtain ⟨i0,qJ,tX,rm,uF⟩:=info_parts xn
 clear wq hcell kj iw k1 h hg hs ht s1
 have s1:=hlen
 go_enter func138,ntmps138
 go_wp2_with fail
 go_region_law (refine step_append_room rfl (.tmp 22) (.tmp 25) 74 rfl 84 i0 2 Tryz.underlying74 qJ rm g 0 0 cap (by simp [Act.eval,Act.put]) A ws.length (cap - 1) news (by simp [Act.eval,Act.put,hA]) s1.out QB.out s2.out (by omega) s3.out ?_;rw [<-hW.out])
 go_wp2
 go_ret
 refine ⟨rfl, ?_⟩
 have hh:w.drew.ownsRow B 84 2 (.slice (some ⟨g,0,none⟩) (ws.length+1) cap) (ws.length+1) (ax (p::ws)):=H.out
 have he:W1.setCells g (ws.length * 2) [ah .i64 0,ah .i64 0]=w.drew.setCells g 0 (news++[ah .i64 0,ah .i64 0]):=by
  rw [oc,hlen.out,hW.out]
  simp
 rw [he]
 have:=wR (n':=ws.length) hh (by omega) (vs:=news++[ah .i64 0,ah .i64 0]) (by rw [K_,hlen.out];simp;omega) (ys:=ax ws) (by
  rw [List.take_append_of_le_length (by rw [hlen.out];exact C_ _),iU.out]
  exact List.take_of_length_le (by rw [bV];exact C_ _))
 exact ⟨this.1,this.2.os,this.2.tape,this.2.output,this.2.size,this.2.block⟩
variable {A:Ha} {S:Hs} {vw vb vr va vt:M'} {w':J'}
theorem aQ.kept (h:aQ A S vw vb vr va vt w) {row:Option Nat} (hg:w.grownBy w' row) (hr:∀g,row=some g->A.B<=g)
 (h1:vw.ownBlock=none\/vw.ownBlock≠row) (h2:vb.ownBlock=none\/vb.ownBlock≠row) (h3:vr.ownBlock=none\/vr.ownBlock≠row) (h4:va.ownBlock=none\/va.ownBlock≠row) (h5:vt.ownBlock=none\/vt.ownBlock≠row):aQ A S vw vb vr va vt w':=by
 have low:∀i,i<A.B->w'.heap[i]?=w.heap[i]?:=fun i hi=>hg.block i (E_ hi h.big) (fun e=>by have:=hr i e.symm;omega)
 exact ⟨h.ok,D_ h.big hg.size,by rw [low _ h.ok.hb];exact h.box,fun i hi=>(J_ (low _ h.ok.lb)).trans (h.lines i hi),h.on.block (low _ h.ok.m1),h.of.block (low _ h.ok.m2),h.rc.block (low _ h.ok.m3),h.wait.kept hg h1,h.back.kept hg h2,h.recs.kept hg h3,h.log.kept hg h4,h.cg.kept hg h5,h.apart⟩
theorem oT (v:M'):v.ownBlock=none\/v.ownBlock≠none:=Classical.em _
theorem aQ.more (h:aQ A S vw vb vr va vt w) (hg:w.grownBy w' none):aQ A S vw vb vr va vt w':=h.kept hg (fun _ e=>by cases e) (oT _) (oT _) (oT _) (oT _) (oT _)
theorem Fr.kept (hB:A.B<=w.heap.size) {row:Option Nat} (hg:w.grownBy w' row) (hr:∀g,row=some g->A.B<=g):Fr A w w':=⟨hg.os,hg.tape,hg.output,hg.size,fun i hi _ _ _ _=>hg.block i (E_ hi hB) (fun e=>by have:=hr i e.symm;omega)⟩
theorem Bc (w:J') (k:Nat) (os:Array Obj):w.grownBy (Sort.grow (w.drewN k) os) none:=by
 refine ⟨rfl,rfl,rfl,by simp [Sort.grow,World.drewN],fun i hi _=> ?_⟩
 show (w.heap++os)[i]?=w.heap[i]?
 rw [Array.getElem?_append_left hi]
theorem sI (w:J') (row:Option Nat):w.grownBy w row:=⟨rfl,rfl,rfl,C_ _,fun _ _ _=>rfl⟩
theorem aQ.I8 (h:aQ A S vw vb vr va vt w) (n:Int):aQ A {S with clock:=n} vw vb vr va vt (w.setCell ⟨A.hb,11,none⟩ (.int .i64 n))/\Fr A w (w.setCell ⟨A.hb,11,none⟩ (.int .i64 n)):=
 h.grown (sI w none) (fun _ e=>by cases e) (k:=11) (v:=.int .i64 n) (S':={S with clock:=n}) rfl rfl rfl rfl rfl h.wait h.back h.recs h.log h.cg h.apart
theorem aQ.My (h:aQ A S vw vb vr va vt w) {v:M'} (ho:w.ownsRow A.B 84 2 v ws.length (ax ws)):aQ A {S with wait:=ws} v vb vr va vt (w.setCell ⟨A.hb,7,none⟩ v)/\Fr A w (w.setCell ⟨A.hb,7,none⟩ v):=
 h.grown (sI w none) (fun _ e=>by cases e) (k:=7) (v:=v) (S':={S with wait:=ws}) rfl rfl rfl rfl rfl ho h.back h.recs h.log h.cg h.apart
theorem aQ.Cg (h:aQ A S vw vb vr va vt w) {v:M'} {c:Int} (hg:w.grownBy w' vb.ownBlock) (ho:w'.ownsRow A.B 3 1 v (S.back.length+1) (S.back.map (ah .i64)++[.int .i64 c])) (hv:v.ownBlock=vb.ownBlock\/v.ownBlock=some w.heap.size):
 aQ A {S with back:=S.back++[c]} vw v vr va vt (w'.setCell ⟨A.hb,8,none⟩ v)/\Fr A w (w'.setCell ⟨A.hb,8,none⟩ v):=by
 have Gp:v.ownBlock=none\/v.ownBlock≠vt.ownBlock:=by
  rcases hv with e|e
  ·rw [e];exact h.apart
  ·refine .inr fun e1=> ?_
   have:=(h.cg.lt _ (e1.symm.trans e)).2
   omega
 have J8:vt.ownBlock=none\/vt.ownBlock≠vb.ownBlock:=by
  rcases h.apart with e|e
  ·rw [e];exact oT _
  ·exact .inr (ru e)
 exact h.grown hg (fun g e=>pU h.back g e) (k:=8) (v:=v) (S':={S with back:=S.back++[c]}) rfl rfl rfl rfl rfl (bU h.wait h.back (by decide) hg) (by rw [K_,List.map_append];exact ho) (bU h.recs h.back (by decide) hg) (bU h.log h.back (by decide) hg) (h.cg.kept hg J8) Gp
def Ik (A:Ha) (w:J'):Prop:=∀w',Fr A w w'->Lib.TabIs p_ w' "internal/strconv.uint64pow10" .u64 Lib.pow10Tab
theorem Ik.fr (h:Ik A w) (f:Fr A w w'):Ik A w':=fun x hx=>h x (f.trans hx)
theorem si (h:Ik A w) (n:Int) (h0: -1000000000<=n) (h1:n<=1000000000):
 d_ p_ 131 #[.int .i64 n] w fun e w'=>e=.returned (.string ⟨(Lib.itoa n).toArray⟩)/\w.grownBy w' none:=
 (Tryz.strconv_Itoa n (by omega) (by omega) w (h w (Fr.refl A w))).mono fun _ _ ⟨he,k,os,hw⟩=>⟨he,hw▸Bc w k os⟩
def eT:Bs:=[116,105,114,101,100]
structure Wq where
 S:Hs
 keep:List (Int × Int)
 text:Bs
def bP (P:Int) (q:Wq) (p:Int × Int):Wq:=
 match q.S.of p.1,q.S.rc p.1 with
 |some x,some i=>match q.S.recs[i]? with
  |some r=>if q.S.clock - r.jy<P then {q with keep:=q.keep++[p]} else ⟨{uk q.S p.1 x i r eT with back:=q.S.back++[p.1]},q.keep,q.text++(32::Lib.itoa p.1)⟩
  |none=>q
 |_,_=>q
structure uT (S:Hs) (k:Nat) (q:Wq):Prop where
 rc:q.S.rc=S.rc
 len:q.S.recs.length=S.recs.length
 jy:∀i (h:i<S.recs.length) (h':i<q.S.recs.length),(q.S.recs[i]).jy=(S.recs[i]).jy
 wait:q.S.wait=S.wait
 lines:q.S.lines=S.lines
 of:∀j (hj:j<S.wait.length),k<=j->q.S.of (S.wait[j]).1=S.of (S.wait[j]).1
 clock:q.S.clock=S.clock
 keep:q.keep.length<=k
 back:q.S.back.length<=S.back.length+k
theorem uT.zero (S:Hs) (t:Bs):uT S 0 ⟨S,[],t⟩:=⟨rfl,rfl,fun _ _ _=>rfl,rfl,rfl,fun _ _ _=>rfl,rfl,C_ _,C_ _⟩
variable {k:Nat}
theorem uT.step {q:Wq} (h:uT S k q) (P:Int) (hk:k<S.wait.length) (hd:(S.wait.map (·.1)).Nodup):uT S (k+1) (bP P q S.wait[k]):=by
 have uH:uT S (k+1) q:=⟨h.rc,h.len,h.jy,h.wait,h.lines,fun j hj hk=>h.of j hj (by omega),h.clock,Nat.le_succ_of_le h.keep,Nat.le_succ_of_le h.back⟩
 unfold bP
 split
 ·rename_i x i _ _
  split
  ·rename_i r hr
   split
   ·exact ⟨h.rc,h.len,h.jy,h.wait,h.lines,fun j hj hk=>h.of j hj (by omega),h.clock,by simpa using h.keep,Nat.le_succ_of_le h.back⟩
   ·have hi:i<q.S.recs.length:=(List.getElem?_eq_some_iff.1 hr).1
    refine ⟨h.rc,by simpa [uk] using h.len,fun j hj EL=> ?_,h.wait,h.lines,fun j hj hkj=> ?_,h.clock,Nat.le_succ_of_le h.keep,by have:=h.back;simp [uk];omega⟩
    ·simp only [uk]
     by_cases e:i=j
     ·subst e
      rw [List.getElem_set_self]
      have:=h.jy i hj (by rw [h.len];exact hj)
      rw [<-(List.getElem?_eq_some_iff.1 hr).2];exact this
     ·rw [List.getElem_set_ne e];exact h.jy j hj _
    ·simp only [uk]
     have hne:(S.wait[j]).1≠(S.wait[k]).1:=fun e=>by
      have h1:=List.pairwise_iff_getElem.1 hd k j (by simpa using hk) (by simpa using hj) (by omega)
      simp at h1
      exact h1 e.symm
     rw [if_neg hne]
     exact h.of j hj (by omega)
  ·exact uH
 ·exact uH
end
end Go.aC.Of
