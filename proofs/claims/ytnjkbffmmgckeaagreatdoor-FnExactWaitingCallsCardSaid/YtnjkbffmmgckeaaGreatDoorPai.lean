/-
  Rules of the holder and of the child: operations that yield nothing; regions that draw; into a funct
-/
import Derived.MapKept
import Derived.WideLaws
import Derived.Conc.SmallLaws
import Derived.Maps.OwnOps
import Derived.Maps.OwnSet
import Derived.Test.YtnjkbffmmgckeaaGreatDoorProg
import Derived.WalkKit
import Derived.Lib.Hide
import Derived.OwnWalk
import Derived.Laws.AppendOwn
import Derived.Maps.AppendAt
import Derived.Deep.RegionHeld3
import Derived.Deep.RegionWith
import Derived.BigRegion
import Derived.Deep.AppendLies
import Derived.Lib.SmallJoins
import Derived.Test.YtnjkbffmmgckeaaGreatDoorPaa
import Derived.Test.YtnjkbffmmgckeaaGreatDoorPag
import Derived.Test.YtnjkbffmmgckeaaGreatDoorPah
set_option linter.all false
set_option maxRecDepth 100000
set_option maxHeartbeats 32000000
open Go renaming undef->I',World->J',Value->M',TypeId->Q',Program->U',execOp->V',Frame->Y',FuncId->w_,Oper->y_
open Option renaming getD_some->A_
open Nat renaming le_trans->D_
open Array renaming replicate->F_,getElem?_eq_getElem->H_,getElem?_setIfInBounds->Y_,getD_eq_getD_getElem?->r_
open Go.World renaming cell?_of_block->J_,size_setCell->o_
open Bool renaming and_eq_true->T_
open Go.Region renaming wanted->U_
open Classical renaming byContradiction->j_
open Go.Proofs.Tryz renaming prog->p_
namespace Go.aC
section
open Go Go.Conc Go.Conc.Lib Go.ConcR Go.ConcR.Gen
def jd (ops:Array y_):Nat->Array Bool->List (List Nat)
 |0,_=>[[]]
 |fuel+1,listed=>if (Region.ready .any ops listed).isEmpty then [[]] else (Region.ready .any ops listed).flatMap fun i=>(jd ops fuel (listed.setIfInBounds i true)).map (i::·)
theorem MU (ops:Array y_):∀(fuel t:Nat) (listed:Array Bool),Region.linearise.go .any ops fuel t listed []∈jd ops fuel listed:=by
 intro fuel
 induction fuel with
 |zero=>intro t listed;simp [Region.linearise.go,jd]
 |succ fuel ih=>
  intro t listed
  simp only [Region.linearise.go]
  change (match (Region.ready .any ops listed)[t % (Region.ready .any ops listed).length]? with
   |some i=>Region.linearise.go .any ops fuel (t / (Region.ready .any ops listed).length) (listed.setIfInBounds i true) [i]
   |none=>[].reverse)∈_
  cases hi:(Region.ready .any ops listed)[t % (Region.ready .any ops listed).length]? with
  |none=>
   have Y9:Region.ready .any ops listed=[]:=by
    cases hr:Region.ready .any ops listed with
    |nil=>rfl
    |cons x xs=>
     rw [hr] at hi
     have hlt:t % (x::xs).length<(x::xs).length:=Nat.mod_lt _ (by simp)
     simp at hi
     simp at hlt
     omega
   simp [jd,Y9]
  |some i=>
   have hm:=List.mem_of_getElem? hi
   have hne:(Region.ready .any ops listed).isEmpty=false:=by
    cases hr:Region.ready .any ops listed with
    |nil=>rw [hr] at hm;cases hm
    |cons x xs=>rfl
   simp only []
   rw [linearise_go_acc,List.reverse_singleton,List.singleton_append]
   simp only [jd,hne,Bool.false_eq_true,if_false,List.mem_flatMap,List.mem_map]
   exact ⟨i,hm,_,ih _ _,rfl⟩
section
variable {P:U'} {C:cS} {b o:Nat} {Post:M'->J'->Prop} {Rs:(Nat->Prop)->(Nat->aX)->Nat->Prop} {k:Nat} {wl:J'} {ok:w_->Bool}
end
section
variable {P:U'} {C:cS} {b o:Nat} {ae Fin:Goroutine->J'->Prop} {Post:M'->J'->Prop} {Rs:(Nat->Prop)->(Nat->aX)->Nat->Prop} {h₀:Nat} {wl:J'} {ok:w_->Bool}
variable {aI:Y'} {a:Act} {id:Nat} {ops:Array y_} {K:List Item} {cs:List Y'}
theorem ay.drawn (hm:P.follows .mixedOrders=true) (B:eh P C b o ae Fin h₀) (hS:gh h₀ Rs) (hL:Lay C wl) {l:List (List Nat)} (hl:jd ops ops.size (F_ ops.size false)=l) (h:∀p∈l,ay P C b o ae Fin Post h₀ Rs wl (G (aI.at a (.inRegion ops p::K)) cs)):
 ay P C b o ae Fin Post h₀ Rs wl (G (aI.at a (.code (.region id ops true)::K)) cs):=by
 refine ay.walk B hS hL fun _ n U hw fI=>Walk.gU rfl fun w₁ h₁=> ?_
 have cv:=hw.outside hL.cut h₁
 refine ⟨_,_,#[],stepG_region_draw,⟨⟨Nat.le_refl _,fun _ c _ _ h=>⟨c,h,rfl,fun _ _=>rfl⟩,fun _ _ h _=>h,fun _ o h ho=>⟨o,h,ho⟩,rfl,rfl,rfl,fun e he=>by simp at he⟩,fun hb=>⟨hb.os,hb.tape,hb.output,hb.size,hb.block⟩⟩,.stop fun lZ iN=>⟨wl, ?_,fI, ?_⟩⟩
 ·exact bI.outside (w:={w₁ with drawn:=w₁.drawn+1}) ⟨cv.size,cv.obj,cv.os,cv.out,cv.ic⟩ hL.cut iN
 ·simp only [Region.schedule,hm,Bool.true_or,if_true]
  exact h _ (hl▸MU ops _ _ _)
variable {i:Nat} {rest:List Nat} {x:y_}
theorem ay.Wh (B:eh P C b o ae Fin h₀) (hS:gh h₀ Rs) (hL:Lay C wl) (ho:ops[i]?=some x) (hw:U_ x (yielded ops a.tmps)=true) (hk:aI.kind≠.early) (cK:fN P ok x=true)
 (h:∀T d,∃w',(V' a.eval x).run P (wl.re T d)=.ok .skip w'/\(Cut (bS C) (fy C) w'->ay P C b o ae Fin Post h₀ Rs w' (G (aI.at (a.put x.dst I') (.inRegion ops rest::K)) cs))):
 ay P C b o ae Fin Post h₀ Rs wl (G (aI.at a (.inRegion ops (i::rest)::K)) cs):=by
 refine ay.walk B hS hL fun w n U EE fI=>Walk.gU rfl fun w₁ h₁=> ?_
 have cv:=EE.outside hL.cut h₁
 obtain ⟨w',hr,hc⟩:=h w₁.tape w₁.drawn
 have pk:(V' a.eval x).runT P (wl.re w₁.tape w₁.drawn) #[]=(.ok .skip w',((V' a.eval x).runT P (wl.re w₁.tape w₁.drawn) #[]).2):=by
  have:=Sem.runT_fst P (V' a.eval x) (wl.re w₁.tape w₁.drawn) #[]
  rw [hr] at this
  rw [<-this]
 have oJ:bI (wl.re w₁.tape w₁.drawn) w₁:=rM cv _ _
 obtain ⟨w2,h3,h4⟩:=pO (jh cK a) oJ pk (fun _ _=>rfl)
 have h5:(V' a.eval x).run P w₁=.ok .skip w2:=by rw [<-Sem.runT_fst P _ w₁ #[],h3]
 have h6:(V' a.eval x).events P w₁ #[]=((V' a.eval x).runT P (wl.re w₁.tape w₁.drawn) #[]).2:=by show ((V' a.eval x).runT P w₁ #[]).2=_;rw [h3]
 have hcut:Cut (bS C) (fy C) w':=(hL.cut.re w₁.tape w₁.drawn).upd h4.gR
 refine ⟨_,w2,_,stepG_none ho hw hk h5, ?_,.stop fun DU xo=>⟨w',h4.weak.outside hcut xo,(fI.re _ _).upd h4.gR,hc hcut⟩⟩
 unfold listed
 rw [h6]
 exact ⟨tO (hL.cut.re _ _) h4.seen oJ.size,fun hb=>kO (fI.re _ _) hb oJ.size h4.upd⟩
end
section
variable {P:U'} {main:Bool} {b:Y'} {a:Act} {k:List Item} {cs:List Y'} {ops:Array y_} {i:Nat} {rest:List Nat} {o:y_} {w:J'} {f:w_} {fn:Func} {c:Code} {args:Array Operand} {ats:Array Q'} {p q:M'}
theorem I1 (ho:ops[i]?=some o) (hw:U_ o (yielded ops a.tmps)=true) (hk:b.kind≠.early) (hop:o.op=.call {callee:=.value (.func f),args,argTypes:=ats})
 (hf:P.funcs[f]?=some fn) (lV:(fn.name== "runtime.NumGoroutine")=false) (hb:fn.body=some c):
 stepG P main (G (b.at a (.inRegion ops (i::rest)::k)) cs) w=.go (G (Frame.enter P f (args.map a.eval) .normal) (b.at a (.inRegion ops (i::rest)::k)::cs)) w #[]:=by
 have A8:fn.body.isNone=false:=by rw [hb];rfl
 rw [stepG_enter ho hw hk (run_call_body hop hf lV A8)]
 have:listed P b.fn a o w=#[]:=by unfold listed;rw [events_call_body hop hf lV A8];exact seen_none P _
 rw [this]
theorem bY {vs:Array M'} (ho:ops[i]?=some o) (hw:U_ o (yielded ops a.tmps)=true) (hk:b.kind≠.early) (hop:o.op=.call {callee:=.value (.func f),args,argTypes:=ats})
 (hf:P.funcs[f]?=some fn) (lV:(fn.name== "runtime.NumGoroutine")=false) (hb:fn.body=some c) (ha:args.map a.eval=vs):
 stepG P main (G (b.at a (.inRegion ops (i::rest)::k)) cs) w=.go (G (Frame.enter P f vs .normal) (b.at a (.inRegion ops (i::rest)::k)::cs)) w #[]:=by
 rw [<-ha];exact I1 ho hw hk hop hf lV hb
theorem ma:stepG P main (G (b.at a (.code .ret::k)) cs) w=.go (G {b.at a (.code .ret::k) with mode:=.returning} cs) w #[]:=stepG_ret'
variable {L:WgLink}
theorem I2 (H:WgLib P L) (ho:ops[i]?=some o) (hw:U_ o (yielded ops a.tmps)=true) (hk:b.kind≠.early) (hop:o.op=.call {callee:=.value (.func L.add),args:=args,argTypes:=ats}) (ha:args.map a.eval=#[p,q]):
 stepG P main (G (b.at a (.inRegion ops (i::rest)::k)) cs) w=.go (G ((base L.add).at ⟨#[p,q]++F_ 115 I',[]⟩ [.code ((addFn L).body.getD .skip)]) (b.at a (.inRegion ops (i::rest)::k)::cs)) w #[]:=by
 rw [i6 ho hw hk hop H.f_add (c:=(addFn L).body.getD .skip) rfl rfl,ha]
 rfl
theorem Mx (H:WgLib P L) (ho:ops[i]?=some o) (hw:U_ o (yielded ops a.tmps)=true) (hk:b.kind≠.early) (hop:o.op=.call {callee:=.value (.func L.wait),args:=args,argTypes:=ats}) (ha:args.map a.eval=#[p]):
 stepG P main (G (b.at a (.inRegion ops (i::rest)::k)) cs) w=.go (G ((base L.wait).at ⟨#[p]++F_ 83 I',[]⟩ [.code ((waitFn L).body.getD .skip)]) (b.at a (.inRegion ops (i::rest)::k)::cs)) w #[]:=by
 rw [i6 ho hw hk hop H.f_wait (c:=(waitFn L).body.getD .skip) rfl rfl,ha]
 rfl
end
end
section
open Go Go.Conc Go.Conc.Lib Go.ConcR Go.ConcR.Gen Go.RowKit
variable {ops:Array y_} {D:Array Bool} {i:Nat}
theorem tj (h:i∈Region.ready .any ops D):∃o,ops[i]?=some o/\i<ops.size/\D.getD i true=false/\∀e∈o.after,Region.binds .any e=true->D.getD e.on false=true:=by
 unfold Region.ready at h
 rw [List.mem_filter] at h
 obtain ⟨h1,h2⟩:=h
 have hlt:i<ops.size:=by simpa using h1
 refine ⟨ops[i],H_ hlt,hlt, ?_, ?_⟩
 ·have:=(T_ _ _▸h2).1;simpa using this
 ·have h3:=(T_ _ _▸h2).2
  rw [H_ hlt] at h3
  simp only [Option.map_some,A_,Array.all_eq_true] at h3
  intro e he hb
  obtain ⟨j,hj,rfl⟩:=Array.mem_iff_getElem.1 he
  have:=h3 j hj
  rw [hb] at this
  simpa using this
def ui (ops:Array y_):Bool:=(List.range ops.size).all fun i=>((ops[i]?).map fun o=>o.after.all fun e=>decide (e.on<i)).getD false
theorem xX (hs:D.size=ops.size) (hb:ui ops=true) (h:Region.ready .any ops D=[]):∀i,i<ops.size->D.getD i false=true:=by
 intro i
 induction i using Nat.strongRecOn with
 |_ i ih=>
  intro hi
  refine j_ fun hn=> ?_
  have hm:i∈Region.ready .any ops D:=by
   unfold Region.ready
   rw [List.mem_filter]
   refine ⟨by simpa using hi, ?_⟩
   have eo:=(List.all_eq_true.1 hb) i (by simpa using hi)
   rw [H_ hi] at eo ⊢
   simp only [Option.map_some,A_,Array.all_eq_true,decide_eq_true_eq] at eo
   rw [T_]
   refine ⟨?_, ?_⟩
   ·have hl:i<D.size:=hs▸hi
    simp [Array.getD,hl] at hn ⊢
    exact hn
   ·simp only [Option.map_some,A_,Array.all_eq_true]
    intro j hj
    have hlt:=eo j hj
    rw [ih _ hlt (by omega),Bool.or_true]
  rw [h] at hm;cases hm
def fU (ops:Array y_) (t:Nat):Option Nat:=(List.range ops.size).find? fun i=>((ops[i]?).bind (·.dst))==some t
def rT (ops:Array y_) (n:Nat):Bool:=(List.range ops.size).all fun i=>match (ops[i]?).bind (·.dst) with
 |none=>true
 |some t=>fU ops t==some i&&decide (t<n)
def nC (ops:Array y_) (base:Array M') (vals:Nat->M') (D:Array Bool) (t:Nat):M':=
 match fU ops t with
 |some i=>if D.getD i false then vals i else base.getD t I'
 |none=>base.getD t I'
structure iz (ops:Array y_) (base:Array M') (vals:Nat->M') (D:Array Bool) (a:Act):Prop where
 defers:a.defers=[]
 size:a.tmps.size=base.size
 at_:∀t,t<base.size->a.tmps.getD t I'=nC ops base vals D t
theorem qR {t:Nat} (h:fU ops t=some i):(ops[i]?).bind (·.dst)=some t:=by
 have:=List.find?_some h
 simpa using this
variable {j:Nat}
theorem bq:(D.setIfInBounds i true).getD j false=if i=j/\i<D.size then true else D.getD j false:=by
 simp only [r_,Y_]
 by_cases e:i=j
 ·subst e
  by_cases h:i<D.size
  ·simp [h]
  ·simp [h]
 ·simp [e]
section
variable {base:Array M'} {vals yV:Nat->M'} {a:Act}
theorem iz.val (h:iz ops base vals D a) {t:Nat} (hw:fU ops t=some j) (hd:D.getD j false=true) (ht:t<base.size):a.eval (.tmp t)=vals j:=by
 show a.tmps.getD t I'=_
 rw [h.at_ t ht];unfold nC;rw [hw];simp only [hd,if_true]
theorem iz.old (h:iz ops base vals D a) {t:Nat} (hw:fU ops t=none) (ht:t<base.size):a.eval (.tmp t)=base.getD t I':=by
 show a.tmps.getD t I'=_
 rw [h.at_ t ht];unfold nC;rw [hw]
theorem iz.put (h:iz ops base vals D a) (ho:rT ops base.size=true) (hi:i<ops.size) (hD:D.size=ops.size) (hn:D.getD i true=false) {o:y_} (Gc:ops[i]?=some o) (hv:∀j,D.getD j false=true->yV j=vals j):iz ops base yV (D.setIfInBounds i true) (a.put o.dst (yV i)):=by
 have iw:=(List.all_eq_true.1 ho) i (by simpa using hi)
 rw [Gc] at iw
 simp only [Option.bind_some] at iw
 have Me:i<D.size:=by omega
 have dS:∀t,t<base.size->fU ops t≠some i->nC ops base yV (D.setIfInBounds i true) t=nC ops base vals D t:=fun t ht hne=>by
  unfold nC
  cases hw:fU ops t with
  |none=>rfl
  |some j=>
   have vG:i≠j:=fun e=>hne (by rw [hw,e])
   simp only [bq,vG,false_and,if_false]
   by_cases hd:D.getD j false=true
   ·rw [if_pos hd,if_pos hd,hv j hd]
   ·rw [if_neg hd,if_neg hd]
 cases Q8:o.dst with
 |none=>
  refine ⟨h.defers,h.size,fun t ht=> ?_⟩
  refine (h.at_ t ht).trans (dS t ht fun e=> ?_).symm
  have:=qR e
  rw [Gc] at this
  simp only [Option.bind_some,Q8] at this
  cases this
 |some t0=>
  rw [Q8] at iw
  simp only [T_,beq_iff_eq,decide_eq_true_eq] at iw
  refine ⟨h.defers,by simp [Act.put,h.size],fun t ht=> ?_⟩
  show (a.tmps.setIfInBounds t0 (yV i)).getD t I'=_
  by_cases e:t0=t
  ·subst e
   unfold nC
   rw [iw.1]
   simp only [bq,true_and,Me,if_true]
   simp [r_,Y_,h.size,ht]
  ·have h1:(a.tmps.setIfInBounds t0 (yV i)).getD t I'=a.tmps.getD t I':=by
    simp [r_,Y_,e]
   rw [h1,h.at_ t ht]
   refine (dS t ht fun e1=> ?_).symm
   have:=qR e1
   rw [Gc] at this
   simp only [Option.bind_some,Q8,Option.some.injEq] at this
   exact e this
def FC (ops:Array y_) (base:Array M') (vals:Nat->M') (t:Nat):M':=match fU ops t with
 |some i=>vals i
 |none=>base.getD t I'
def slotsOf (ops:Array y_) (base:Array M') (vals:Nat->M'):Array M':=((List.range base.size).map (FC ops base vals)).toArray
theorem iz.done (h:iz ops base vals D a) (hd:∀i,i<ops.size->D.getD i false=true):a=⟨slotsOf ops base vals,[]⟩:=by
 obtain ⟨ts,ds⟩:=a
 have h1:ds=[]:=h.defers
 have h2:ts=slotsOf ops base vals:=by
  have hsz:ts.size=base.size:=h.size
  apply Array.ext
  ·rw [hsz];simp [slotsOf]
  ·intro t h3 h4
   have h5:=h.at_ t (hsz▸h3)
   have htb:t<base.size:=hsz▸h3
   have h6:ts.getD t I'=ts[t]:=by simp [r_,h3]
   have h7:(slotsOf ops base vals)[t]=FC ops base vals t:=by
    have h8:(slotsOf ops base vals)[t]?=some (FC ops base vals t):=by simp [slotsOf,htb]
    rw [H_ h4] at h8
    exact Option.some.inj h8
   rw [<-h6,h7]
   refine h5.trans ?_
   unfold FC nC
   cases hw:fU ops t with
   |none=>rfl
   |some i=>
    have hi:i<ops.size:=by
     have:=qR hw
     cases hx:ops[i]? with
     |none=>rw [hx] at this;cases this
     |some o=>exact (cI hx)
    simp only [hd i hi,if_true]
 rw [h1,h2]
end
theorem oQ (ops:Array y_) (base:Array M') (vals:Nat->M'):iz ops base vals (F_ ops.size false) ⟨base,[]⟩:=by
 refine ⟨rfl,rfl,fun t ht=> ?_⟩
 unfold nC
 cases hw:fU ops t with
 |none=>rfl
 |some i=>
  have:(F_ ops.size false).getD i false=false:=by
   simp only [r_,Array.getElem?_replicate]
   split<;>rfl
  simp only [this,Bool.false_eq_true,if_false]
section
variable {P:U'} {C:cS} {b o:Nat} {ae Fin:Goroutine->J'->Prop} {Post:M'->J'->Prop} {h₀:Nat} {wl:J'} {ok:w_->Bool} {T:Type} {Rs:T->(Nat->Prop)->(Nat->aX)->Nat->Prop}
variable {aI:Y'} {id:Nat} {K:List Item} {cs:List Y'} {kP:T}
theorem ay.any (hm:P.follows .mixedOrders=true) (B:eh P C b o ae Fin h₀) (hS:∀x,gh h₀ (Rs x)) {base:Array M'}
 (ho:rT ops base.size=true) (hb:ui ops=true) (vals:T->Nat->M') (Wd:Array Bool->T->J'->Prop) (hW:∀D x w,Wd D x w->Lay C w) (h0:Wd (F_ ops.size false) kP wl)
 (hstep:∀i o',ops[i]?=some o'->∀D x w a rest,D.size=ops.size->iz ops base (vals x) D a->Wd D x w->D.getD i false=false->(∀e∈o'.after,Region.binds .any e=true->D.getD e.on false=true)->
  (∀x' w',(∀j,D.getD j false=true->vals x' j=vals x j)->Wd (D.setIfInBounds i true) x' w'->ay P C b o ae Fin Post h₀ (Rs x') w' (G (aI.at (a.put o'.dst (vals x' i)) (.inRegion ops rest::K)) cs))->
  ay P C b o ae Fin Post h₀ (Rs x) w (G (aI.at a (.inRegion ops (i::rest)::K)) cs))
 (A6:∀D x w,(∀i,i<ops.size->D.getD i false=true)->Wd D x w->ay P C b o ae Fin Post h₀ (Rs x) w (G (aI.at ⟨slotsOf ops base (vals x),[]⟩ K) cs)):
 ay P C b o ae Fin Post h₀ (Rs kP) wl (G (aI.at ⟨base,[]⟩ (.code (.region id ops true)::K)) cs):=by
 refine ay.drawn hm B (hS kP) (hW _ _ _ h0) rfl ?_
 have key:∀fuel D x w a,D.size=ops.size->iz ops base (vals x) D a->Wd D x w->(∀i,i<ops.size->D.getD i false=true)\/(∃l,l=(List.range ops.size).filter (fun i=> !D.getD i true)/\l.length<=fuel)->∀p∈jd ops fuel D,ay P C b o ae Fin Post h₀ (Rs x) w (G (aI.at a (.inRegion ops p::K)) cs):=by
  intro fuel
  have fin:∀D x w a,iz ops base (vals x) D a->Wd D x w->(∀i,i<ops.size->D.getD i false=true)->ay P C b o ae Fin Post h₀ (Rs x) w (G (aI.at a (.inRegion ops []::K)) cs):=fun D x w a bc hw hd=>by
   refine ay.ctl B (hS x) (hW _ _ _ hw) rfl (fun _=>stepG_region_end) ?_
   rw [bc.done hd]
   exact A6 D x w hd hw
  induction fuel with
  |zero=>
   intro D x w a hD bc hw hl p hp
   simp only [jd,List.mem_singleton] at hp
   subst hp
   refine fin D x w a bc hw ?_
   rcases hl with hl|⟨l,hl,hlen⟩
   ·exact hl
   ·intro i hi
    refine j_ fun hn=> ?_
    have Ge:i∈l:=by
     rw [hl,List.mem_filter]
     refine ⟨by simpa using hi, ?_⟩
     have hlt:i<D.size:=hD▸hi
     simp [Array.getD,hlt] at hn ⊢
     exact hn
    cases l with
    |nil=>cases Ge
    |cons y ys=>simp at hlen
  |succ fuel ih=>
   intro D x w a hD bc hw hl p hp
   unfold jd at hp
   by_cases he:(Region.ready .any ops D).isEmpty=true
   ·rw [if_pos he,List.mem_singleton] at hp
    subst hp
    refine fin D x w a bc hw (xX hD hb ?_)
    cases hr:Region.ready .any ops D with
    |nil=>rfl
    |cons y ys=>rw [hr] at he;cases he
   ·rw [if_neg he,List.mem_flatMap] at hp
    obtain ⟨i,hi,hp⟩:=hp
    rw [List.mem_map] at hp
    obtain ⟨q,hq,rfl⟩:=hp
    obtain ⟨o',h1,h2,h3,h4⟩:=tj hi
    have Me:i<D.size:=by omega
    have O0:D.getD i false=false:=by simp [Array.getD,Me] at h3 ⊢;exact h3
    refine hstep i o' h1 D x w a q hD bc hw O0 h4 fun x' w' hv gC=> ?_
    refine ih (D.setIfInBounds i true) x' w' _ (by simpa using hD) (bc.put ho h2 hD h3 h1 hv) gC ?_ q hq
    rcases hl with hl|⟨l,hl,hlen⟩
    ·exact absurd (hl i h2) (by rw [O0];simp)
    ·refine .inr ⟨_,rfl, ?_⟩
     have Ge:i∈l:=by
      rw [hl,List.mem_filter]
      exact ⟨by simpa using h2,by rw [h3];rfl⟩
     have hle:((List.range ops.size).filter fun j=> !(D.setIfInBounds i true).getD j true).length<l.length:=by
      rw [hl]
      have yG:((List.range ops.size).filter fun j=> !(D.setIfInBounds i true).getD j true)=(l.filter fun j=>decide (j≠i)):=by
       rw [hl,List.filter_filter]
       apply List.filter_congr
       intro j hj
       have EL:j<ops.size:=by simpa using hj
       have UI:j<D.size:=by omega
       by_cases e:i=j
       ·subst e;simp [Array.getD,Me]
       ·have e':¬j=i:=fun h=>e h.symm
        simp [Array.getD,UI,e',e]
      rw [yG,<-hl]
      exact List.length_filter_lt_length_iff_exists.2 ⟨i,Ge,by simp⟩
     omega
 refine key _ _ _ _ _ (by simp) (oQ ops base (vals kP)) h0 (.inr ⟨_,rfl, ?_⟩)
 exact D_ (List.length_filter_le _ _) (by simp)
variable {a:Act} {rest:List Nat} {x:y_}
theorem ay.dY (B:eh P C b o ae Fin h₀) {zM:(Nat->Prop)->(Nat->aX)->Nat->Prop} (hS:gh h₀ zM) (hL:Lay C wl) (ho:ops[i]?=some x) (hg:x.guard=none) (hk:aI.kind≠.early) (cK:fN P ok x=true) {v:M'}
 (hx:∀T d,(V' a.eval x).run P (wl.re T d)=.ok (.value v) (wl.re T d)) (hc:ay P C b o ae Fin Post h₀ zM wl (G (aI.at (a.put x.dst v) (.inRegion ops rest::K)) cs)):
 ay P C b o ae Fin Post h₀ zM wl (G (aI.at a (.inRegion ops (i::rest)::K)) cs):=
 ay.op (ok:=ok) B hS hL ho (by simp [U_,hg]) hk cK fun T d=>⟨v,wl.re T d,hx T d,fun _=>hc.re T d⟩
end
variable {vals:Nat->M'} {a:Act}
theorem iz.vv {base:Array M'} (h:iz ops base vals D a) (v:M') (t j:Nat) (hd:D.getD j false=true) (hw:fU ops t=some j:=by kernel_rfl) (ht:t<base.size:=by exact Gl _ (by decide)) (e:vals j=v:=by exact rfl):a.eval (.tmp t)=v/\a.tmps[t]?.getD I'=v:=vw ((h.val hw hd ht).trans e)
theorem iz.oo {base:Array M'} (h:iz ops base vals D a) (v:M') (t:Nat) (e:base.getD t I'=v:=by exact HI _) (hw:fU ops t=none:=by kernel_rfl) (ht:t<base.size:=by exact Gl _ (by decide)):a.eval (.tmp t)=v/\a.tmps[t]?.getD I'=v:=vw ((h.old hw ht).trans e)
theorem dq {o:y_} (h:∀e∈o.after,Region.binds .any e=true->D.getD e.on false=true) (j:Nat) (m:(⟨j,.data⟩:Edge)∈o.after:=by simp):D.getD j false=true:=h _ m rfl
end
section
open Go Go.Conc Go.RowKit
section
variable {P:U'} {ops:Array y_} {Q:Exit->Act->J'->Prop} {T:Type}
variable {i:Nat} {a:Act} {w w':J'}
theorem bj {o:y_} {v:M'} {K:Act->J'->Prop} (ho:ops[i]?=some o) (hg:o.guard=none) (hr:(V' a.eval o).run P w=.ok (.value v) w') (hk:K (a.put o.dst v) w'):wpOp P ops Q i K a w:=by
 unfold wpOp
 rw [ho]
 have hw:U_ o (yielded ops a.tmps)=true:=by simp [U_,hg]
 simp only [hw,if_true]
 left
 unfold Oper.wp
 rw [hr]
 exact hk
theorem gQ {o:y_} {K:Act->J'->Prop} (ho:ops[i]?=some o) (hg:o.guard=none) (hr:(V' a.eval o).run P w=.ok .skip w') (hk:K (a.put o.dst I') w'):wpOp P ops Q i K a w:=by
 unfold wpOp
 rw [ho]
 have hw:U_ o (yielded ops a.tmps)=true:=by simp [U_,hg]
 simp only [hw,if_true]
 left
 unfold Oper.wp
 rw [hr]
 exact hk
variable {id:Nat} {kP:T}
theorem mA (hm:P.follows .mixedOrders=true) {base:Array M'} (ho:rT ops base.size=true) (hb:ui ops=true) (vals:T->Nat->M') (Wd:Array Bool->T->J'->Prop) (h0:Wd (F_ ops.size false) kP w.drew)
 (hstep:∀i o',ops[i]?=some o'->∀D x w a,D.size=ops.size->iz ops base (vals x) D a->Wd D x w->D.getD i false=false->(∀e∈o'.after,Region.binds .any e=true->D.getD e.on false=true)->
  ∀K:Act->J'->Prop,(∀x' w',(∀j,D.getD j false=true->vals x' j=vals x j)->Wd (D.setIfInBounds i true) x' w'->K (a.put o'.dst (vals x' i)) w')->wpOp P ops Q i K a w)
 (A6:∀D x w,(∀i,i<ops.size->D.getD i false=true)->Wd D x w->Q .normal ⟨slotsOf ops base (vals x),[]⟩ w):
 Code.wp P (.region id ops true) Q ⟨base,[]⟩ w:=by
 refine wp_region_any hm ?_
 have key:∀fuel D x w a,D.size=ops.size->iz ops base (vals x) D a->Wd D x w->(∀i,i<ops.size->D.getD i false=true)\/((List.range ops.size).filter (fun i=> !D.getD i true)).length<=fuel->wpAny P .any ops Q fuel D a w:=by
  intro fuel
  induction fuel with
  |zero=>
   intro D x w a hD bc hw hl
   have hd:∀i,i<ops.size->D.getD i false=true:=by
    rcases hl with hl|hl
    ·exact hl
    ·intro i hi
     refine j_ fun hn=> ?_
     have Ge:i∈(List.range ops.size).filter (fun i=> !D.getD i true):=by
      rw [List.mem_filter]
      refine ⟨by simpa using hi, ?_⟩
      have hlt:i<D.size:=hD▸hi
      simp [Array.getD,hlt] at hn ⊢
      exact hn
     cases hx:(List.range ops.size).filter (fun i=> !D.getD i true) with
     |nil=>rw [hx] at Ge;cases Ge
     |cons y ys=>rw [hx] at hl;simp at hl
   refine ⟨?_, ?_⟩
   ·unfold Region.ready
    rw [List.filter_eq_nil_iff]
    intro i hi
    have lE:i<ops.size:=by simpa using hi
    have hlt:i<D.size:=hD▸lE
    have:=hd i lE
    simp [Array.getD,hlt] at this ⊢
    intro h;rw [this] at h;cases h
   ·rw [bc.done hd];exact A6 D x w hd hw
  |succ fuel ih=>
   intro D x w a hD bc hw hl
   refine ⟨fun he=> ?_,fun i hi=> ?_⟩
   ·have hd:=xX hD hb he
    rw [bc.done hd];exact A6 D x w hd hw
   ·obtain ⟨o',h1,h2,h3,h4⟩:=tj hi
    have Me:i<D.size:=by omega
    have O0:D.getD i false=false:=by simp [Array.getD,Me] at h3 ⊢;exact h3
    refine hstep i o' h1 D x w a hD bc hw O0 h4 _ fun x' w' hv gC=> ?_
    refine ih (D.setIfInBounds i true) x' w' _ (by simpa using hD) (bc.put ho h2 hD h3 h1 hv) gC ?_
    rcases hl with hl|hl
    ·exact absurd (hl i h2) (by rw [O0];simp)
    ·refine .inr ?_
     have Ge:i∈(List.range ops.size).filter (fun i=> !D.getD i true):=by
      rw [List.mem_filter]
      exact ⟨by simpa using h2,by rw [h3];rfl⟩
     have yG:((List.range ops.size).filter fun j=> !(D.setIfInBounds i true).getD j true)=(((List.range ops.size).filter (fun i=> !D.getD i true)).filter fun j=>decide (j≠i)):=by
      rw [List.filter_filter]
      apply List.filter_congr
      intro j hj
      have EL:j<ops.size:=by simpa using hj
      have UI:j<D.size:=by omega
      by_cases e:i=j
      ·subst e;simp [Array.getD,Me]
      ·have e':¬j=i:=fun h=>e h.symm
       simp [Array.getD,UI,e',e]
     have hle:=List.length_filter_lt_length_iff_exists (p:=fun j=>decide (j≠i)) (l:=(List.range ops.size).filter (fun i=> !D.getD i true)) |>.2 ⟨i,Ge,by simp⟩
     rw [<-yG] at hle
     omega
 refine key _ _ _ _ _ (by simp) (oQ ops base (vals kP)) h0 (.inr ?_)
 exact D_ (List.length_filter_le _ _) (by simp)
end
variable {P:U'} {ops:Array y_} {i:Nat} {a:Act} {w:J'}
theorem iY {Q:Exit->Act->J'->Prop} {o:y_} {K:Act->J'->Prop} (ho:ops[i]?=some o) (v:M') (hk:K (a.put o.dst v) w) (hg:o.guard=none:=by exact rfl) (hr:(V' a.eval o).run P w=.ok (.value v) w:=by (clear bc hw aA bH qi qn;go_simp)):wpOp P ops Q i K a w:=bj ho hg hr hk
end
section
open Go Go.Conc
def qE (x:Nat) (e:MapEntry):Bool:=match e.key with| .chan (some y)=>x==y|_=>false
def V5 (es:Array MapEntry):Prop:=∀e∈es.toList,∃y,e.key=.chan (some y)
section
variable {P:U'} {w:J'} {mt kt et e:Q'} {dir:ChanDir} {m x:Nat} {es:Array MapEntry} {clock:Nat}
theorem wM (hk:P.underlying kt=some (.chan dir e)) (a b:Option Nat) (w:J'):(Op.equal kt (.chan a) (.chan b)).run P w=.ok (a==b) w:=by
 show (Op.equalIn (9999+1) kt (.chan a) (.chan b)).run P w=_
 unfold Op.equalIn
 simp [run_underlying hk,Result.andThen]
theorem Be (l:List MapEntry) (hl:l≠[]) (i:Nat):Instr.findNow (.chan dir e) (.chan (some x)) l i=none:=by
 cases l with
 |nil=>exact absurd rfl hl
 |cons a l=>rfl
theorem ko (hk:P.underlying kt=some (.chan dir e)):∀(l:List MapEntry) (i:Nat) (w:J'),(∀a∈l,∃y,a.key=.chan (some y))->
 (Instr.findAsking kt (.chan (some x)) l i).run P w=.ok ((l.findIdx? (qE x)).map fun j=>(i+j,((l[j]?).map (·.val)).getD I')) w
 |[],i,w,_=>by simp [Instr.findAsking]
 |a::l,i,w,h=>by
  obtain ⟨y,hy⟩:=h a (by simp)
  have ih:=ko hk l (i+1) w (fun b hb=>h b (by simp [hb]))
  unfold Instr.findAsking
  simp only [Sem.run_bind,hy,wM hk,Result.andThen]
  by_cases e:x=y
  ·subst e
   have:qE x a=true:=by simp [qE,hy]
   simp [List.findIdx?_cons,this]
  ·have fS:qE x a=false:=by simp [qE,hy,e]
   have hne:((some x:Option Nat)==some y)=false:=by simp [e]
   simp only [hne,Bool.false_eq_true,if_false,ih,List.findIdx?_cons,fS,Option.map_map]
   congr 1
   cases l.findIdx? (qE x) with
   |none=>rfl
   |some j=>simp;omega
theorem tf (hk:P.underlying kt=some (.chan dir e)) (l:List MapEntry) (w:J') (h:∀a∈l,∃y,a.key=.chan (some y)):
 (Instr.findKey kt (.chan (some x)) l).run P w=.ok ((l.findIdx? (qE x)).map fun j=>(j,((l[j]?).map (·.val)).getD I')) w:=by
 unfold Instr.findKey
 simp only [Sem.run_bind,run_underlying hk,Result.andThen]
 cases l with
 |nil=>simp [Instr.findNow]
 |cons a l=>
  rw [Be _ (by simp)]
  simp only [ko hk (a::l) 0 w h,Nat.zero_add]
theorem rO (hk:P.underlying kt=some (.chan dir e)) (b:Bool) (n:Nat) (c:Option Nat) (w:J'):(Instr.checkKey b (n+1) kt (.chan c)).run P w=.ok () w:=by
 unfold Instr.checkKey
 simp [run_underlying hk,Result.andThen]
end
end
end Go.aC
namespace Go.aC.Of
section
open Go Go.Conc Go.aC
open Go.ConcN (upd upd_ne upd_same)
structure Keys (P:U') (kt:Q') {K:Type} (enc:K->M'):Prop where
 inj:∀a b,enc a=enc b->a=b
 find:∀(l:List MapEntry) (k:K) (w:J'),(∀e∈l,∃k',e.key=enc k')->∃r:Option (Nat × M'),(Instr.findKey kt (enc k) l).run P w=.ok r w/\
  ((r=none/\∀e∈l,e.key≠enc k)\/∃i e,r=some (i,e.val)/\l[i]?=some e/\e.key=enc k)
 check:∀b n k (w:J'),(Instr.checkKey b (n+1) kt (enc k)).run P w=.ok () w
 stays:∀k (w:J'),(Instr.keyThatStays (enc k) (enc k)).run P w=.ok (enc k) w
structure ed (w:J') (m:Nat) {K:Type} (enc:K->M') (f:K->Option M'):Prop where
 ex:∃es clock,w.heap[m]?=some (.map es clock)/\(∀e∈es.toList,∃k,e.key=enc k/\f k=some e.val)/\(∀k v,f k=some v->∃e∈es.toList,e.key=enc k)/\es.toList.Pairwise fun a b=>a.key≠b.key
variable {w w':J'} {m:Nat}
theorem ed.block {K:Type} {enc:K->M'} {f:K->Option M'} (h:ed w m enc f) (hb:w'.heap[m]?=w.heap[m]?):ed w' m enc f:=by
 obtain ⟨es,clock,h1,h2⟩:=h.ex
 exact ⟨es,clock,hb.trans h1,h2⟩
def World.bK (w:J') (m:Nat) (o:Obj):J':={w with heap:=w.heap.setIfInBounds m o}
section
variable {P:U'} {mt kt et:Q'} {K:Type} {enc:K->M'} {f:K->Option M'}
theorem ed.lookup (hK:Keys P kt enc) (hm:P.underlying mt=some (.map kt et)) (h:ed w m enc f) (k:K) {z:M'} (hz:∀w:J',(zeroValue et).run P w=.ok z w) (ok:Bool):
 (Instr.lookup mt (.map (some m)) (enc k) ok).run P w=.ok (if ok then .tuple #[(f k).getD z,.bool (f k).isSome] else (f k).getD z) w:=by
 obtain ⟨es,clock,h1,h2,h3,h4⟩:=h.ex
 obtain ⟨r,hr,pv⟩:=hK.find es.toList k w (fun e he=>(h2 e he).imp fun k' fS=>fS.1)
 unfold Instr.lookup
 rcases pv with ⟨rfl,hno⟩|⟨i,e,rfl,hi,yM⟩
 ·have hf:f k=none:=by
   cases Zy:f k with
   |none=>rfl
   |some v=>obtain ⟨e,he,yM⟩:=h3 k v Zy;exact absurd yM (hno e he)
  cases ok<;>simp [run_underlying hm,MapKept.run_getObj_map h1,hK.check,hr,hz,hf,Result.andThen]
 ·obtain ⟨k',fS,hv⟩:=h2 e (List.mem_of_getElem? hi)
  have:k'=k:=hK.inj _ _ (fS.symm.trans yM)
  subst this
  cases ok<;>simp [run_underlying hm,MapKept.run_getObj_map h1,hK.check,hr,hv,Result.andThen]
variable {i:Nat}
theorem ly {α:Type} {l:List α} {a:α} (h:l[i]?=some a):∃hi:i<l.length,l[i]=a:=List.getElem?_eq_some_iff.1 h
variable {j:Nat}
theorem On {l:List MapEntry} (hp:l.Pairwise fun a b=>a.key≠b.key) {a b:MapEntry} (hi:l[i]?=some a) (hj:l[j]?=some b) (hk:a.key=b.key):i=j:=by
 obtain ⟨lE,rfl⟩:=ly hi
 obtain ⟨EL,rfl⟩:=ly hj
 rw [List.pairwise_iff_getElem] at hp
 rcases Nat.lt_trichotomy i j with h|h|h
 ·exact absurd hk (hp i j lE EL h)
 ·exact h
 ·exact absurd hk.symm (hp j i EL lE h)
open Classical in
theorem ed.update (hK:Keys P kt enc) (hm:P.underlying mt=some (.map kt et)) (h:ed w m enc f) (k:K) (v:M'):
 ∃o,(Instr.mapUpdate mt (.map (some m)) (enc k) v).run P w=.ok () (World.bK w m o)/\ed (World.bK w m o) m enc (fun x=>if x=k then some v else f x):=by
 obtain ⟨es,clock,h1,h2,h3,h4⟩:=h.ex
 have hlt:=(cI h1)
 have vD:∀o,(World.bK w m o).heap[m]?=some o:=fun o=>by simp [World.bK,hlt]
 obtain ⟨r,hr,pv⟩:=hK.find es.toList k w (fun e he=>(h2 e he).imp fun k' fS=>fS.1)
 rcases pv with ⟨rfl,hno⟩|⟨i,e,rfl,hi,yM⟩
 ·have hf:f k=none:=by
   cases Zy:f k with
   |none=>rfl
   |some v=>obtain ⟨e,he,yM⟩:=h3 k v Zy;exact absurd yM (hno e he)
  refine ⟨.map (es.push {key:=enc k,val:=v,born:=clock}) (clock+1), ?_,_,_,vD _,fun e he=> ?_,fun x u hx=> ?_, ?_⟩
  ·unfold Instr.mapUpdate
   simp [run_underlying hm,MapKept.run_getObj_map h1,hK.check,hr,MapKept.run_setObj_map _ h1,Result.andThen,World.bK]
  ·simp only [Array.toList_push,List.mem_append,List.mem_singleton] at he
   rcases he with he|rfl
   ·obtain ⟨k',fS,hv⟩:=h2 e he
    refine ⟨k',fS, ?_⟩
    rw [if_neg (by rintro rfl;exact hno e he fS)];exact hv
   ·exact ⟨k,rfl,by simp⟩
  ·by_cases Qp:x=k
   ·subst Qp
    exact ⟨{key:=enc x,val:=v,born:=clock},by simp,rfl⟩
   ·rw [if_neg Qp] at hx
    obtain ⟨e,he,yM⟩:=h3 x u hx
    exact ⟨e,by simp [he],yM⟩
  ·simp only [Array.toList_push]
   rw [List.pairwise_append]
   exact ⟨h4,by simp,fun a ha b hb=>by simp at hb;subst hb;exact hno a ha⟩
 ·have ml:=(ly hi).choose
  have he0:=(ly hi).choose_spec
  refine ⟨.map (es.modify i fun e=>{e with key:=enc k,val:=v}) clock, ?_,_,_,vD _,fun a ha=> ?_,fun x u hx=> ?_, ?_⟩
  ·have hes:es[i]?=some e:=by rw [<-Array.getElem?_toList];exact hi
   unfold Instr.mapUpdate
   simp [run_underlying hm,MapKept.run_getObj_map h1,hK.check,hr,MapKept.run_setObj_map _ h1,Result.andThen,World.bK,hes,yM,hK.stays]
  ·obtain ⟨j,hj⟩:=List.getElem?_of_mem ha
   rw [Array.getElem?_toList,Array.getElem?_modify] at hj
   split at hj
   ·rename_i vG
    subst vG
    obtain ⟨e',SC,rfl⟩:=Option.map_eq_some_iff.1 hj
    exact ⟨k,rfl,by simp⟩
   ·rename_i vG
    rw [<-Array.getElem?_toList] at hj
    obtain ⟨k',fS,hv⟩:=h2 a (List.mem_of_getElem? hj)
    refine ⟨k',fS, ?_⟩
    rw [if_neg (by rintro rfl;exact vG (On h4 hi hj (yM.trans fS.symm)))];exact hv
  ·have key:∀e'∈es.toList,∃O3∈(es.modify i fun e=>{e with key:=enc k,val:=v}).toList,O3.key=e'.key:=fun e' SC=>by
    obtain ⟨j,hj⟩:=List.getElem?_of_mem SC
    by_cases vG:i=j
    ·subst vG
     rw [hi] at hj;cases hj
     refine ⟨{e with key:=enc k,val:=v}, ?_,yM.symm⟩
     have hes:es[i]?=some e:=by rw [<-Array.getElem?_toList];exact hi
     exact List.mem_of_getElem? (i:=i) (by rw [Array.getElem?_toList,Array.getElem?_modify];simp [hes])
    ·refine ⟨e', ?_,rfl⟩
     exact List.mem_of_getElem? (i:=j) (by rw [Array.getElem?_toList,Array.getElem?_modify,if_neg vG,<-Array.getElem?_toList];exact hj)
   by_cases Qp:x=k
   ·subst Qp
    obtain ⟨O3,h5,h6⟩:=key e (List.mem_of_getElem? hi)
    exact ⟨O3,h5,h6.trans yM⟩
   ·rw [if_neg Qp] at hx
    obtain ⟨e',SC,Nw⟩:=h3 x u hx
    obtain ⟨O3,h5,h6⟩:=key e' SC
    exact ⟨O3,h5,h6.trans Nw⟩
  ·rw [List.pairwise_iff_getElem] at h4 ⊢
   intro a c ha hc ZT
   simp only [Array.length_toList,Array.size_modify] at ha hc
   have ka:∀j (hj:j<es.size),((es.modify i fun e=>{e with key:=enc k,val:=v}).toList[j]'(by simpa using hj)).key=(es.toList[j]'(by simpa using hj)).key:=fun j hj=>by
    simp only [Array.getElem_toList,Array.getElem_modify]
    split
    ·rename_i vG
     subst vG
     rw [<-he0] at yM
     simpa using yM.symm
    ·rfl
   rw [ka a ha,ka c hc]
   exact h4 a c (by simpa using ha) (by simpa using hc) ZT
open Classical in
theorem ed.delete (hK:Keys P kt enc) (hm:P.underlying mt=some (.map kt et)) (h:ed w m enc f) (k:K) (ty Qh:Q'):
 ∃o,(Builtin.delete_ #[mt,Qh] ty #[.map (some m),enc k]).run P w=.ok (.tuple #[]) (World.bK w m o)/\ed (World.bK w m o) m enc (fun x=>if x=k then none else f x):=by
 obtain ⟨es,clock,h1,h2,h3,h4⟩:=h.ex
 have hlt:=(cI h1)
 have vD:∀o,(World.bK w m o).heap[m]?=some o:=fun o=>by simp [World.bK,hlt]
 obtain ⟨r,hr,pv⟩:=hK.find es.toList k w (fun e he=>(h2 e he).imp fun k' fS=>fS.1)
 rcases pv with ⟨rfl,hno⟩|⟨i,e,rfl,hi,yM⟩
 ·refine ⟨.map es clock, ?_,_,_,vD _,fun e he=> ?_,fun x u hx=> ?_,h4⟩
  ·unfold Builtin.delete_
   simp [run_underlying hm,MapKept.run_getObj_map h1,hK.check,hr,MapKept.run_setObj_map _ h1,Result.andThen,World.bK]
  ·obtain ⟨k',fS,hv⟩:=h2 e he
   exact ⟨k',fS,by rw [if_neg (by rintro rfl;exact hno e he fS)];exact hv⟩
  ·split at hx
   ·cases hx
   ·exact h3 x u hx
 ·have ml:=(ly hi).choose
  have yG:(es.eraseIdxIfInBounds i).toList=es.toList.eraseIdx i:=by
   simp only [Array.length_toList] at ml
   simp [Array.eraseIdxIfInBounds,ml]
  refine ⟨.map (es.eraseIdxIfInBounds i) clock, ?_,_,_,vD _,fun a ha=> ?_,fun x u hx=> ?_, ?_⟩
  ·unfold Builtin.delete_
   simp [run_underlying hm,MapKept.run_getObj_map h1,hK.check,hr,MapKept.run_setObj_map _ h1,Result.andThen,World.bK]
  ·rw [yG,List.mem_eraseIdx_iff_getElem?] at ha
   obtain ⟨j,SA,hj⟩:=ha
   obtain ⟨k',fS,hv⟩:=h2 a (List.mem_of_getElem? hj)
   exact ⟨k',fS,by rw [if_neg (by rintro rfl;exact SA (On h4 hj hi (fS.trans yM.symm)))];exact hv⟩
  ·split at hx
   ·cases hx
   ·rename_i Qp
    obtain ⟨e',SC,Nw⟩:=h3 x u hx
    refine ⟨e', ?_,Nw⟩
    rw [yG,List.mem_eraseIdx_iff_getElem?]
    obtain ⟨j,hj⟩:=List.getElem?_of_mem SC
    refine ⟨j,fun SA=>Qp ?_,hj⟩
    subst SA
    rw [hi] at hj;cases hj
    exact hK.inj _ _ (Nw.symm.trans yM)
  ·rw [yG]
   exact h4.sublist (List.eraseIdx_sublist _ _)
end
variable {P:U'} {kt:Q'}
theorem JS (hk:P.underlying kt=some (.int .i64)):Keys P kt (Value.int .i64):=by
 refine ⟨fun a b h=>by injection h,fun l k w hl=> ?_,fun b n k w=> ?_,fun k w=> ?_⟩
 ·have key:∀(l:List MapEntry) (i:Nat),(∀e∈l,∃k',e.key=Value.int .i64 k')->∃r:Option (Nat × M'),Instr.findNow (.int .i64) (.int .i64 k) l i=some r/\((r=none/\∀e∈l,e.key≠.int .i64 k)\/∃j e,r=some (i+j,e.val)/\l[j]?=some e/\e.key=.int .i64 k):=by
   intro l
   induction l with
   |nil=>exact fun i _=>⟨none,rfl,.inl ⟨rfl,by simp⟩⟩
   |cons a l ih=>
    intro i hl
    obtain ⟨k',fS⟩:=hl a (by simp)
    by_cases e:k=k'
    ·subst e
     exact ⟨some (i,a.val),by simp [Instr.findNow,Instr.sameNow,fS],.inr ⟨0,a,by simp,rfl,fS⟩⟩
    ·obtain ⟨r,hr,hc⟩:=ih (i+1) (fun e he=>hl e (by simp [he]))
     have hne:(k==k')=false:=beq_eq_false_iff_ne.2 e
     refine ⟨r,by simp [Instr.findNow,Instr.sameNow,fS,hne,hr], ?_⟩
     rcases hc with ⟨rfl,hno⟩|⟨j,e',rfl,hj,Zm⟩
     ·refine .inl ⟨rfl,fun x hx=> ?_⟩
      rcases List.mem_cons.1 hx with rfl|hx
      ·rw [fS];intro h;injection h with _ h;exact e h.symm
      ·exact hno x hx
     ·exact .inr ⟨j+1,e',by rw [show i+1+j=i+(j+1) by omega],by simpa using hj,Zm⟩
  obtain ⟨r,hr,hc⟩:=key l 0 hl
  refine ⟨r, ?_, ?_⟩
  ·unfold Instr.findKey
   simp [run_underlying hk,hr,Result.andThen]
  ·rcases hc with h|⟨j,e,h1,h2,h3⟩
   ·exact .inl h
   ·exact .inr ⟨j,e,by simpa using h1,h2,h3⟩
 ·unfold Instr.checkKey
  simp [run_underlying hk,Result.andThen]
 ·unfold Instr.keyThatStays
  simp [Instr.sameBits]
def Bl (x:Nat):M':=.chan (some x)
theorem Hy {e:Q'} {dir:ChanDir} (hk:P.underlying kt=some (.chan dir e)):Keys P kt Bl:=by
 refine ⟨fun a b h=>by injection h with h;injection h,fun l k w hl=> ?_,fun b n k w=>rO hk b n (some k) w,fun k w=> ?_⟩
 ·have h0:=tf (x:=k) hk l w hl
  refine ⟨_,h0, ?_⟩
  cases hi:l.findIdx? (qE k) with
  |none=>
   refine .inl ⟨rfl,fun e he yM=> ?_⟩
   rw [List.findIdx?_eq_none_iff] at hi
   have:=hi e he
   simp [qE,yM,Bl] at this
  |some j=>
   obtain ⟨hj,h1,_⟩:=List.findIdx?_eq_some_iff_getElem.1 hi
   obtain ⟨y,hy⟩:=hl l[j] (List.getElem_mem hj)
   refine .inr ⟨j,l[j],by simp [List.getElem?_eq_getElem hj],List.getElem?_eq_getElem hj, ?_⟩
   simp [qE,hy,Bl] at h1
   rw [hy,h1]
 ·unfold Instr.keyThatStays Bl
  simp [Instr.sameBits]
end
section
open Go Go.Conc Go.aC Go.RowKit Go.Proofs
open Go.ConcN (upd upd_ne upd_same)
abbrev Bs:=List UInt8
structure Rec where
 call:Int
 line:Int
 op:Int
 jy:Int
 heard:Int
 wI:Int
 fin:Bs
def Rec.cells (r:Rec):List M':=[.int .i64 r.call,.int .i64 r.line,.int .i64 r.op,.int .i64 r.jy,.int .i64 r.heard,.int .i64 r.wI,.string ⟨r.fin.toArray⟩]
def cj (rs:List Rec):List M':=rs.flatMap Rec.cells
def ax (ws:List (Int × Int)):List M':=ws.flatMap fun p=>[.int .i64 p.1,.int .i64 p.2]
structure Hs where
 lines:List Nat
 on:Nat->Option Int
 of:Int->Option Nat
 rc:Int->Option Nat
 wait:List (Int × Int)
 back:List Int
 recs:List Rec
 clock:Int
 log:List Bs
 cg:List Int
structure Ha where
 B:Nat
 hb:Nat
 lb:Nat
 cl:Nat
 ob:Nat
 co:Nat
 m:Nat
 m1:Nat
 m2:Nat
 m3:Nat
 L:Int
 O:Int
 P:Int
 n0:Nat
 h0:Array Obj
structure Ha.Ok (A:Ha):Prop where
 hb:A.hb<A.B
 lb:A.lb<A.B
 ob:A.ob<A.B
 m1:A.m1<A.B
 m2:A.m2<A.B
 m3:A.m3<A.B
 d1:A.hb≠A.m1/\A.hb≠A.m2/\A.hb≠A.m3/\A.m1≠A.m2/\A.m1≠A.m3/\A.m2≠A.m3
 d2:A.lb≠A.hb/\A.lb≠A.m1/\A.lb≠A.m2/\A.lb≠A.m3
 d3:A.ob≠A.hb/\A.ob≠A.m1/\A.ob≠A.m2/\A.ob≠A.m3
def ug (A:Ha) (n:Nat) (clock:Int) (vw vb vr va vt:M'):Array M':=
 #[.int .i64 A.L,.int .i64 A.O,.int .i64 A.P,.slice (some ⟨A.lb,0,none⟩) n A.cl,.map (some A.m1),.map (some A.m2),.slice (some ⟨A.ob,0,none⟩) A.m A.co,vw,vb,vr,.map (some A.m3),.int .i64 clock,va,vt]
structure aQ (A:Ha) (S:Hs) (vw vb vr va vt:M') (w:J'):Prop where
 ok:A.Ok
 big:A.B<=w.heap.size
 box:w.heap[A.hb]?=some (.cells (ug A S.lines.length S.clock vw vb vr va vt) 77 (0,0))
 lines:∀i (h:i<S.lines.length),w.cell? ⟨A.lb,i,none⟩=some (.chan (some S.lines[i]))
 on:ed w A.m1 Bl fun x=>(S.on x).map (Value.int .i64)
 of:ed w A.m2 (Value.int .i64) fun c=>(S.of c).map fun x=>.chan (some x)
 rc:ed w A.m3 (Value.int .i64) fun c=>(S.rc c).map fun i=>.int .i64 (i:Nat)
 wait:w.ownsRow A.B 84 2 vw S.wait.length (ax S.wait)
 back:w.ownsRow A.B 3 1 vb S.back.length (S.back.map (Value.int .i64))
 recs:w.ownsRow A.B 44 7 vr S.recs.length (cj S.recs)
 log:w.ownsRow A.B 9 1 va S.log.length (S.log.map fun s=>Value.string ⟨s.toArray⟩)
 cg:w.ownsRow A.B 3 1 vt S.cg.length (S.cg.map (Value.int .i64))
 apart:vb.ownBlock=none\/vb.ownBlock≠vt.ownBlock
def cQ (A:Ha) (va vt:M') (S:Hs) (w:J'):Prop:=∃vw vb vr,aQ A S vw vb vr va vt w
structure Fr (A:Ha) (w w':J'):Prop where
 os:w'.os=w.os
 tape:w'.tape=w.tape
 output:w'.output=w.output
 size:w.heap.size<=w'.heap.size
 block:∀i,i<A.B->i≠A.hb->i≠A.m1->i≠A.m2->i≠A.m3->w'.heap[i]?=w.heap[i]?
theorem Fr.refl (A:Ha) (w:J'):Fr A w w:=⟨rfl,rfl,rfl,Nat.le_refl _,fun _ _ _ _ _ _=>rfl⟩
variable {A:Ha}
theorem Fr.trans {a b c:J'} (h:Fr A a b) (k:Fr A b c):Fr A a c:=⟨k.os.trans h.os,k.tape.trans h.tape,k.output.trans h.output,D_ h.size k.size,fun i a b c d e=>(k.block i a b c d e).trans (h.block i a b c d e)⟩
theorem pe:Keys p_ 3 (Value.int .i64):=JS Tryz.underlying3
theorem zo:Keys p_ 78 Bl:=Hy Tryz.underlying78
theorem BO (w:J'):(zeroValue 3).run p_ w=.ok (.int .i64 0) w:=by have:=Tryz.zeroValue3 (w:=w);exact this
theorem qQ (w:J'):(zeroValue 78).run p_ w=.ok (.chan none) w:=by have:=Tryz.zeroValue78 (w:=w);exact this
section
variable {P:U'} (w:J') {ops:Array y_} {rest:List y_} {o:y_} {a:Act} {Q:Exit->Act->J'->Prop} {K:Type} {enc:K->M'} {f:K->Option M'} {kt et:Q'}
theorem cU (hg:o.guard=none) (m x:Operand) (t:Q') (ok:Bool) (hop:o.op=Op.lookup t m x ok) (hK:Keys P kt enc) (ht:P.underlying t=some (.map kt et)) (b:Nat) (hm:a.eval m=.map (some b)) (h:ed w b enc f) (k:K) (hx:a.eval x=enc k) {z:M'} (hz:∀w:J',(zeroValue et).run P w=.ok z w)
 (hk:wpList P ops Q rest (a.put o.dst (if ok then .tuple #[(f k).getD z,.bool (f k).isSome] else (f k).getD z)) w):wpList P ops Q (o::rest) a w:=by
 refine wpList_plain hg fun K' hK'=> ?_
 have hrun:=h.lookup hK ht k hz ok
 unfold Oper.wp
 simp [V',hop,hm,hx,hrun,Result.andThen]
 exact hK' _ _ hk
open Classical in
theorem kn (hg:o.guard=none) (m x v:Operand) (t:Q') (hop:o.op=Op.mapUpdate t m x v) (hK:Keys P kt enc) (ht:P.underlying t=some (.map kt et)) (b:Nat) (hm:a.eval m=.map (some b)) (h:ed w b enc f) (k:K) (hx:a.eval x=enc k) (val:M') (hv:a.eval v=val)
 (hk:∀ob,ed (World.bK w b ob) b enc (fun x=>if x=k then some val else f x)->wpList P ops Q rest (a.put o.dst I') (World.bK w b ob)):wpList P ops Q (o::rest) a w:=by
 refine wpList_plain hg fun K' hK'=> ?_
 obtain ⟨ob,hrun,h2⟩:=h.update hK ht k val
 unfold Oper.wp
 simp [V',hop,hm,hx,hv,hrun,Result.andThen]
 exact hK' _ _ (hk ob h2)
open Classical in
theorem sZ (hg:o.guard=none) (m x:Operand) (t Qh:Q') (hop:o.op=Op.call {callee:=Callee.builtin Builtin.delete,args:=#[m,x],argTypes:=#[t,Qh]}) (hK:Keys P kt enc) (ht:P.underlying t=some (.map kt et)) (b:Nat) (hm:a.eval m=.map (some b)) (h:ed w b enc f) (k:K) (hx:a.eval x=enc k)
 (hk:∀ob,ed (World.bK w b ob) b enc (fun x=>if x=k then none else f x)->wpList P ops Q rest (a.put o.dst (.tuple #[])) (World.bK w b ob)):wpList P ops Q (o::rest) a w:=by
 refine wpList_plain hg fun K' hK'=> ?_
 obtain ⟨ob,hrun,h2⟩:=h.delete hK ht k o.type Qh
 unfold Oper.wp
 simp [V',hop,resolve,invoke,builtin,hm,hx,hrun,Result.andThen]
 exact hK' _ _ (hk ob h2)
end
variable {w:J'} {b:Nat}
theorem aB {o:Nat} {c:Array M'} {t:Q'} {f:Nat × Nat} (h:w.heap[b]?=some (.cells c t f)):w.cell? ⟨b,o,none⟩=c[o]?:=by
 simp [World.cell?,h]
theorem bX {o:Nat} {c:Array M'} {t:Q'} (h:w.heap[b]?=some (.cells c t (0,0))):w.frozen? ⟨b,o,none⟩=false:=by
 simp [World.frozen?,h]
section
variable {S:Hs} {vw vb vr va vt:M'} {w':J'}
theorem aQ.c (h:aQ A S vw vb vr va vt w):w.cell? ⟨A.hb,3,none⟩=some (.slice (some ⟨A.lb,0,none⟩) S.lines.length A.cl)/\w.cell? ⟨A.hb,4,none⟩=some (.map (some A.m1))/\w.cell? ⟨A.hb,5,none⟩=some (.map (some A.m2))/\w.cell? ⟨A.hb,6,none⟩=some (.slice (some ⟨A.ob,0,none⟩) A.m A.co)/\w.cell? ⟨A.hb,7,none⟩=some vw/\w.cell? ⟨A.hb,8,none⟩=some vb/\w.cell? ⟨A.hb,9,none⟩=some vr/\w.cell? ⟨A.hb,10,none⟩=some (.map (some A.m3))/\w.cell? ⟨A.hb,11,none⟩=some (.int .i64 S.clock)/\w.cell? ⟨A.hb,12,none⟩=some va/\w.cell? ⟨A.hb,13,none⟩=some vt:=by
 refine ⟨?_, ?_, ?_, ?_, ?_, ?_, ?_, ?_, ?_, ?_, ?_⟩<;>(rw [aB h.box];rfl)
theorem aQ.z (h:aQ A S vw vb vr va vt w) (j:Nat):w.frozen? ⟨A.hb,j,none⟩=false:=bX h.box
end
end
section
open Go Go.Conc Go.Conc.Lib Go.ConcR Go.ConcR.Gen Go.aC Go.Proofs
open Go.RowKit hiding Hid
open Go.ConcN (upd upd_ne upd_same)
theorem aa {p:Prop} (h:p):RowKit.Hid p:=h
variable {w w':J'} {m:Nat}
theorem ed.heap {K:Type} {enc:K->M'} {f:K->Option M'} (h:ed w m enc f) (e:w'.heap=w.heap):ed w' m enc f:=h.block (by rw [e])
variable {A:Ha} {S:Hs} {vb vr va vt:M'}
theorem aQ.heap {vw:M'} (h:aQ A S vw vb vr va vt w) (e:w'.heap=w.heap):aQ A S vw vb vr va vt w':=by
 have own:∀{e1 s n:Nat} {v:M'} {xs:List M'},w.ownsRow A.B e1 s v n xs->w'.ownsRow A.B e1 s v n xs:=fun {e1 s n v xs} hh=>by
  refine ⟨hh.1,hh.2.imp id fun ⟨g,cap,cur,h1,h2,h3,h4⟩=>⟨g,cap,cur,h1,h2,by rw [e];exact h3,h4⟩⟩
 exact ⟨h.ok,by rw [e];exact h.big,by rw [e];exact h.box,fun i hi=>(J_ (by rw [e])).trans (h.lines i hi),h.on.heap e,h.of.heap e,h.rc.heap e,own h.wait,own h.back,own h.recs,own h.log,own h.cg,h.apart⟩
def gf (S:Hs):Int:=match S.lines.findIdx? (fun x=>(S.on x).isNone) with|some i=>(i:Nat)|none=> -1
variable {k:Nat}
theorem E0 (hk:k<S.lines.length) (h0:S.on S.lines[k]=none) (h:∀j (hj:j<k),(S.on (S.lines[j]'(by omega))).isSome=true):gf S=(k:Nat):=by
 have:S.lines.findIdx? (fun x=>(S.on x).isNone)=some k:=by
  rw [List.findIdx?_eq_some_iff_getElem]
  refine ⟨hk,by simp [h0],fun j hj=> ?_⟩
  have:=h j hj
  cases hx:S.on (S.lines[j]'(by omega)) with
  |none=>rw [hx] at this;cases this
  |some _=>simp
 unfold gf;rw [this]
theorem E1 (h:∀j (hj:j<S.lines.length),(S.on S.lines[j]).isSome=true):gf S= -1:=by
 have:S.lines.findIdx? (fun x=>(S.on x).isNone)=none:=by
  rw [List.findIdx?_eq_none_iff]
  intro x hx
  obtain ⟨j,hj,rfl⟩:=List.mem_iff_getElem.1 hx
  have:=h j hj
  cases hx:S.on S.lines[j] with
  |none=>rw [hx] at this;cases this
  |some _=>rfl
 unfold gf;rw [this]
theorem kK {vw:M'} (h:aQ A S vw vb vr va vt w) (hn:S.lines.length<=1000):
 Calls p_ 128 #[.pointer (some ⟨A.hb,0,none⟩)] w fun e w'=>e=.returned (.int .i64 (gf S))/\w'=w:=by
 obtain ⟨c3,c4,c5,c6,c7,c8,c9,W5,Ig,c12,c13⟩:=h.c
 have hL:=aa h.lines
 have b9:=h.on
 clear h c5 c6 c7 c8 c9 W5 Ig c12 c13
 go_enter Tryz.func128,Tryz.ntmps128
 go_wp2
 go_loopw [12] (fun i wr=>∃k:Nat,k<=S.lines.length/\i=.int .i64 k/\RowKit.Hid (∀j (hj:j<k) (Dy:j<S.lines.length),(S.on S.lines[j]).isSome=true)/\w=wr) (fun i _=>S.lines.length - (intOf i).toNat)
 case atStart=>exact ⟨0,Nat.zero_le _,rfl,fun j hj=>by omega,rfl⟩
 case round=>
  obtain ⟨k,hk,rfl,hT,rfl⟩:=hrel
  by_cases hlt:k<S.lines.length
  ·have gJ:(k:Int)<(S.lines.length:Int):=by omega
   have hcell:=hL.out k hlt
   have dS:RowKit.Hid (S.on S.lines[k]=none->gf S=(k:Nat)):=fun h0=>E0 hlt h0 (fun j hj=>hT.out j hj (by omega))
   have eF:RowKit.Hid ((S.on S.lines[k]).isSome=true->∀j (hj:j<k+1) (Dy:j<S.lines.length),(S.on S.lines[j]).isSome=true):=fun h0 j hj Dy=>by
    by_cases e:j=k
    ·subst e;exact h0
    ·exact hT.out j (by omega) Dy
   generalize S.lines[k]=x at hcell dS eF
   cases hx:S.on x with
   |none=>
    have h1:=dS.out hx
    clear dS eF
    go_wp2_with (at_lookup;refine cU _ rfl _ _ 71 true rfl zo Tryz.underlying71 A.m1 rfl b9 x rfl BO ?_;simp only [hx,Option.map_none,Option.getD_none,Option.isSome_none,if_true])
    go_ret
    exact ⟨by rw [h1];rfl,rfl⟩
   |some c=>
    have h1:=aa (eF.out (by rw [hx];rfl))
    clear dS eF
    go_wp2_with (at_lookup;refine cU _ rfl _ _ 71 true rfl zo Tryz.underlying71 A.m1 rfl b9 x rfl BO ?_;simp only [hx,Option.map_some,A_,Option.isSome_some,if_true])
    go_roundw
    case rel=>exact ⟨k+1,by omega,by go_num,h1,trivial⟩
    case measure=>simp [intOf];omega
  ·have h1:=E1 (S:=S) fun j hj=>hT.out j (by omega) hj
   go_wp2
   go_ret
   exact ⟨by rw [h1];rfl,rfl⟩
theorem Fr.of_heap (h:w'.heap=w.heap) (ho:w'.os=w.os) (ht:w'.tape=w.tape) (hu:w'.output=w.output):Fr A w w':=⟨ho,ht,hu,Nat.le_of_eq (congrArg Array.size h).symm,fun _ _ _ _ _ _=>by rw [h]⟩
variable {B:Nat} {xs:List M'}
theorem cz {e sz n:Nat} {v:M'} (h:w.ownsRow B e sz v n xs) (hn:0<n):∃g cap cur,v=.slice (some ⟨g,0,none⟩) n cap/\B<=g/\w.heap[g]?=some (.cells cur e (0,0))/\n<=cap/\cap<=maxLen/\cur.size=cap * sz/\cur.toList.take (n * sz)=xs:=by
 rcases h.2 with ⟨_,h0⟩|h
 ·omega
 ·exact h
variable {i:Nat}
theorem jL {vw:M'} (h:aQ A S vw vb vr va vt w) {c:Int} (hc:S.rc c=some i) (hi:i<S.recs.length) {g cap:Nat} (hv:vr=.slice (some ⟨g,0,none⟩) S.recs.length cap) (hb:S.recs.length<=100000):
 Calls p_ 134 #[.pointer (some ⟨A.hb,0,none⟩),.int .i64 c] w fun e w'=>e=.returned (.pointer (some ⟨g,i * 7,none⟩))/\w'.heap=w.heap/\Fr A w w':=by
 obtain ⟨c3,c4,c5,c6,c7,c8,c9,W5,Ig,c12,c13⟩:=h.c
 have mj:=h.rc
 subst hv
 have h1:(Int.ofNat i)<(S.recs.length:Int):=by exact Int.ofNat_lt.2 hi
 generalize S.recs.length=n at hi hb c9 h1 ⊢
 clear h c3 c4 c5 c6 c7 c8 Ig c12 c13
 have Sy:Sem.run p_ (Instr.lookup 75 (Value.map (some A.m3)) (Value.int IntKind.i64 c) false) w.drew=.ok (.int .i64 (Int.ofNat i)) w.drew:=by
  have:=(mj.heap (w':=World.drew w) rfl).lookup pe Tryz.underlying75 c (z:=.int .i64 0) (fun w=>BO w) false
  rw [hc] at this;exact this
 go_enter Tryz.func134,Tryz.ntmps134
 go_wp2
 go_region
 go_wp2
 go_ret
 all_goals exact ⟨rfl,rfl,Fr.of_heap rfl rfl rfl rfl⟩
theorem bG {o:Obj} (h:i≠m):(World.bK w m o).heap[i]?=w.heap[i]?:=by
 simp only [World.bK];rw [Y_];rw [if_neg (fun e=>h e.symm)]
theorem jT {o:Obj}:(World.bK w m o).heap.size=w.heap.size:=by simp [World.bK]
theorem gF {B' e e' s s' n n':Nat} {v v':M'} {Sk:List M'} (h:w.ownsRow B e s v n xs) (h':w.ownsRow B' e' s' v' n' Sk) (hne:e≠e'):v.ownBlock=none\/v.ownBlock≠v'.ownBlock:=by
 rcases h.2 with ⟨rfl,_⟩|⟨g,cap,cur,rfl,_,hg,_⟩
 ·exact .inl rfl
 ·right
  rcases h'.2 with ⟨rfl,_⟩|⟨g',cap',yR,rfl,_,iJ,_⟩
  ·simp [Value.ownBlock]
  ·intro e1
   simp only [Value.ownBlock,Option.some.injEq] at e1
   subst e1
   rw [hg] at iJ
   simp at iJ
   exact hne iJ.2
section
variable {vw:M'}
theorem cH {e s n:Nat} {v:M'} (h:w.ownsRow B e s v n xs) (hs:∀g,B<=g->g<w.heap.size->w'.heap[g]?=w.heap[g]?):w'.ownsRow B e s v n xs:=by
 refine ⟨h.1, ?_⟩
 rcases h.2 with h0|⟨g,cap,cur,h1,h2,h3,h4⟩
 ·exact .inl h0
 ·refine .inr ⟨g,cap,cur,h1,h2, ?_,h4⟩
  rw [hs g h2 (cI h3)];exact h3
open Classical in
theorem aQ.N9 (h:aQ A S vw vb vr va vt w) {o:Obj} {f:Nat->Option Int} (hm:ed (World.bK w A.m1 o) A.m1 Bl fun x=>(f x).map (Value.int .i64)):aQ A {S with on:=f} vw vb vr va vt (World.bK w A.m1 o):=by
 obtain ⟨d1,d2,d3,d4,d5,d6⟩:=h.ok.d1
 obtain ⟨e1,e2,e3,e4⟩:=h.ok.d2
 have hs:∀i,A.B<=i->i<w.heap.size->(World.bK w A.m1 o).heap[i]?=w.heap[i]?:=fun i hi _=>bG (by have:=h.ok.m1;omega)
 exact ⟨h.ok,by rw [jT];exact h.big,by rw [bG d1];exact h.box,fun i hi=>(J_ (bG e2)).trans (h.lines i hi),hm,h.of.block (bG (Ne.symm d4)),h.rc.block (bG (Ne.symm d5)),
  cH h.wait hs,cH h.back hs,cH h.recs hs,cH h.log hs,cH h.cg hs,h.apart⟩
theorem aQ.setOf (h:aQ A S vw vb vr va vt w) {o:Obj} {f:Int->Option Nat} (hm:ed (World.bK w A.m2 o) A.m2 (Value.int .i64) fun x=>(f x).map fun x=>.chan (some x)):aQ A {S with of:=f} vw vb vr va vt (World.bK w A.m2 o):=by
 obtain ⟨d1,d2,d3,d4,d5,d6⟩:=h.ok.d1
 obtain ⟨e1,e2,e3,e4⟩:=h.ok.d2
 have hs:∀i,A.B<=i->i<w.heap.size->(World.bK w A.m2 o).heap[i]?=w.heap[i]?:=fun i hi _=>bG (by have:=h.ok.m2;omega)
 exact ⟨h.ok,by rw [jT];exact h.big,by rw [bG d2];exact h.box,fun i hi=>(J_ (bG e3)).trans (h.lines i hi),h.on.block (bG d4),hm,h.rc.block (bG (Ne.symm d6)),
  cH h.wait hs,cH h.back hs,cH h.recs hs,cH h.log hs,cH h.cg hs,h.apart⟩
theorem aQ.Tb (h:aQ A S vw vb vr va vt w) {o:Obj} {f:Int->Option Nat} (hm:ed (World.bK w A.m3 o) A.m3 (Value.int .i64) fun x=>(f x).map fun i=>.int .i64 (i:Nat)):aQ A {S with rc:=f} vw vb vr va vt (World.bK w A.m3 o):=by
 obtain ⟨d1,d2,d3,d4,d5,d6⟩:=h.ok.d1
 obtain ⟨e1,e2,e3,e4⟩:=h.ok.d2
 have hs:∀i,A.B<=i->i<w.heap.size->(World.bK w A.m3 o).heap[i]?=w.heap[i]?:=fun i hi _=>bG (by have:=h.ok.m3;omega)
 exact ⟨h.ok,by rw [jT];exact h.big,by rw [bG d3];exact h.box,fun i hi=>(J_ (bG e4)).trans (h.lines i hi),h.on.block (bG d5),h.of.block (bG d6),hm,
  cH h.wait hs,cH h.back hs,cH h.recs hs,cH h.log hs,cH h.cg hs,h.apart⟩
theorem Fr.bK {o:Obj} (hm:m=A.m1\/m=A.m2\/m=A.m3):Fr A w (World.bK w m o):=⟨rfl,rfl,rfl,by rw [jT];exact Nat.le_refl _,fun i _ _ h1 h2 h3=>bG (by rcases hm with rfl|rfl|rfl<;>assumption)⟩
theorem aQ.grown (h:aQ A S vw vb vr va vt w) {row:Option Nat} (hg:w.grownBy w' row) (hr:∀g,row=some g->A.B<=g) {v:M'} {jA qS qb IX Io:M'} {S':Hs}
 (ZL:(ug A S.lines.length S.clock vw vb vr va vt).setIfInBounds k v=ug A S'.lines.length S'.clock jA qS qb IX Io) (hl:S'.lines=S.lines) (b9:S'.on=S.on) (kE:S'.of=S.of) (mj:S'.rc=S.rc)
 (h1:w'.ownsRow A.B 84 2 jA S'.wait.length (ax S'.wait)) (h2:w'.ownsRow A.B 3 1 qS S'.back.length (S'.back.map (Value.int .i64))) (h3:w'.ownsRow A.B 44 7 qb S'.recs.length (cj S'.recs))
 (h4:w'.ownsRow A.B 9 1 IX S'.log.length (S'.log.map fun s=>Value.string ⟨s.toArray⟩)) (h5:w'.ownsRow A.B 3 1 Io S'.cg.length (S'.cg.map (Value.int .i64))) (h6:qS.ownBlock=none\/qS.ownBlock≠Io.ownBlock):
 aQ A S' jA qS qb IX Io (w'.setCell ⟨A.hb,k,none⟩ v)/\Fr A w (w'.setCell ⟨A.hb,k,none⟩ v):=by
 have low:∀i,i<A.B->w'.heap[i]?=w.heap[i]?:=fun i hi=>hg.block i (Nat.lt_of_lt_of_le hi h.big) (fun e=>by have:=hr i e.symm;omega)
 have ne:∀i,i≠A.hb->(w'.setCell ⟨A.hb,k,none⟩ v).heap[i]?=w'.heap[i]?:=fun i hi=>heap_setCell_other w' ⟨A.hb,k,none⟩ i v hi
 have own:∀{e s n:Nat} {v1:M'} {xs:List M'},w'.ownsRow A.B e s v1 n xs->(w'.setCell ⟨A.hb,k,none⟩ v).ownsRow A.B e s v1 n xs:=fun hh=>cH hh fun g hg _=>ne g (by have:=h.ok.hb;omega)
 obtain ⟨d1,d2,d3,d4,d5,d6⟩:=h.ok.d1
 obtain ⟨e1,e2,e3,e4⟩:=h.ok.d2
 refine ⟨⟨h.ok, ?_, ?_, ?_, ?_, ?_, ?_,own h1,own h2,own h3,own h4,own h5,h6⟩,hg.os,hg.tape,hg.output, ?_,fun i hi hn _ _ _=>(ne i hn).trans (low i hi)⟩
 ·simp only [o_];exact D_ h.big hg.size
 ·rw [<-ZL];exact heap_setCell_same w' A.hb k _ 77 v ((low _ h.ok.hb).trans h.box)
 ·intro i hi
  have lE:i<S.lines.length:=hl▸hi
  have:=(J_ (a:=⟨A.lb,i,none⟩) ((ne _ e1).trans (low _ h.ok.lb))).trans (h.lines i lE)
  simpa only [hl] using this
 ·rw [b9];exact h.on.block ((ne _ (Ne.symm d1)).trans (low _ h.ok.m1))
 ·rw [kE];exact h.of.block ((ne _ (Ne.symm d2)).trans (low _ h.ok.m2))
 ·rw [mj];exact h.rc.block ((ne _ (Ne.symm d3)).trans (low _ h.ok.m3))
 ·simp only [o_];exact hg.size
end
end
end Go.aC.Of
