/-
  Regions that draw, of one goroutine: told by their operations, in whatever order.
-/
import Derived.MapKept
import Derived.WideLaws
import Derived.Conc.SmallLaws
import Derived.Maps.OwnOps
import Derived.Maps.OwnSet
import Derived.Test.YtnjkbffmmgckeaaGreatDoorProg
import Derived.WalkKit
import Derived.Lib.Hide
import Derived.OwnWalk
import Derived.Laws.AppendOwn
import Derived.Maps.AppendAt
import Derived.Deep.RegionHeld3
import Derived.Deep.RegionWith
import Derived.BigRegion
import Derived.Deep.AppendLies
import Derived.Lib.SmallJoins
import Derived.Deep.RegionLaw
import Derived.Shelf.Strconv.Itoa0
import Derived.Shelf.Strconv.Itoa1
import Derived.Shelf.LaysM
import Derived.Shelf.Strconv.Itoa2
import Derived.Shelf.Strconv.Itoa3
import Derived.Shelf.Slices.Turned
import Derived.Ground.Names2Prog
import Derived.Shelf.Slices.Delete
import Derived.Shelf.Slices.Cells
import Derived.Shelf.Slices.Empties
import Derived.Ground.SlgnProg
import Derived.Shelf.SlicesE.Delete
import Derived.Laws.IdiomCopy
import Derived.Lib.SliceRun
import Derived.Lib.ItoaLen
import Derived.Test.YtnjkbffmmgckeaaGreatDoorChecked
import Derived.Conc.WgLib
import Derived.Laws.Build
import Derived.Deep.QuietTactic
import Derived.BigQuiet
import Derived.RegionTactic
import Derived.ChangeAlike
import Derived.Lib.Overlaps
import Derived.Lib.AppendZerosOnto
import Derived.Laws.Externs
import Derived.Conc.Events
import Derived.Test.YtnjkbffmmgckeaaGreatDoorQaa
import Derived.Test.YtnjkbffmmgckeaaGreatDoorQab
set_option linter.all false
set_option maxRecDepth 100000
set_option maxHeartbeats 32000000
open Go renaming undef->I',World->J',Value->M',Goroutine->O',TypeId->Q',Program->U',execOp->V',Frame->Y',heap_alloc_new->Z',heap_setCell_other->a_,heap_setCell_same->b_,Calls->d_,FuncId->w_,Item->x_,Oper->y_,Addr->z_
open Go.RowKit renaming Hid->f_
open Option renaming getD_some->A_
open Go.World renaming size_alloc->B_,cell?_of_block->J_,grownBy_alloc->N_,frozen?_of_block->m_,size_setCell->o_,shape?->t_
open Nat renaming le_refl->C_,le_trans->D_,lt_of_lt_of_le->E_,zero_le->nz
open Array renaming replicate->F_,getElem?_eq_getElem->H_,size_setIfInBounds->X_
open List renaming getElem?_eq_getElem->G_,length_append->K_,length_take->Q_,map_cons->S_,take_succ_eq_append_getElem->sC
open Go.Lib renaming itoa->L_
open Go.ConcN renaming upd_same->O_,upd_ne->P_
open Go.Region renaming wanted->U_
open Classical renaming byContradiction->j_
open Option.some renaming injEq->n_
open Go.Proofs.Tryz renaming prog->p_
open Go.Value renaming int->ah,slice->mN
open Go.Frame renaming enter->fZ
open Go.Obj renaming cells->jY
open Go.Item renaming code->lN
open Bool renaming false_eq_true->qp
open Ne renaming symm->ru
open Go.Proofs.Tryz
namespace Go.aC
section
open Go Go.Conc Go.RowKit
variable {P:U'} {ops:Array y_} {Q:Exit->Act->J'->Prop} {T:Type}
variable {i:Nat} {a:Act} {w w':J'} {K:Act->J'->Prop}
theorem bj {o:y_} {v:M'} (ho:ops[i]?=some o) (hg:o.guard=none) (hr:(V' a.eval o).run P w=.ok (.value v) w') (hk:K (a.put o.dst v) w'):wpOp P ops Q i K a w:=by
 unfold wpOp
 rw [ho]
 have hw:U_ o (yielded ops a.tmps)=true:=by simp [U_,hg]
 simp only [hw,if_true]
 left
 unfold Oper.wp
 rw [hr]
 exact hk
theorem gQ {o:y_} (ho:ops[i]?=some o) (hg:o.guard=none) (hr:(V' a.eval o).run P w=.ok .skip w') (hk:K (a.put o.dst I') w'):wpOp P ops Q i K a w:=by
 unfold wpOp
 rw [ho]
 have hw:U_ o (yielded ops a.tmps)=true:=by simp [U_,hg]
 simp only [hw,if_true]
 left
 unfold Oper.wp
 rw [hr]
 exact hk
theorem mA (hm:P.follows .mixedOrders=true) {base:Array M'} {id:Nat} (ho:rT ops base.size=true) (hb:ui ops=true) (vals:T->Nat->M') (Wd:Array Bool->T->J'->Prop) {kP:T} (h0:Wd (F_ ops.size false) kP w.drew)
 (hstep:∀i o',ops[i]?=some o'->∀D x w a,D.size=ops.size->iz ops base (vals x) D a->Wd D x w->D.getD i false=false->(∀e∈o'.after,Region.binds .any e=true->D.getD e.on false=true)->
  ∀K:Act->J'->Prop,(∀x' w',(∀j,D.getD j false=true->vals x' j=vals x j)->Wd (D.setIfInBounds i true) x' w'->K (a.put o'.dst (vals x' i)) w')->wpOp P ops Q i K a w)
 (A6:∀D x w,(∀i,i<ops.size->D.getD i false=true)->Wd D x w->Q .normal ⟨slotsOf ops base (vals x),[]⟩ w):
 Code.wp P (.region id ops true) Q ⟨base,[]⟩ w:=by
 refine wp_region_any hm ?_
 have key:∀fuel D x w a,D.size=ops.size->iz ops base (vals x) D a->Wd D x w->(∀i,i<ops.size->D.getD i false=true)\/((List.range ops.size).filter (fun i=> !D.getD i true)).length<=fuel->wpAny P .any ops Q fuel D a w:=by
  intro fuel
  induction fuel with
  |zero=>
   intro D x w a hD bc hw hl
   have hd:∀i,i<ops.size->D.getD i false=true:=by
    rcases hl with hl|hl
    ·exact hl
    ·intro i hi
     refine j_ fun hn=> ?_
     have Ge:i∈(List.range ops.size).filter (fun i=> !D.getD i true):=by
      rw [List.mem_filter]
      refine ⟨by simpa using hi, ?_⟩
      have hlt:i<D.size:=hD▸hi
      simp [Array.getD,hlt] at hn ⊢
      exact hn
     cases hx:(List.range ops.size).filter (fun i=> !D.getD i true) with
     |nil=>rw [hx] at Ge;cases Ge
     |cons y ys=>rw [hx] at hl;simp at hl
   refine ⟨?_, ?_⟩
   ·unfold Region.ready
    rw [List.filter_eq_nil_iff]
    intro i hi
    have lE:i<ops.size:=by simpa using hi
    have hlt:i<D.size:=hD▸lE
    have:=hd i lE
    simp [Array.getD,hlt] at this ⊢
    intro h;rw [this] at h;cases h
   ·rw [bc.done hd];exact A6 D x w hd hw
  |succ fuel ih=>
   intro D x w a hD bc hw hl
   refine ⟨fun he=> ?_,fun i hi=> ?_⟩
   ·have hd:=xX hD hb he
    rw [bc.done hd];exact A6 D x w hd hw
   ·obtain ⟨o',h1,h2,h3,h4⟩:=tj hi
    have Me:i<D.size:=by omega
    have O0:D.getD i false=false:=by simp [Array.getD,Me] at h3 ⊢;exact h3
    refine hstep i o' h1 D x w a hD bc hw O0 h4 _ fun x' w' hv gC=> ?_
    refine ih (D.setIfInBounds i true) x' w' _ (by simpa using hD) (bc.put ho h2 hD h3 h1 hv) gC ?_
    rcases hl with hl|hl
    ·exact absurd (hl i h2) (by rw [O0];simp)
    ·refine .inr ?_
     have Ge:i∈(List.range ops.size).filter (fun i=> !D.getD i true):=by
      rw [List.mem_filter]
      exact ⟨by simpa using h2,by rw [h3];rfl⟩
     have yG:((List.range ops.size).filter fun j=> !(D.setIfInBounds i true).getD j true)=(((List.range ops.size).filter (fun i=> !D.getD i true)).filter fun j=>decide (j≠i)):=by
      rw [List.filter_filter]
      apply List.filter_congr
      intro j hj
      have EL:j<ops.size:=by simpa using hj
      have UI:j<D.size:=by omega
      by_cases e:i=j
      ·subst e;simp [Array.getD,Me]
      ·have e':¬j=i:=fun h=>e h.symm
       simp [Array.getD,UI,e',e]
     have hle:=List.length_filter_lt_length_iff_exists (p:=fun j=>decide (j≠i)) (l:=(List.range ops.size).filter (fun i=> !D.getD i true)) |>.2 ⟨i,Ge,by simp⟩
     rw [<-yG] at hle
     omega
 refine key _ _ _ _ _ (by simp) (oQ ops base (vals kP)) h0 (.inr ?_)
 exact D_ (List.length_filter_le _ _) (by simp)
theorem iY {o:y_} (ho:ops[i]?=some o) (v:M') (hk:K (a.put o.dst v) w) (hg:o.guard=none:=by exact rfl) (hr:(V' a.eval o).run P w=.ok (.value v) w:=by (try clear aD ho;clear bc hw aA bH qi qn;go_simp)):wpOp P ops Q i K a w:=bj ho hg hr hk
theorem wpN {c:Code} {df:_} {arr:Array M'} (n:Nat) (h:∀bs,arr=bs->bs.size=n->(∀t,bs.getD t I'=arr.getD t I')->Code.wp P c Q ⟨bs,df⟩ w) (hn:arr.size=n:=by exact rfl):Code.wp P c Q ⟨arr,df⟩ w:=h _ rfl hn fun _=>rfl
theorem qI {D:Array Bool} {n:Nat} (hD:D.size=n) (h:i<n):(D.setIfInBounds i true).getD i false=true:=by rw [bq,if_pos ⟨rfl,by rw [hD];exact h⟩]
theorem qN (D:Array Bool) (i j:Nat) (hj:j≠i):(D.setIfInBounds i true).getD j false=D.getD j false:=by rw [bq,if_neg fun e=>hj e.1.symm]
theorem IZ {o:y_} (v:M') (hk:K (a.put o.dst v) w:=by exact aA.out x w (fun _ _=>rfl) (hw.same qn qi (by decide))) (ho:ops[i]?=some o:=by exact rfl) (hg:o.guard=none:=by exact rfl) (hr:(V' a.eval o).run P w=.ok (.value v) w:=by (try clear aD ho;clear bc hw aA bH qi qn;go_simp)):wpOp P ops Q i K a w:=bj ho hg hr hk
end
section
open Go Go.Conc
def qE (x:Nat) (e:MapEntry):Bool:=match e.key with| .chan (some y)=>x==y|_=>false
def V5 (es:Array MapEntry):Prop:=∀e∈es.toList,∃y,e.key=.chan (some y)
variable {P:U'} {w:J'} {mt kt et e:Q'} {dir:ChanDir} {m x:Nat} {es:Array MapEntry} {clock:Nat}
theorem wM (hk:P.underlying kt=some (.chan dir e)) (a b:Option Nat) (w:J'):(Op.equal kt (.chan a) (.chan b)).run P w=.ok (a==b) w:=by
 show (Op.equalIn (9999+1) kt (.chan a) (.chan b)).run P w=_
 unfold Op.equalIn
 simp [run_underlying hk,Result.andThen]
theorem Be (l:List MapEntry) (hl:l≠[]) (i:Nat):Instr.findNow (.chan dir e) (.chan (some x)) l i=none:=by
 cases l with
 |nil=>exact absurd rfl hl
 |cons a l=>rfl
theorem ko (hk:P.underlying kt=some (.chan dir e)):∀(l:List MapEntry) (i:Nat) (w:J'),(∀a∈l,∃y,a.key=.chan (some y))->
 (Instr.findAsking kt (.chan (some x)) l i).run P w=.ok ((l.findIdx? (qE x)).map fun j=>(i+j,((l[j]?).map (·.val)).getD I')) w
 |[],i,w,_=>by simp [Instr.findAsking]
 |a::l,i,w,h=>by
  obtain ⟨y,hy⟩:=h a (by simp)
  have ih:=ko hk l (i+1) w (fun b hb=>h b (by simp [hb]))
  unfold Instr.findAsking
  simp only [Sem.run_bind,hy,wM hk,Result.andThen]
  by_cases e:x=y
  ·subst e
   have:qE x a=true:=by simp [qE,hy]
   simp [List.findIdx?_cons,this]
  ·have fS:qE x a=false:=by simp [qE,hy,e]
   have hne:((some x:Option Nat)==some y)=false:=by simp [e]
   simp only [hne,qp,if_false,ih,List.findIdx?_cons,fS,Option.map_map]
   congr 1
   cases l.findIdx? (qE x) with
   |none=>rfl
   |some j=>simp;omega
theorem tf (hk:P.underlying kt=some (.chan dir e)) (l:List MapEntry) (w:J') (h:∀a∈l,∃y,a.key=.chan (some y)):
 (Instr.findKey kt (.chan (some x)) l).run P w=.ok ((l.findIdx? (qE x)).map fun j=>(j,((l[j]?).map (·.val)).getD I')) w:=by
 unfold Instr.findKey
 simp only [Sem.run_bind,run_underlying hk,Result.andThen]
 cases l with
 |nil=>simp [Instr.findNow]
 |cons a l=>
  rw [Be _ (by simp)]
  simp only [ko hk (a::l) 0 w h,Nat.zero_add]
theorem rO (hk:P.underlying kt=some (.chan dir e)) (b:Bool) (n:Nat) (c:Option Nat) (w:J'):(Instr.checkKey b (n+1) kt (.chan c)).run P w=.ok () w:=by
 unfold Instr.checkKey
 simp [run_underlying hk,Result.andThen]
end
end Go.aC
namespace Go.aC.Of
section
open Go Go.Conc Go.aC
open Go.ConcN (upd upd_ne upd_same)
structure Keys (P:U') (kt:Q') {K:Type} (enc:K->M'):Prop where
 inj:∀a b,enc a=enc b->a=b
 find:∀(l:List MapEntry) (k:K) (w:J'),(∀e∈l,∃k',e.key=enc k')->∃r:Option (Nat × M'),(Instr.findKey kt (enc k) l).run P w=.ok r w/\
  ((r=none/\∀e∈l,e.key≠enc k)\/∃i e,r=some (i,e.val)/\l[i]?=some e/\e.key=enc k)
 check:∀b n k (w:J'),(Instr.checkKey b (n+1) kt (enc k)).run P w=.ok () w
 stays:∀k (w:J'),(Instr.keyThatStays (enc k) (enc k)).run P w=.ok (enc k) w
structure ed (w:J') (m:Nat) {K:Type} (enc:K->M') (f:K->Option M'):Prop where
 ex:∃es clock,w.heap[m]?=some (.map es clock)/\(∀e∈es.toList,∃k,e.key=enc k/\f k=some e.val)/\(∀k v,f k=some v->∃e∈es.toList,e.key=enc k)/\es.toList.Pairwise fun a b=>a.key≠b.key
variable {w w':J'} {m:Nat}
theorem ed.block {K:Type} {enc:K->M'} {f:K->Option M'} (h:ed w m enc f) (hb:w'.heap[m]?=w.heap[m]?):ed w' m enc f:=by
 obtain ⟨es,clock,h1,h2⟩:=h.ex
 exact ⟨es,clock,hb.trans h1,h2⟩
def World.bK (w:J') (m:Nat) (o:Obj):J':={w with heap:=w.heap.setIfInBounds m o}
variable {P:U'} {mt kt et:Q'} {K:Type} {enc:K->M'} {f:K->Option M'}
theorem ed.lookup (hK:Keys P kt enc) (hm:P.underlying mt=some (.map kt et)) (h:ed w m enc f) (k:K) {z:M'} (hz:∀w:J',(zeroValue et).run P w=.ok z w) (ok:Bool):
 (Instr.lookup mt (.map (some m)) (enc k) ok).run P w=.ok (if ok then .tuple #[(f k).getD z,.bool (f k).isSome] else (f k).getD z) w:=by
 obtain ⟨es,clock,h1,h2,h3,h4⟩:=h.ex
 obtain ⟨r,hr,pv⟩:=hK.find es.toList k w (fun e he=>(h2 e he).imp fun k' fS=>fS.1)
 unfold Instr.lookup
 rcases pv with ⟨rfl,hno⟩|⟨i,e,rfl,hi,yM⟩
 ·have hf:f k=none:=by
   cases Zy:f k with
   |none=>rfl
   |some v=>obtain ⟨e,he,yM⟩:=h3 k v Zy;exact absurd yM (hno e he)
  cases ok<;>simp [run_underlying hm,MapKept.run_getObj_map h1,hK.check,hr,hz,hf,Result.andThen]
 ·obtain ⟨k',fS,hv⟩:=h2 e (List.mem_of_getElem? hi)
  have:k'=k:=hK.inj _ _ (fS.symm.trans yM)
  subst this
  cases ok<;>simp [run_underlying hm,MapKept.run_getObj_map h1,hK.check,hr,hv,Result.andThen]
variable {α:Type} {i:Nat}
theorem Hk {l:List α} {a:α} (h:l[i]?=some a):∃hi:i<l.length,l[i]=a:=List.getElem?_eq_some_iff.1 h
variable {j:Nat}
theorem On {l:List MapEntry} (hp:l.Pairwise fun a b=>a.key≠b.key) {a b:MapEntry} (hi:l[i]?=some a) (hj:l[j]?=some b) (hk:a.key=b.key):i=j:=by
 obtain ⟨lE,rfl⟩:=Hk hi
 obtain ⟨EL,rfl⟩:=Hk hj
 rw [List.pairwise_iff_getElem] at hp
 rcases Nat.lt_trichotomy i j with h|h|h
 ·exact absurd hk (hp i j lE EL h)
 ·exact h
 ·exact absurd hk.symm (hp j i EL lE h)
open Classical in
theorem ed.update (hK:Keys P kt enc) (hm:P.underlying mt=some (.map kt et)) (h:ed w m enc f) (k:K) (v:M'):
 ∃o,(Instr.mapUpdate mt (.map (some m)) (enc k) v).run P w=.ok () (World.bK w m o)/\ed (World.bK w m o) m enc (fun x=>if x=k then some v else f x):=by
 obtain ⟨es,clock,h1,h2,h3,h4⟩:=h.ex
 have hlt:=(cI h1)
 have vD:∀o,(World.bK w m o).heap[m]?=some o:=fun o=>by simp [World.bK,hlt]
 obtain ⟨r,hr,pv⟩:=hK.find es.toList k w (fun e he=>(h2 e he).imp fun k' fS=>fS.1)
 rcases pv with ⟨rfl,hno⟩|⟨i,e,rfl,hi,yM⟩
 ·have hf:f k=none:=by
   cases Zy:f k with
   |none=>rfl
   |some v=>obtain ⟨e,he,yM⟩:=h3 k v Zy;exact absurd yM (hno e he)
  refine ⟨.map (es.push {key:=enc k,val:=v,born:=clock}) (clock+1), ?_,_,_,vD _,fun e he=> ?_,fun x u hx=> ?_, ?_⟩
  ·unfold Instr.mapUpdate
   simp [run_underlying hm,MapKept.run_getObj_map h1,hK.check,hr,MapKept.run_setObj_map _ h1,Result.andThen,World.bK]
  ·simp only [Array.toList_push,List.mem_append,List.mem_singleton] at he
   rcases he with he|rfl
   ·obtain ⟨k',fS,hv⟩:=h2 e he
    refine ⟨k',fS, ?_⟩
    rw [if_neg (by rintro rfl;exact hno e he fS)];exact hv
   ·exact ⟨k,rfl,by simp⟩
  ·by_cases Qp:x=k
   ·subst Qp
    exact ⟨{key:=enc x,val:=v,born:=clock},by simp,rfl⟩
   ·rw [if_neg Qp] at hx
    obtain ⟨e,he,yM⟩:=h3 x u hx
    exact ⟨e,by simp [he],yM⟩
  ·simp only [Array.toList_push]
   rw [List.pairwise_append]
   exact ⟨h4,by simp,fun a ha b hb=>by simp at hb;subst hb;exact hno a ha⟩
 ·have ml:=(Hk hi).choose
  have he0:=(Hk hi).choose_spec
  refine ⟨.map (es.modify i fun e=>{e with key:=enc k,val:=v}) clock, ?_,_,_,vD _,fun a ha=> ?_,fun x u hx=> ?_, ?_⟩
  ·have hes:es[i]?=some e:=by rw [<-Array.getElem?_toList];exact hi
   unfold Instr.mapUpdate
   simp [run_underlying hm,MapKept.run_getObj_map h1,hK.check,hr,MapKept.run_setObj_map _ h1,Result.andThen,World.bK,hes,yM,hK.stays]
  ·obtain ⟨j,hj⟩:=List.getElem?_of_mem ha
   rw [Array.getElem?_toList,Array.getElem?_modify] at hj
   split at hj
   ·rename_i vG
    subst vG
    obtain ⟨e',SC,rfl⟩:=Option.map_eq_some_iff.1 hj
    exact ⟨k,rfl,by simp⟩
   ·rename_i vG
    rw [<-Array.getElem?_toList] at hj
    obtain ⟨k',fS,hv⟩:=h2 a (List.mem_of_getElem? hj)
    refine ⟨k',fS, ?_⟩
    rw [if_neg (by rintro rfl;exact vG (On h4 hi hj (yM.trans fS.symm)))];exact hv
  ·have key:∀e'∈es.toList,∃e''∈(es.modify i fun e=>{e with key:=enc k,val:=v}).toList,e''.key=e'.key:=fun e' SC=>by
    obtain ⟨j,hj⟩:=List.getElem?_of_mem SC
    by_cases vG:i=j
    ·subst vG
     rw [hi] at hj;cases hj
     refine ⟨{e with key:=enc k,val:=v}, ?_,yM.symm⟩
     have hes:es[i]?=some e:=by rw [<-Array.getElem?_toList];exact hi
     exact List.mem_of_getElem? (i:=i) (by rw [Array.getElem?_toList,Array.getElem?_modify];simp [hes])
    ·refine ⟨e', ?_,rfl⟩
     exact List.mem_of_getElem? (i:=j) (by rw [Array.getElem?_toList,Array.getElem?_modify,if_neg vG,<-Array.getElem?_toList];exact hj)
   by_cases Qp:x=k
   ·subst Qp
    obtain ⟨e'',h5,h6⟩:=key e (List.mem_of_getElem? hi)
    exact ⟨e'',h5,h6.trans yM⟩
   ·rw [if_neg Qp] at hx
    obtain ⟨e',SC,Nw⟩:=h3 x u hx
    obtain ⟨e'',h5,h6⟩:=key e' SC
    exact ⟨e'',h5,h6.trans Nw⟩
  ·rw [List.pairwise_iff_getElem] at h4 ⊢
   intro a c ha hc ZT
   simp only [Array.length_toList,Array.size_modify] at ha hc
   have ka:∀j (hj:j<es.size),((es.modify i fun e=>{e with key:=enc k,val:=v}).toList[j]'(by simpa using hj)).key=(es.toList[j]'(by simpa using hj)).key:=fun j hj=>by
    simp only [Array.getElem_toList,Array.getElem_modify]
    split
    ·rename_i vG
     subst vG
     rw [<-he0] at yM
     simpa using yM.symm
    ·rfl
   rw [ka a ha,ka c hc]
   exact h4 a c (by simpa using ha) (by simpa using hc) ZT
open Classical in
theorem ed.delete (hK:Keys P kt enc) (hm:P.underlying mt=some (.map kt et)) (h:ed w m enc f) (k:K) (ty Qh:Q'):
 ∃o,(Builtin.delete_ #[mt,Qh] ty #[.map (some m),enc k]).run P w=.ok (.tuple #[]) (World.bK w m o)/\ed (World.bK w m o) m enc (fun x=>if x=k then none else f x):=by
 obtain ⟨es,clock,h1,h2,h3,h4⟩:=h.ex
 have hlt:=(cI h1)
 have vD:∀o,(World.bK w m o).heap[m]?=some o:=fun o=>by simp [World.bK,hlt]
 obtain ⟨r,hr,pv⟩:=hK.find es.toList k w (fun e he=>(h2 e he).imp fun k' fS=>fS.1)
 rcases pv with ⟨rfl,hno⟩|⟨i,e,rfl,hi,yM⟩
 ·refine ⟨.map es clock, ?_,_,_,vD _,fun e he=> ?_,fun x u hx=> ?_,h4⟩
  ·unfold Builtin.delete_
   simp [run_underlying hm,MapKept.run_getObj_map h1,hK.check,hr,MapKept.run_setObj_map _ h1,Result.andThen,World.bK]
  ·obtain ⟨k',fS,hv⟩:=h2 e he
   exact ⟨k',fS,by rw [if_neg (by rintro rfl;exact hno e he fS)];exact hv⟩
  ·split at hx
   ·cases hx
   ·exact h3 x u hx
 ·have ml:=(Hk hi).choose
  have yG:(es.eraseIdxIfInBounds i).toList=es.toList.eraseIdx i:=by
   simp only [Array.length_toList] at ml
   simp [Array.eraseIdxIfInBounds,ml]
  refine ⟨.map (es.eraseIdxIfInBounds i) clock, ?_,_,_,vD _,fun a ha=> ?_,fun x u hx=> ?_, ?_⟩
  ·unfold Builtin.delete_
   simp [run_underlying hm,MapKept.run_getObj_map h1,hK.check,hr,MapKept.run_setObj_map _ h1,Result.andThen,World.bK]
  ·rw [yG,List.mem_eraseIdx_iff_getElem?] at ha
   obtain ⟨j,SA,hj⟩:=ha
   obtain ⟨k',fS,hv⟩:=h2 a (List.mem_of_getElem? hj)
   exact ⟨k',fS,by rw [if_neg (by rintro rfl;exact SA (On h4 hj hi (fS.trans yM.symm)))];exact hv⟩
  ·split at hx
   ·cases hx
   ·rename_i Qp
    obtain ⟨e',SC,Nw⟩:=h3 x u hx
    refine ⟨e', ?_,Nw⟩
    rw [yG,List.mem_eraseIdx_iff_getElem?]
    obtain ⟨j,hj⟩:=List.getElem?_of_mem SC
    refine ⟨j,fun SA=>Qp ?_,hj⟩
    subst SA
    rw [hi] at hj;cases hj
    exact hK.inj _ _ (Nw.symm.trans yM)
  ·rw [yG]
   exact h4.sublist (List.eraseIdx_sublist _ _)
theorem JS (hk:P.underlying kt=some (.int .i64)):Keys P kt (ah .i64):=by
 refine ⟨fun a b h=>by injection h,fun l k w hl=> ?_,fun b n k w=> ?_,fun k w=> ?_⟩
 ·have key:∀(l:List MapEntry) (i:Nat),(∀e∈l,∃k',e.key=ah .i64 k')->∃r:Option (Nat × M'),Instr.findNow (.int .i64) (.int .i64 k) l i=some r/\((r=none/\∀e∈l,e.key≠.int .i64 k)\/∃j e,r=some (i+j,e.val)/\l[j]?=some e/\e.key=.int .i64 k):=by
   intro l
   induction l with
   |nil=>exact fun i _=>⟨none,rfl,.inl ⟨rfl,by simp⟩⟩
   |cons a l ih=>
    intro i hl
    obtain ⟨k',fS⟩:=hl a (by simp)
    by_cases e:k=k'
    ·subst e
     exact ⟨some (i,a.val),by simp [Instr.findNow,Instr.sameNow,fS],.inr ⟨0,a,by simp,rfl,fS⟩⟩
    ·obtain ⟨r,hr,hc⟩:=ih (i+1) (fun e he=>hl e (by simp [he]))
     have hne:(k==k')=false:=beq_eq_false_iff_ne.2 e
     refine ⟨r,by simp [Instr.findNow,Instr.sameNow,fS,hne,hr], ?_⟩
     rcases hc with ⟨rfl,hno⟩|⟨j,e',rfl,hj,Zm⟩
     ·refine .inl ⟨rfl,fun x hx=> ?_⟩
      rcases List.mem_cons.1 hx with rfl|hx
      ·rw [fS];intro h;injection h with _ h;exact e h.symm
      ·exact hno x hx
     ·exact .inr ⟨j+1,e',by rw [show i+1+j=i+(j+1) by omega],by simpa using hj,Zm⟩
  obtain ⟨r,hr,hc⟩:=key l 0 hl
  refine ⟨r, ?_, ?_⟩
  ·unfold Instr.findKey
   simp [run_underlying hk,hr,Result.andThen]
  ·rcases hc with h|⟨j,e,h1,h2,h3⟩
   ·exact .inl h
   ·exact .inr ⟨j,e,by simpa using h1,h2,h3⟩
 ·unfold Instr.checkKey
  simp [run_underlying hk,Result.andThen]
 ·unfold Instr.keyThatStays
  simp [Instr.sameBits]
def Bl (x:Nat):M':=.chan (some x)
theorem Hy {e:Q'} {dir:ChanDir} (hk:P.underlying kt=some (.chan dir e)):Keys P kt Bl:=by
 refine ⟨fun a b h=>by injection h with h;injection h,fun l k w hl=> ?_,fun b n k w=>rO hk b n (some k) w,fun k w=> ?_⟩
 ·have h0:=tf (x:=k) hk l w hl
  refine ⟨_,h0, ?_⟩
  cases hi:l.findIdx? (qE k) with
  |none=>
   refine .inl ⟨rfl,fun e he yM=> ?_⟩
   rw [List.findIdx?_eq_none_iff] at hi
   have:=hi e he
   simp [qE,yM,Bl] at this
  |some j=>
   obtain ⟨hj,h1,_⟩:=List.findIdx?_eq_some_iff_getElem.1 hi
   obtain ⟨y,hy⟩:=hl l[j] (List.getElem_mem hj)
   refine .inr ⟨j,l[j],by simp [G_ hj],G_ hj, ?_⟩
   simp [qE,hy,Bl] at h1
   rw [hy,h1]
 ·unfold Instr.keyThatStays Bl
  simp [Instr.sameBits]
end
section
open Go Go.Conc Go.aC Go.RowKit Go.Proofs
open Go.ConcN (upd upd_ne upd_same)
abbrev Bs:=List UInt8
structure Rec where
 call:Int
 line:Int
 op:Int
 jy:Int
 heard:Int
 wI:Int
 fin:Bs
def Rec.cells (r:Rec):List M':=[.int .i64 r.call,.int .i64 r.line,.int .i64 r.op,.int .i64 r.jy,.int .i64 r.heard,.int .i64 r.wI,.string ⟨r.fin.toArray⟩]
def cj (rs:List Rec):List M':=rs.flatMap Rec.cells
def ax (ws:List (Int × Int)):List M':=ws.flatMap fun p=>[.int .i64 p.1,.int .i64 p.2]
structure Hs where
 lines:List Nat
 on:Nat->Option Int
 of:Int->Option Nat
 rc:Int->Option Nat
 wait:List (Int × Int)
 back:List Int
 recs:List Rec
 clock:Int
 log:List Bs
 cg:List Int
structure Ha where
 B:Nat
 hb:Nat
 lb:Nat
 cl:Nat
 ob:Nat
 co:Nat
 m:Nat
 m1:Nat
 m2:Nat
 m3:Nat
 L:Int
 O:Int
 P:Int
 n0:Nat
 h0:Array Obj
structure Ha.Ok (A:Ha):Prop where
 hb:A.hb<A.B
 lb:A.lb<A.B
 ob:A.ob<A.B
 m1:A.m1<A.B
 m2:A.m2<A.B
 m3:A.m3<A.B
 d1:A.hb≠A.m1/\A.hb≠A.m2/\A.hb≠A.m3/\A.m1≠A.m2/\A.m1≠A.m3/\A.m2≠A.m3
 d2:A.lb≠A.hb/\A.lb≠A.m1/\A.lb≠A.m2/\A.lb≠A.m3
 d3:A.ob≠A.hb/\A.ob≠A.m1/\A.ob≠A.m2/\A.ob≠A.m3
def ug (A:Ha) (n:Nat) (clock:Int) (vw vb vr va vt:M'):Array M':=
 #[.int .i64 A.L,.int .i64 A.O,.int .i64 A.P,.slice (some ⟨A.lb,0,none⟩) n A.cl,.map (some A.m1),.map (some A.m2),.slice (some ⟨A.ob,0,none⟩) A.m A.co,vw,vb,vr,.map (some A.m3),.int .i64 clock,va,vt]
structure aQ (A:Ha) (S:Hs) (vw vb vr va vt:M') (w:J'):Prop where
 ok:A.Ok
 big:A.B<=w.heap.size
 box:w.heap[A.hb]?=some (.cells (ug A S.lines.length S.clock vw vb vr va vt) 77 (0,0))
 lines:∀i (h:i<S.lines.length),w.cell? ⟨A.lb,i,none⟩=some (.chan (some S.lines[i]))
 on:ed w A.m1 Bl fun x=>(S.on x).map (ah .i64)
 of:ed w A.m2 (ah .i64) fun c=>(S.of c).map fun x=>.chan (some x)
 rc:ed w A.m3 (ah .i64) fun c=>(S.rc c).map fun i=>.int .i64 (i:Nat)
 wait:w.ownsRow A.B 84 2 vw S.wait.length (ax S.wait)
 back:w.ownsRow A.B 3 1 vb S.back.length (S.back.map (ah .i64))
 recs:w.ownsRow A.B 44 7 vr S.recs.length (cj S.recs)
 log:w.ownsRow A.B 9 1 va S.log.length (S.log.map fun s=>Value.string ⟨s.toArray⟩)
 cg:w.ownsRow A.B 3 1 vt S.cg.length (S.cg.map (ah .i64))
 apart:vb.ownBlock=none\/vb.ownBlock≠vt.ownBlock
def cQ (A:Ha) (va vt:M') (S:Hs) (w:J'):Prop:=∃vw vb vr,aQ A S vw vb vr va vt w
structure Fr (A:Ha) (w w':J'):Prop where
 os:w'.os=w.os
 tape:w'.tape=w.tape
 output:w'.output=w.output
 size:w.heap.size<=w'.heap.size
 block:∀i,i<A.B->i≠A.hb->i≠A.m1->i≠A.m2->i≠A.m3->w'.heap[i]?=w.heap[i]?
theorem Fr.refl (A:Ha) (w:J'):Fr A w w:=⟨rfl,rfl,rfl,C_ _,fun _ _ _ _ _ _=>rfl⟩
variable {A:Ha}
theorem Fr.trans {a b c:J'} (h:Fr A a b) (k:Fr A b c):Fr A a c:=⟨k.os.trans h.os,k.tape.trans h.tape,k.output.trans h.output,D_ h.size k.size,fun i a b c d e=>(k.block i a b c d e).trans (h.block i a b c d e)⟩
theorem pe:Keys p_ 3 (ah .i64):=JS Tryz.underlying3
theorem zo:Keys p_ 78 Bl:=Hy Tryz.underlying78
theorem BO (w:J'):(zeroValue 3).run p_ w=.ok (.int .i64 0) w:=by have:=Tryz.zeroValue3 (w:=w);exact this
theorem qQ (w:J'):(zeroValue 78).run p_ w=.ok (.chan none) w:=by have:=Tryz.zeroValue78 (w:=w);exact this
section
variable {P:U'} (w:J') {ops:Array y_} {rest:List y_} {o:y_} {a:Act} {Q:Exit->Act->J'->Prop} {K:Type} {enc:K->M'} {f:K->Option M'} {kt et:Q'}
theorem cU (hg:o.guard=none) (m x:Operand) (t:Q') (ok:Bool) (hop:o.op=Op.lookup t m x ok) (hK:Keys P kt enc) (ht:P.underlying t=some (.map kt et)) (b:Nat) (hm:a.eval m=.map (some b)) (h:ed w b enc f) (k:K) (hx:a.eval x=enc k) {z:M'} (hz:∀w:J',(zeroValue et).run P w=.ok z w)
 (hk:wpList P ops Q rest (a.put o.dst (if ok then .tuple #[(f k).getD z,.bool (f k).isSome] else (f k).getD z)) w):wpList P ops Q (o::rest) a w:=by
 refine wpList_plain hg fun K' hK'=> ?_
 have hrun:=h.lookup hK ht k hz ok
 unfold Oper.wp
 simp [V',hop,hm,hx,hrun,Result.andThen]
 exact hK' _ _ hk
open Classical in
theorem kn (hg:o.guard=none) (m x v:Operand) (t:Q') (hop:o.op=Op.mapUpdate t m x v) (hK:Keys P kt enc) (ht:P.underlying t=some (.map kt et)) (b:Nat) (hm:a.eval m=.map (some b)) (h:ed w b enc f) (k:K) (hx:a.eval x=enc k) (val:M') (hv:a.eval v=val)
 (hk:∀ob,ed (World.bK w b ob) b enc (fun x=>if x=k then some val else f x)->wpList P ops Q rest (a.put o.dst I') (World.bK w b ob)):wpList P ops Q (o::rest) a w:=by
 refine wpList_plain hg fun K' hK'=> ?_
 obtain ⟨ob,hrun,h2⟩:=h.update hK ht k val
 unfold Oper.wp
 simp [V',hop,hm,hx,hv,hrun,Result.andThen]
 exact hK' _ _ (hk ob h2)
open Classical in
theorem sZ (hg:o.guard=none) (m x:Operand) (t Qh:Q') (hop:o.op=Op.call {callee:=Callee.builtin Builtin.delete,args:=#[m,x],argTypes:=#[t,Qh]}) (hK:Keys P kt enc) (ht:P.underlying t=some (.map kt et)) (b:Nat) (hm:a.eval m=.map (some b)) (h:ed w b enc f) (k:K) (hx:a.eval x=enc k)
 (hk:∀ob,ed (World.bK w b ob) b enc (fun x=>if x=k then none else f x)->wpList P ops Q rest (a.put o.dst (.tuple #[])) (World.bK w b ob)):wpList P ops Q (o::rest) a w:=by
 refine wpList_plain hg fun K' hK'=> ?_
 obtain ⟨ob,hrun,h2⟩:=h.delete hK ht k o.type Qh
 unfold Oper.wp
 simp [V',hop,resolve,invoke,builtin,hm,hx,hrun,Result.andThen]
 exact hK' _ _ (hk ob h2)
end
variable {w:J'} {b:Nat}
theorem cV {o:Nat} {c:Array M'} {t:Q'} {f:Nat × Nat} (h:w.heap[b]?=some (.cells c t f)):w.cell? ⟨b,o,none⟩=c[o]?:=by
 simp [World.cell?,h]
theorem bX {o:Nat} {c:Array M'} {t:Q'} (h:w.heap[b]?=some (.cells c t (0,0))):w.frozen? ⟨b,o,none⟩=false:=by
 simp [World.frozen?,h]
variable {S:Hs} {vw vb vr va vt:M'} {w':J'}
theorem aQ.c (h:aQ A S vw vb vr va vt w):w.cell? ⟨A.hb,3,none⟩=some (.slice (some ⟨A.lb,0,none⟩) S.lines.length A.cl)/\w.cell? ⟨A.hb,4,none⟩=some (.map (some A.m1))/\w.cell? ⟨A.hb,5,none⟩=some (.map (some A.m2))/\w.cell? ⟨A.hb,6,none⟩=some (.slice (some ⟨A.ob,0,none⟩) A.m A.co)/\w.cell? ⟨A.hb,7,none⟩=some vw/\w.cell? ⟨A.hb,8,none⟩=some vb/\w.cell? ⟨A.hb,9,none⟩=some vr/\w.cell? ⟨A.hb,10,none⟩=some (.map (some A.m3))/\w.cell? ⟨A.hb,11,none⟩=some (.int .i64 S.clock)/\w.cell? ⟨A.hb,12,none⟩=some va/\w.cell? ⟨A.hb,13,none⟩=some vt:=by
 refine ⟨?_, ?_, ?_, ?_, ?_, ?_, ?_, ?_, ?_, ?_, ?_⟩<;>(rw [cV h.box];rfl)
theorem aQ.z (h:aQ A S vw vb vr va vt w) (j:Nat):w.frozen? ⟨A.hb,j,none⟩=false:=bX h.box
end
section
open Go Go.Conc Go.Conc.Lib Go.ConcR Go.ConcR.Gen Go.aC Go.Proofs
open Go.RowKit hiding Hid
open Go.ConcN (upd upd_ne upd_same)
theorem aa {p:Prop} (h:p):f_ p:=h
variable {w w':J'} {m:Nat}
theorem ed.heap {K:Type} {enc:K->M'} {f:K->Option M'} (h:ed w m enc f) (e:w'.heap=w.heap):ed w' m enc f:=h.block (by rw [e])
variable {A:Ha} {S:Hs} {vb vr va vt:M'}
theorem aQ.heap {vw:M'} (h:aQ A S vw vb vr va vt w) (e:w'.heap=w.heap):aQ A S vw vb vr va vt w':=by
 have own:∀{e1 s n:Nat} {v:M'} {xs:List M'},w.ownsRow A.B e1 s v n xs->w'.ownsRow A.B e1 s v n xs:=fun {e1 s n v xs} hh=>by
  refine ⟨hh.1,hh.2.imp id fun ⟨g,cap,cur,h1,h2,h3,h4⟩=>⟨g,cap,cur,h1,h2,by rw [e];exact h3,h4⟩⟩
 exact ⟨h.ok,by rw [e];exact h.big,by rw [e];exact h.box,fun i hi=>(J_ (by rw [e])).trans (h.lines i hi),h.on.heap e,h.of.heap e,h.rc.heap e,own h.wait,own h.back,own h.recs,own h.log,own h.cg,h.apart⟩
def gf (S:Hs):Int:=match S.lines.findIdx? (fun x=>(S.on x).isNone) with|some i=>(i:Nat)|none=> -1
variable {k:Nat}
theorem E0 (hk:k<S.lines.length) (h0:S.on S.lines[k]=none) (h:∀j (hj:j<k),(S.on (S.lines[j]'(by omega))).isSome=true):gf S=(k:Nat):=by
 have:S.lines.findIdx? (fun x=>(S.on x).isNone)=some k:=by
  rw [List.findIdx?_eq_some_iff_getElem]
  refine ⟨hk,by simp [h0],fun j hj=> ?_⟩
  have:=h j hj
  cases hx:S.on (S.lines[j]'(by omega)) with
  |none=>rw [hx] at this;cases this
  |some _=>simp
 unfold gf;rw [this]
theorem E1 (h:∀j (hj:j<S.lines.length),(S.on S.lines[j]).isSome=true):gf S= -1:=by
 have:S.lines.findIdx? (fun x=>(S.on x).isNone)=none:=by
  rw [List.findIdx?_eq_none_iff]
  intro x hx
  obtain ⟨j,hj,rfl⟩:=List.mem_iff_getElem.1 hx
  have:=h j hj
  cases hx:S.on S.lines[j] with
  |none=>rw [hx] at this;cases this
  |some _=>rfl
 unfold gf;rw [this]
theorem kK {vw:M'} (h:aQ A S vw vb vr va vt w) (hn:S.lines.length<=1000):
 d_ p_ 128 #[.pointer (some ⟨A.hb,0,none⟩)] w fun e w'=>e=.returned (.int .i64 (gf S))/\w'=w:=by
 obtain ⟨c3,c4,c5,c6,c7,c8,c9,W5,Ig,c12,c13⟩:=h.c
 have hL:=aa h.lines
 have b9:=h.on
 clear h c5 c6 c7 c8 c9 W5 Ig c12 c13
 go_enter func128,ntmps128
 go_wp2
 go_loopw [12] (fun i wr=>∃k:Nat,k<=S.lines.length/\i=.int .i64 k/\f_ (∀j (hj:j<k) (Dy:j<S.lines.length),(S.on S.lines[j]).isSome=true)/\w=wr) (fun i _=>S.lines.length - (intOf i).toNat)
 case atStart=>exact ⟨0,nz _,rfl,fun j hj=>by omega,rfl⟩
 case round=>
  obtain ⟨k,hk,rfl,hT,rfl⟩:=hrel
  by_cases hlt:k<S.lines.length
  ·have gJ:(k:Int)<(S.lines.length:Int):=by omega
   have hcell:=hL.out k hlt
   have dS:f_ (S.on S.lines[k]=none->gf S=(k:Nat)):=fun h0=>E0 hlt h0 (fun j hj=>hT.out j hj (by omega))
   have eF:f_ ((S.on S.lines[k]).isSome=true->∀j (hj:j<k+1) (Dy:j<S.lines.length),(S.on S.lines[j]).isSome=true):=fun h0 j hj Dy=>by
    by_cases e:j=k
    ·subst e;exact h0
    ·exact hT.out j (by omega) Dy
   generalize S.lines[k]=x at hcell dS eF
   cases hx:S.on x with
   |none=>
    have h1:=dS.out hx
    clear dS eF
    go_wp2_with (at_lookup;refine cU _ rfl _ _ 71 true rfl zo Tryz.underlying71 A.m1 rfl b9 x rfl BO ?_;simp only [hx,Option.map_none,Option.getD_none,Option.isSome_none,if_true])
    go_ret
    exact ⟨by rw [h1];rfl,rfl⟩
   |some c=>
    have h1:=aa (eF.out (by rw [hx];rfl))
    clear dS eF
    go_wp2_with (at_lookup;refine cU _ rfl _ _ 71 true rfl zo Tryz.underlying71 A.m1 rfl b9 x rfl BO ?_;simp only [hx,Option.map_some,A_,Option.isSome_some,if_true])
    go_roundw
    case rel=>exact ⟨k+1,by omega,by go_num,h1,trivial⟩
    case measure=>simp [intOf];omega
  ·have h1:=E1 (S:=S) fun j hj=>hT.out j (by omega) hj
   go_wp2
   go_ret
   exact ⟨by rw [h1];rfl,rfl⟩
theorem Fr.of_heap (h:w'.heap=w.heap) (ho:w'.os=w.os) (ht:w'.tape=w.tape) (hu:w'.output=w.output):Fr A w w':=⟨ho,ht,hu,Nat.le_of_eq (congrArg Array.size h).symm,fun _ _ _ _ _ _=>by rw [h]⟩
variable {B sz:Nat} {xs:List M'}
theorem cz {e n:Nat} {v:M'} (h:w.ownsRow B e sz v n xs) (hn:0<n):∃g cap cur,v=.slice (some ⟨g,0,none⟩) n cap/\B<=g/\w.heap[g]?=some (.cells cur e (0,0))/\n<=cap/\cap<=maxLen/\cur.size=cap * sz/\cur.toList.take (n * sz)=xs:=by
 rcases h.2 with ⟨_,h0⟩|h
 ·omega
 ·exact h
variable {i:Nat}
theorem jL {vw:M'} (h:aQ A S vw vb vr va vt w) {c:Int} (hc:S.rc c=some i) (hi:i<S.recs.length) {g cap:Nat} (hv:vr=.slice (some ⟨g,0,none⟩) S.recs.length cap) (hb:S.recs.length<=100000):
 d_ p_ 134 #[.pointer (some ⟨A.hb,0,none⟩),.int .i64 c] w fun e w'=>e=.returned (.pointer (some ⟨g,i * 7,none⟩))/\w'.heap=w.heap/\Fr A w w':=by
 obtain ⟨c3,c4,c5,c6,c7,c8,c9,W5,Ig,c12,c13⟩:=h.c
 have mj:=h.rc
 subst hv
 have h1:(Int.ofNat i)<(S.recs.length:Int):=by exact Int.ofNat_lt.2 hi
 generalize S.recs.length=n at hi hb c9 h1 ⊢
 clear h c3 c4 c5 c6 c7 c8 Ig c12 c13
 have Sy:Sem.run p_ (Instr.lookup 75 (Value.map (some A.m3)) (ah IntKind.i64 c) false) w.drew=.ok (.int .i64 (Int.ofNat i)) w.drew:=by
  have:=(mj.heap (w':=World.drew w) rfl).lookup pe Tryz.underlying75 c (z:=.int .i64 0) (fun w=>BO w) false
  rw [hc] at this;exact this
 go_enter func134,ntmps134
 go_wp2
 go_region
 go_wp2
 go_ret
 all_goals exact ⟨rfl,rfl,Fr.of_heap rfl rfl rfl rfl⟩
theorem bG {o:Obj} (h:i≠m):(World.bK w m o).heap[i]?=w.heap[i]?:=by
 simp only [World.bK];rw [Array.getElem?_setIfInBounds];rw [if_neg (fun e=>h e.symm)]
theorem jT {o:Obj}:(World.bK w m o).heap.size=w.heap.size:=by simp [World.bK]
variable {B' e' s' n':Nat} {v':M'} {Sk:List M'}
theorem gF {e s n:Nat} {v:M'} (h:w.ownsRow B e s v n xs) (h':w.ownsRow B' e' s' v' n' Sk) (hne:e≠e'):v.ownBlock=none\/v.ownBlock≠v'.ownBlock:=by
 rcases h.2 with ⟨rfl,_⟩|⟨g,cap,cur,rfl,_,hg,_⟩
 ·exact .inl rfl
 ·right
  rcases h'.2 with ⟨rfl,_⟩|⟨g',cap',yR,rfl,_,iJ,_⟩
  ·simp [Value.ownBlock]
  ·intro e1
   simp only [Value.ownBlock,n_] at e1
   subst e1
   rw [hg] at iJ
   simp at iJ
   exact hne iJ.2
variable {vw:M'}
theorem cH {e s n:Nat} {v:M'} (h:w.ownsRow B e s v n xs) (hs:∀g,B<=g->g<w.heap.size->w'.heap[g]?=w.heap[g]?):w'.ownsRow B e s v n xs:=by
 refine ⟨h.1, ?_⟩
 rcases h.2 with h0|⟨g,cap,cur,h1,h2,h3,h4⟩
 ·exact .inl h0
 ·refine .inr ⟨g,cap,cur,h1,h2, ?_,h4⟩
  rw [hs g h2 (cI h3)];exact h3
open Classical in
theorem aQ.N9 (h:aQ A S vw vb vr va vt w) {o:Obj} {f:Nat->Option Int} (hm:ed (World.bK w A.m1 o) A.m1 Bl fun x=>(f x).map (ah .i64)):aQ A {S with on:=f} vw vb vr va vt (World.bK w A.m1 o):=by
 obtain ⟨d1,d2,d3,d4,d5,d6⟩:=h.ok.d1
 obtain ⟨e1,e2,e3,e4⟩:=h.ok.d2
 have hs:∀i,A.B<=i->i<w.heap.size->(World.bK w A.m1 o).heap[i]?=w.heap[i]?:=fun i hi _=>bG (by have:=h.ok.m1;omega)
 exact ⟨h.ok,by rw [jT];exact h.big,by rw [bG d1];exact h.box,fun i hi=>(J_ (bG e2)).trans (h.lines i hi),hm,h.of.block (bG (ru d4)),h.rc.block (bG (ru d5)),
  cH h.wait hs,cH h.back hs,cH h.recs hs,cH h.log hs,cH h.cg hs,h.apart⟩
theorem aQ.setOf (h:aQ A S vw vb vr va vt w) {o:Obj} {f:Int->Option Nat} (hm:ed (World.bK w A.m2 o) A.m2 (ah .i64) fun x=>(f x).map fun x=>.chan (some x)):aQ A {S with of:=f} vw vb vr va vt (World.bK w A.m2 o):=by
 obtain ⟨d1,d2,d3,d4,d5,d6⟩:=h.ok.d1
 obtain ⟨e1,e2,e3,e4⟩:=h.ok.d2
 have hs:∀i,A.B<=i->i<w.heap.size->(World.bK w A.m2 o).heap[i]?=w.heap[i]?:=fun i hi _=>bG (by have:=h.ok.m2;omega)
 exact ⟨h.ok,by rw [jT];exact h.big,by rw [bG d2];exact h.box,fun i hi=>(J_ (bG e3)).trans (h.lines i hi),h.on.block (bG d4),hm,h.rc.block (bG (ru d6)),
  cH h.wait hs,cH h.back hs,cH h.recs hs,cH h.log hs,cH h.cg hs,h.apart⟩
theorem aQ.Tb (h:aQ A S vw vb vr va vt w) {o:Obj} {f:Int->Option Nat} (hm:ed (World.bK w A.m3 o) A.m3 (ah .i64) fun x=>(f x).map fun i=>.int .i64 (i:Nat)):aQ A {S with rc:=f} vw vb vr va vt (World.bK w A.m3 o):=by
 obtain ⟨d1,d2,d3,d4,d5,d6⟩:=h.ok.d1
 obtain ⟨e1,e2,e3,e4⟩:=h.ok.d2
 have hs:∀i,A.B<=i->i<w.heap.size->(World.bK w A.m3 o).heap[i]?=w.heap[i]?:=fun i hi _=>bG (by have:=h.ok.m3;omega)
 exact ⟨h.ok,by rw [jT];exact h.big,by rw [bG d3];exact h.box,fun i hi=>(J_ (bG e4)).trans (h.lines i hi),h.on.block (bG d5),h.of.block (bG d6),hm,
  cH h.wait hs,cH h.back hs,cH h.recs hs,cH h.log hs,cH h.cg hs,h.apart⟩
theorem Fr.bK {o:Obj} (hm:m=A.m1\/m=A.m2\/m=A.m3):Fr A w (World.bK w m o):=⟨rfl,rfl,rfl,by rw [jT];exact C_ _,fun i _ _ h1 h2 h3=>bG (by rcases hm with rfl|rfl|rfl<;>assumption)⟩
theorem aQ.grown (h:aQ A S vw vb vr va vt w) {row:Option Nat} (hg:w.grownBy w' row) (hr:∀g,row=some g->A.B<=g) {v:M'} {jA qS qb IX Io:M'} {S':Hs}
 (ZL:(ug A S.lines.length S.clock vw vb vr va vt).setIfInBounds k v=ug A S'.lines.length S'.clock jA qS qb IX Io) (hl:S'.lines=S.lines) (b9:S'.on=S.on) (kE:S'.of=S.of) (mj:S'.rc=S.rc)
 (h1:w'.ownsRow A.B 84 2 jA S'.wait.length (ax S'.wait)) (h2:w'.ownsRow A.B 3 1 qS S'.back.length (S'.back.map (ah .i64))) (h3:w'.ownsRow A.B 44 7 qb S'.recs.length (cj S'.recs))
 (h4:w'.ownsRow A.B 9 1 IX S'.log.length (S'.log.map fun s=>Value.string ⟨s.toArray⟩)) (h5:w'.ownsRow A.B 3 1 Io S'.cg.length (S'.cg.map (ah .i64))) (h6:qS.ownBlock=none\/qS.ownBlock≠Io.ownBlock):
 aQ A S' jA qS qb IX Io (w'.setCell ⟨A.hb,k,none⟩ v)/\Fr A w (w'.setCell ⟨A.hb,k,none⟩ v):=by
 have low:∀i,i<A.B->w'.heap[i]?=w.heap[i]?:=fun i hi=>hg.block i (E_ hi h.big) (fun e=>by have:=hr i e.symm;omega)
 have ne:∀i,i≠A.hb->(w'.setCell ⟨A.hb,k,none⟩ v).heap[i]?=w'.heap[i]?:=fun i hi=>a_ w' ⟨A.hb,k,none⟩ i v hi
 have own:∀{e s n:Nat} {v1:M'} {xs:List M'},w'.ownsRow A.B e s v1 n xs->(w'.setCell ⟨A.hb,k,none⟩ v).ownsRow A.B e s v1 n xs:=fun hh=>cH hh fun g hg _=>ne g (by have:=h.ok.hb;omega)
 obtain ⟨d1,d2,d3,d4,d5,d6⟩:=h.ok.d1
 obtain ⟨e1,e2,e3,e4⟩:=h.ok.d2
 refine ⟨⟨h.ok, ?_, ?_, ?_, ?_, ?_, ?_,own h1,own h2,own h3,own h4,own h5,h6⟩,hg.os,hg.tape,hg.output, ?_,fun i hi hn _ _ _=>(ne i hn).trans (low i hi)⟩
 ·simp only [o_];exact D_ h.big hg.size
 ·rw [<-ZL];exact b_ w' A.hb k _ 77 v ((low _ h.ok.hb).trans h.box)
 ·intro i hi
  have lE:i<S.lines.length:=hl▸hi
  have:=(J_ (a:=⟨A.lb,i,none⟩) ((ne _ e1).trans (low _ h.ok.lb))).trans (h.lines i lE)
  simpa only [hl] using this
 ·rw [b9];exact h.on.block ((ne _ (ru d1)).trans (low _ h.ok.m1))
 ·rw [kE];exact h.of.block ((ne _ (ru d2)).trans (low _ h.ok.m2))
 ·rw [mj];exact h.rc.block ((ne _ (ru d3)).trans (low _ h.ok.m3))
 ·simp only [o_];exact hg.size
def eR:Bs:=[111,112,101,110]
def kT (S:Hs) (c:Int) (l:Nat):Rec:=⟨c,(l:Int)+1,0,S.clock, -1, -1,eR⟩
def conn (S:Hs) (c:Int) (l x:Nat):Hs:={S with on:=fun y=>if y=x then some c else S.on y,of:=fun y=>if y=c then some x else S.of y,rc:=fun y=>if y=c then some S.recs.length else S.rc y,recs:=S.recs++[kT S c l]}
theorem EA:(Tryz.prog.info? 44).map (fun i=>(i.zero,i.size,i.bytes))=some (some (.agg #[.int .i64 0,.int .i64 0,.int .i64 0,.int .i64 0,.int .i64 0,.int .i64 0,.string ⟨#[]⟩]),7,64):=by kernel_rfl
theorem nG (a b:List Rec):cj (a++b)=cj a++cj b:=by simp [cj]
theorem aE {e n:Nat} {v:M'} (h:w.ownsRow B e sz v n xs):∃a cap,v=.slice a n cap:=by
 rcases h.2 with ⟨h0,h1⟩|⟨g,cap,cur,h1,_⟩
 ·exact ⟨none,0,by rw [h0,h1]⟩
 ·exact ⟨_,_,h1⟩
theorem pU {e n:Nat} {v:M'} (h:w.ownsRow B e sz v n xs) (g:Nat) (hg:v.ownBlock=some g):B<=g:=(h.lt g hg).1
theorem bU {e s n:Nat} {v:M'} (h:w.ownsRow B e s v n xs) (h':w.ownsRow B' e' s' v' n' Sk) (hne:e≠e') (hg:w.grownBy w' v'.ownBlock):w'.ownsRow B e s v n xs:=h.kept hg (gF h h' hne)
theorem aQ.push (h:aQ A S vw vb vr va vt w) {rs:List Rec} (hg:w.grownBy w' vr.ownBlock) (ho:w'.ownsRow A.B 44 7 v' rs.length (cj rs)):
 aQ A {S with recs:=rs} vw vb v' va vt (w'.setCell ⟨A.hb,9,none⟩ v')/\Fr A w (w'.setCell ⟨A.hb,9,none⟩ v'):=
 h.grown hg (fun g e=>pU h.recs g e) (k:=9) (v:=v') (S':={S with recs:=rs}) rfl rfl rfl rfl rfl (bU h.wait h.recs (by decide) hg) (bU h.back h.recs (by decide) hg) ho (bU h.log h.recs (by decide) hg) (bU h.cg h.recs (by decide) hg) h.apart
theorem aQ.TF (h:aQ A S vw vb vr va vt w) {r:Rec} (hg:w.grownBy w' vr.ownBlock) (ho:w'.ownsRow A.B 44 7 v' (S.recs.length+1) (cj S.recs++r.cells)):
 aQ A {S with recs:=S.recs++[r]} vw vb v' va vt (w'.setCell ⟨A.hb,9,none⟩ v')/\Fr A w (w'.setCell ⟨A.hb,9,none⟩ v'):=
 h.push hg (by rw [K_,nG];simpa [cj] using ho)
theorem aQ.alloc (h:aQ A S vw vb vr va vt w) (o:Obj):aQ A S vw vb vr va vt (w.alloc o):=by
 have hs:∀i,i<w.heap.size->(w.alloc o).heap[i]?=w.heap[i]?:=fun i hi=>(N_ w o none).block i hi (by simp)
 have lt:∀{i},i<A.B->i<w.heap.size:=fun hi=>E_ hi h.big
 exact ⟨h.ok,D_ h.big (N_ w o none).size,by rw [hs _ (lt h.ok.hb)];exact h.box,fun i hi=>(J_ (hs _ (lt h.ok.lb))).trans (h.lines i hi),h.on.block (hs _ (lt h.ok.m1)),h.of.block (hs _ (lt h.ok.m2)),h.rc.block (hs _ (lt h.ok.m3)),h.wait.alloc o,h.back.alloc o,h.recs.alloc o,h.log.alloc o,h.cg.alloc o,h.apart⟩
theorem Fr.alloc (hB:A.B<=w.heap.size) (o:Obj):Fr A w (w.alloc o):=⟨rfl,rfl,rfl,(N_ w o none).size,fun i hi _ _ _ _=>(N_ w o none).block i (E_ hi hB) (by simp)⟩
variable {j:Nat}
theorem bJ {cs:Array M'} {e:Q'} {v:M'} (h:cs[j]?=some v):(w.alloc (.cells cs e)).cell? ⟨w.heap.size,j,none⟩=some v:=by
 unfold World.cell?
 simp only [World.alloc,Array.getElem?_push_size]
 simpa using h
theorem fY (w:J') (cs:Array M') (e:Q') (h:cs.toList=xs):∀j u,xs[j]?=some u->(w.alloc (.cells cs e)).cell? ((⟨w.heap.size,0,none⟩:z_).add j)=some u:=by
 intro j u hu
 have:cs[j]?=some u:=by rw [<-hu,<-h];simp
 have h2:=bJ (w:=w) (e:=e) this
 by_cases h0:j=0
 ·subst h0;simpa [Addr.add] using h2
 ·simpa [Addr.add,h0] using h2
theorem Fr.drew:Fr A w w.drew:=Fr.of_heap rfl rfl rfl rfl
variable {l:Nat} {W0:J'}
theorem oy (h:aQ A S vw vb vr va vt w) {c:Int} (hl:l<S.lines.length) (hn:S.lines.length<=1000) (hr:S.recs.length<=100000) (hc: -1000000<=c) (BJ:c<=1000000) (hW:Fr A W0 w):
 d_ p_ 129 #[.pointer (some ⟨A.hb,0,none⟩),.int .i64 c,.int .i64 (l:Nat)] w fun e w'=>e=.returned (.tuple #[])/\(∃qb,aQ A (conn S c l S.lines[l]) vw vb qb va vt w')/\Fr A W0 w':=by
 obtain ⟨c3,_,_,_,_,_,_,_,_,_,_⟩:=h.c
 have hcell:=h.lines l hl
 have Iv:(l:Int)<(S.lines.length:Int):=by omega
 have hl3:(l:Int)<=1000:=by omega
 have c4:=h.c.2.1
 generalize hx:S.lines[l]=x at hcell ⊢
 have b9:=h.on
 have H:=aa h
 have HW:=aa hW
 clear h hW
 go_enter func129,ntmps129
 go_wp2_with (first
  |(at_mapUpdate;refine kn _ rfl _ _ _ 71 rfl zo Tryz.underlying71 A.m1 rfl b9 x rfl (.int .i64 c) rfl ?_;intro o1 Nh;have H1:=aa (H.out.N9 (f:=fun y=>if y=x then some c else S.on y) (cast (congrArg _ (funext fun y=>by by_cases e:y=x<;>simp [e])) Nh));have F1:=aa (HW.out.trans (Fr.bK (A:=A) (w:=w) (m:=A.m1) (o:=o1) (.inl rfl)));clear Nh H HW c3 c4 hcell b9;generalize World.bK w A.m1 o1=w1 at H1 F1 ⊢;have c5:=H1.out.c.2.2.1;have kE:=H1.out.of)
  |(at_mapUpdate;refine kn _ rfl _ _ _ 72 rfl pe Tryz.underlying72 A.m2 rfl kE c rfl (.chan (some x)) rfl ?_;intro o2 Uv;have H2:=aa (H1.out.setOf (f:=fun y=>if y=c then some x else S.of y) (cast (congrArg _ (funext fun y=>by by_cases e:y=c<;>simp [e])) Uv));have F2:=aa (F1.out.trans (Fr.bK (A:=A) (w:=w1) (m:=A.m2) (o:=o2) (.inr (.inl rfl))));clear Uv H1 F1 c5 kE;generalize World.bK w1 A.m2 o2=w2 at H2 F2 ⊢))
 obtain ⟨a,cap,ev⟩:=aE H2.out.recs
 obtain ⟨o3,Uc,hm3⟩:=(H2.out.rc.heap (w':=w2.drew) rfl).update pe Tryz.underlying75 c (.int .i64 (S.recs.length:Nat))
 have H3:=aa ((H2.out.heap (w':=w2.drew) rfl).Tb (f:=fun y=>if y=c then some S.recs.length else S.rc y) (cast (congrArg _ (funext fun y=>by by_cases e:y=c<;>simp [e])) hm3))
 have F3:=aa (F2.out.trans (Fr.drew.trans (Fr.bK (A:=A) (w:=w2.drew) (m:=A.m3) (o:=o3) (.inr (.inr rfl)))))
 have W5:=H2.out.c.2.2.2.2.2.2.2.1
 have c9:=H2.out.c.2.2.2.2.2.2.1
 rw [ev] at c9
 replace ev:=aa ev
 clear hm3 H2 F2
 go_region
 clear Uc W5 c9
 generalize World.bK w2.drew A.m3 o3=w3 at H3 F3 ⊢
 have c9:=H3.out.c.2.2.2.2.2.2.1
 rw [ev.out] at c9
 have Ig:=H3.out.c.2.2.2.2.2.2.2.2.1
 have f9:=H3.out.z 9
 simp only at Ig
 have hcB:=H3.out.big
 obtain ⟨S01,S02⟩:w3.drew.cell? ⟨A.hb,9,none⟩=some (.slice a S.recs.length cap)/\w3.drew.cell? ⟨A.hb,11,none⟩=some (.int .i64 S.clock):=⟨c9,Ig⟩
 have S1:∀o,(w3.drew.alloc o).cell? ⟨A.hb,9,none⟩=some (.slice a S.recs.length cap)/\(w3.drew.alloc o).cell? ⟨A.hb,11,none⟩=some (.int .i64 S.clock):=fun o=>⟨(N_ w3.drew o none).cell (a:=⟨A.hb,9,none⟩) c9 (by simp),(N_ w3.drew o none).cell (a:=⟨A.hb,11,none⟩) Ig (by simp)⟩
 have S11:=fun o=>(S1 o).1
 have S12:=fun o=>(S1 o).2
 have S13:∀o,(w3.alloc o).drew.cell? ⟨A.hb,9,none⟩=some (.slice a S.recs.length cap):=S11
 have S14:∀o,(w3.alloc o).drew.cell? ⟨A.hb,11,none⟩=some (.int .i64 S.clock):=S12
 have S15:∀o,(w3.alloc o).cell? ⟨A.hb,9,none⟩=some (.slice a S.recs.length cap):=S11
 have iw:∀o,(w3.drew.alloc o).ownsRow A.B 44 7 (.slice a S.recs.length cap) S.recs.length (cj S.recs):=fun o=>(ev.out▸(H3.out.heap (w':=w3.drew) rfl).recs).alloc o
 have hne:some A.hb≠(mN a S.recs.length cap).ownBlock:=fun e=>by
  have h1:=(ev.out▸H3.out.recs.lt) A.hb e.symm
  have h2:=H3.out.ok.hb
  omega
 have S2f:∀o w5,(w3.drew.alloc o).grownBy w5 (mN a S.recs.length cap).ownBlock->(w5.cell? ⟨A.hb,9,none⟩=some (.slice a S.recs.length cap)/\w5.cell? ⟨A.hb,11,none⟩=some (.int .i64 S.clock)):=fun o w5 hg=>⟨hg.cell (S1 o).1 hne,hg.cell (S1 o).2 hne⟩
 have F2f:∀o w5,(w3.drew.alloc o).grownBy w5 (mN a S.recs.length cap).ownBlock->w5.frozen? ⟨A.hb,9,none⟩=false:=fun o w5 hg=>by
  have h2:=H3.out.ok.hb
  rw [m_ (hg.block A.hb (by rw [B_];show A.hb<w3.heap.size+1;omega) hne),m_ ((N_ w3.drew o none).block A.hb (by show A.hb<w3.heap.size;omega) (by simp))]
  exact f9
 have ub:∀o,A.B<=(w3.drew.alloc o).heap.size:=fun o=>D_ hcB (N_ w3.drew o none).size
 obtain ⟨i0,hi,tX,rm,uF⟩:=info_parts EA
 have oJ:=aa (show IntKind.i64.wrap ((l:Int)+1)=(l:Int)+1 from IntWalk.i64_in _ (by omega))
 go_wp2
 go_region_law
  ((refine step_append_lies _ (by rfl) _ _ _ (by rfl) A.B 44 i0 _ 7 64 Tryz.underlying37 hi tX rm uF rfl (by decide) _ S.recs.length _ (by rfl) (iw _) ⟨w3.heap.size,0,none⟩ 1 1 (kT S c l).cells (by rfl) (by rfl) (fY w3.drew _ _ (by rw [oJ.out];rfl)) (by intro u hu;simp [Rec.cells,kT] at hu;rcases hu with rfl|rfl|rfl|rfl|rfl|rfl|rfl<;>rfl) (by omega) (by unfold maxLen;omega) (by omega) (ub _) (w3.heap.size+1) (B_ ..) ?_;intro gg aEg w5 jl kh iP mR;obtain ⟨S2,S3⟩:=S2f _ _ kh;have f5:=F2f _ _ kh))
 all_goals
  go_end0
  have hp:=((H3.out.heap (w':=w3.drew) rfl).alloc _).TF (r:=kT S c l) (ev.out▸kh) jl
  exact ⟨rfl,⟨_,hp.1⟩,F3.out.trans (Fr.drew.trans ((Fr.alloc (w:=w3.drew) hcB _).trans hp.2))⟩
variable {α β:Type}
theorem sK (f:α->List β) (m:Nat) (hm:∀x,(f x).length=m):∀(xs:List α) (i k:Nat) (hi:i<xs.length) (hk:k<m) (v:β) (x':α),f x'=(f xs[i]).set k v->(xs.set i x').flatMap f=(xs.flatMap f).set (i * m+k) v:=by
 intro xs
 induction xs with
 |nil=>intro i k hi;simp at hi
 |cons x xs ih=>
  intro i k hi hk v x' h
  cases i with
  |zero=>
   simp only [List.set_cons_zero,List.flatMap_cons,Nat.zero_mul,Nat.zero_add]
   rw [List.set_append_left _ _ (by rw [hm];exact hk),h]
   rfl
  |succ i=>
   simp only [List.set_cons_succ,List.flatMap_cons]
   rw [List.set_append_right _ _ (by rw [hm,Nat.succ_mul];omega),ih i k (by simpa using hi) hk v x' (by simpa using h),hm]
   congr 2
   rw [Nat.succ_mul];omega
theorem jr (f:α->List β) (m:Nat) (hm:∀x,(f x).length=m):∀(xs:List α) (i k:Nat) (hi:i<xs.length) (hk:k<m),(xs.flatMap f)[i * m+k]?=(f xs[i])[k]?:=by
 intro xs
 induction xs with
 |nil=>intro i k hi;simp at hi
 |cons x xs ih=>
  intro i k hi hk
  cases i with
  |zero=>
   simp only [List.flatMap_cons,Nat.zero_mul,Nat.zero_add]
   rw [List.getElem?_append_left (by rw [hm];exact hk)]
   rfl
  |succ i=>
   simp only [List.flatMap_cons]
   rw [List.getElem?_append_right (by rw [hm,Nat.succ_mul];omega),hm]
   rw [show (i+1) * m+k - m=i * m+k by rw [Nat.succ_mul];omega,ih i k (by simpa using hi) hk]
   rfl
theorem aQ.pQ (h:aQ A S vw vb vr va vt w) {g cap:Nat} (hv:vr=.slice (some ⟨g,0,none⟩) S.recs.length cap) (hi:i<S.recs.length) (hk:k<7):w.cell? ⟨g,i * 7+k,none⟩=(S.recs[i]).cells[k]?/\w.frozen? ⟨g,i * 7+k,none⟩=false:=by
 have ho:=h.recs
 rw [hv] at ho
 exact ⟨(ho.cellAt _ (by omega)).trans (jr Rec.cells 7 (fun _=>rfl) _ _ _ hi hk),ho.frozenAt _⟩
theorem aQ.Ac (h:aQ A S vw vb vr va vt w) {g cap:Nat} (hv:vr=.slice (some ⟨g,0,none⟩) S.recs.length cap) (hi:i<S.recs.length) (hk:k<7) {v:M'} {r:Rec} (hr:r.cells=(S.recs[i]).cells.set k v):
 aQ A {S with recs:=S.recs.set i r} vw vb vr va vt (w.setCell ⟨g,i * 7+k,none⟩ v)/\Fr A w (w.setCell ⟨g,i * 7+k,none⟩ v):=by
 have ho:=h.recs
 have hg:=(ho.lt g (by rw [hv];rfl)).1
 have hs:∀yD,yD≠g->(w.setCell ⟨g,i * 7+k,none⟩ v).heap[yD]?=w.heap[yD]?:=fun yD ig=>a_ w ⟨g,i * 7+k,none⟩ yD v ig
 have lo:∀yD,yD<A.B->(w.setCell ⟨g,i * 7+k,none⟩ v).heap[yD]?=w.heap[yD]?:=fun yD ig=>hs _ (by omega)
 have Ky:w.grownBy (w.setCell ⟨g,i * 7+k,none⟩ v) vr.ownBlock:=⟨rfl,rfl,rfl,by simp,fun j _ hj=>hs j (fun e=>hj (by rw [e,hv];rfl))⟩
 refine ⟨⟨h.ok,by simpa using h.big, ?_,fun j hj=>(J_ (lo _ h.ok.lb)).trans (h.lines j hj),h.on.block (lo _ h.ok.m1),h.of.block (lo _ h.ok.m2),h.rc.block (lo _ h.ok.m3),bU h.wait ho (by decide) Ky,bU h.back ho (by decide) Ky, ?_,bU h.log ho (by decide) Ky,bU h.cg ho (by decide) Ky,h.apart⟩,rfl,rfl,rfl,by simp,fun j hj _ _ _ _=>lo j hj⟩
 ·rw [lo _ h.ok.hb];exact h.box
 ·rw [hv] at ho ⊢
  have:=(ho.stored (i * 7+k) v).1
  simpa [cj,sK Rec.cells 7 (fun _=>rfl) _ _ _ hi hk v r hr] using this
variable {P:U'} {kt:Q'} {ops:Array y_} {a:Act} {Q:Exit->Act->J'->Prop} {E:Prop}
open Classical in
theorem wJ {K:Type} {enc:K->M'} {f:K->Option M'} {et:Q'} {o:y_} {K':Act->J'->Prop} (Q4:o.guard=none) (m x:Operand) (t Qh:Q') (hop:o.op=Op.call {callee:=Callee.builtin Builtin.delete,args:=#[m,x],argTypes:=#[t,Qh]}) (hK:Keys P kt enc) (ht:P.underlying t=some (.map kt et)) (b:Nat) (hm:a.eval m=.map (some b)) (h:ed w b enc f) (k:K) (hx:a.eval x=enc k)
 (hk:∀ob,ed (World.bK w b ob) b enc (fun x=>if x=k then none else f x)->K' (a.put o.dst (.tuple #[])) (World.bK w b ob)):if U_ o (yielded ops a.tmps)=true then Oper.wp P o a w K' Q else E:=by
 have hw:U_ o (yielded ops a.tmps)=true:=by simp [U_,Q4]
 rw [if_pos hw]
 obtain ⟨ob,hrun,h2⟩:=h.delete hK ht k o.type Qh
 unfold Oper.wp
 simp [V',hop,resolve,invoke,builtin,hm,hx,hrun,Result.andThen]
 exact hk ob h2
structure nc (A:Ha) (row:Option Nat) (w w':J'):Prop where
 size:w.heap.size<=w'.heap.size
 block:∀i,i<w.heap.size->i≠A.hb->i≠A.m1->i≠A.m2->i≠A.m3->some i≠row->w'.heap[i]?=w.heap[i]?
theorem nc.trans {row:Option Nat} {a b c:J'} (h:nc A row a b) (k:nc A row b c):nc A row a c:=⟨D_ h.size k.size,fun i hi h1 h2 h3 h4 h5=>(k.block i (E_ hi h.size) h1 h2 h3 h4 h5).trans (h.block i hi h1 h2 h3 h4 h5)⟩
theorem nc.same {row:Option Nat} (h:w'.heap=w.heap):nc A row w w':=⟨by rw [h];exact C_ _,fun _ _ _ _ _ _ _=>by rw [h]⟩
theorem nc.bK {row:Option Nat} {o:Obj} (hm:m=A.m1\/m=A.m2\/m=A.m3):nc A row w (World.bK w m o):=⟨by rw [jT];exact C_ _,fun i _ _ h1 h2 h3 _=>bG (by rcases hm with rfl|rfl|rfl<;>assumption)⟩
theorem nc.setCell {row:Option Nat} {g o:Nat} {v:M'} (hg:row=some g):nc A row w (w.setCell ⟨g,o,none⟩ v):=⟨by simp,fun i _ _ _ _ _ h=>a_ w ⟨g,o,none⟩ i v (fun e=>h (by rw [hg,show i=g from e]))⟩
def uk (S:Hs) (c:Int) (x i:Nat) (r:Rec) (q:Bs):Hs:={S with on:=fun y=>if y=x then none else S.on y,of:=fun y=>if y=c then none else S.of y,recs:=S.recs.set i {r with wI:=S.clock,fin:=q}}
variable {x:Nat}
theorem um (h:aQ A S vw vb vr va vt w) {c:Int} (kE:S.of c=some x) (mj:S.rc c=some i) (hi:i<S.recs.length) (hr:S.recs.length<=100000) {q:Bs} (hW:Fr A W0 w):
 d_ p_ 135 #[.pointer (some ⟨A.hb,0,none⟩),.int .i64 c,.string ⟨q.toArray⟩] w fun e w'=>e=.returned (.tuple #[])/\aQ A (uk S c x i S.recs[i] q) vw vb vr va vt w'/\Fr A W0 w'/\nc A vr.ownBlock w w':=by
 have c4:=h.c.2.1
 have c5:=h.c.2.2.1
 have b9:=h.on.heap (w':=w.drew) rfl
 have Sy:Sem.run p_ (Instr.lookup 72 (Value.map (some A.m2)) (ah IntKind.i64 c) false) w.drew=.ok (.chan (some x)) w.drew:=by
  have:=(h.of.heap (w':=w.drew) rfl).lookup pe Tryz.underlying72 c (z:=.chan none) (fun w=>qQ w) false
  rw [kE] at this;exact this
 have H:=aa h
 have HW:=aa hW
 clear h hW
 go_enter func135,ntmps135
 go_wp2
 go_region_law ((refine wJ (by rfl) _ _ 71 78 (by rfl) zo Tryz.underlying71 A.m1 (by rfl) b9 x (by rfl) ?_;intro o1 Nh))
 all_goals
  have H1:=aa ((H.out.heap (w':=w.drew) rfl).N9 (f:=fun y=>if y=x then none else S.on y) (cast (congrArg _ (funext fun y=>by by_cases e:y=x<;>simp [e])) Nh))
  have F1:=aa (HW.out.trans (Fr.drew.trans (Fr.bK (A:=A) (w:=w.drew) (m:=A.m1) (o:=o1) (.inl rfl))))
  have A1:f_ (nc A vr.ownBlock w (World.bK w.drew A.m1 o1)):=(nc.same (w:=w) (w':=w.drew) rfl).trans (nc.bK (.inl rfl))
  clear Nh c4 c5 b9 Sy H HW
  generalize World.bK w.drew A.m1 o1=w1 at H1 F1 A1 ⊢
  have c5:=H1.out.c.2.2.1
  have Un:=H1.out.of
  go_wp2_with (first
   |(at_delete;refine sZ _ rfl _ _ 72 3 rfl pe Tryz.underlying72 A.m2 rfl Un c rfl ?_;intro o2 Uv;have H2:=aa (H1.out.setOf (f:=fun y=>if y=c then none else S.of y) (cast (congrArg _ (funext fun y=>by by_cases e:y=c<;>simp [e])) Uv));have F2:=aa (F1.out.trans (Fr.bK (A:=A) (w:=w1) (m:=A.m2) (o:=o2) (.inr (.inl rfl))));have A2:f_ (nc A vr.ownBlock w (World.bK w1 A.m2 o2)):=A1.out.trans (nc.bK (.inr (.inl rfl)));clear Uv H1 F1 A1 c5 Un;generalize World.bK w1 A.m2 o2=w2 at H2 F2 A2 ⊢))
  obtain ⟨g,cap,cur,ev,_⟩:=cz H2.out.recs (Nat.lt_of_le_of_lt (nz _) hi)
  have ev:=aa ev
  refine (jL H2.out mj hi ev.out hr).mono ?_
  rintro e w3 ⟨rfl,hh,F3⟩
  have H3:=aa (H2.out.heap hh)
  have F3':=aa (F2.out.trans F3)
  have A3:=aa (A2.out.trans (nc.same hh))
  clear F3 F2 H2 A2 hh
  have Ig:=H3.out.c.2.2.2.2.2.2.2.2.1
  simp only at Ig
  obtain ⟨x1,x2⟩:=H3.out.pQ ev.out hi (k:=5) (by decide)
  have H4:=H3.out.Ac ev.out hi (k:=5) (by decide) (v:=.int .i64 S.clock) (r:={S.recs[i] with wI:=S.clock}) rfl
  obtain ⟨x3,x4⟩:=H4.1.pQ (i:=i) (g:=g) (cap:=cap) (by rw [ev.out];simp) (by simpa using hi) (k:=6) (by decide)
  have H5:=H4.1.Ac (i:=i) (g:=g) (cap:=cap) (by rw [ev.out];simp) (by simpa using hi) (k:=6) (by decide) (v:=.string ⟨q.toArray⟩) (r:={S.recs[i] with wI:=S.clock,fin:=q}) (by simp [Rec.cells])
  replace H5:=aa (And.intro H5.1 (F3'.out.trans (H4.2.trans H5.2)))
  simp [Rec.cells] at x1 x3
  clear H4 F3' H3
  go_wp2
  go_end0
  have h6:=H5.out
  simp only [List.set_set] at h6
  have hro:vr.ownBlock=some g:=by rw [ev.out];rfl
  exact ⟨rfl,h6.1,h6.2,A3.out.trans ((nc.setCell hro).trans (nc.setCell hro))⟩
end
end Go.aC.Of
namespace Go.Proofs
section
open Go.Shelf
def Tryz.AJ:Go.Shelf.Ren:=⟨fun|171=>131|243=>142|246=>145|283=>147|284=>148|285=>149|286=>150|129=>152|317=>151|318=>153|319=>154|320=>155|337=>156|338=>157|n=>n,fun|3=>3|9=>9|2=>2|4=>4|171=>178|0=>0|53=>103|37=>42|5=>5|173=>181|212=>184|51=>106|20=>20|213=>185|46=>134|232=>189|233=>190|n=>n,fun|17=>0|18=>1|19=>2|n=>n⟩
theorem Tryz.JO:Go.Proofs.LaysM.n171 p_ Tryz.AJ:={
 mixed:=by kernel_rfl
 f129:=func152.trans (congrArg some (by kernel_rfl))
 f171:=func131.trans (congrArg some (by kernel_rfl))
 f243:=func142.trans (congrArg some (by kernel_rfl))
 f246:=func145.trans (congrArg some (by kernel_rfl))
 f283:=func147.trans (congrArg some (by kernel_rfl))
 f284:=func148.trans (congrArg some (by kernel_rfl))
 f285:=func149.trans (congrArg some (by kernel_rfl))
 f286:=func150.trans (congrArg some (by kernel_rfl))
 f317:=func151.trans (congrArg some (by kernel_rfl))
 f318:=func153.trans (congrArg some (by kernel_rfl))
 f319:=func154.trans (congrArg some (by kernel_rfl))
 f320:=func155.trans (congrArg some (by kernel_rfl))
 f337:=func156.trans (congrArg some (by kernel_rfl))
 f338:=func157.trans (congrArg some (by kernel_rfl))
 t0:=Tryz.underlying0
 a0:=Tryz.isAgg0
 z0:=Tryz.sizeOf0
 v0:=Tryz.zeroValue0
 t2:=Tryz.underlying2
 a2:=Tryz.isAgg2
 z2:=Tryz.sizeOf2
 v2:=Tryz.zeroValue2
 t3:=Tryz.underlying3
 a3:=Tryz.isAgg3
 z3:=Tryz.sizeOf3
 v3:=Tryz.zeroValue3
 t4:=Tryz.underlying4
 a4:=Tryz.isAgg4
 z4:=Tryz.sizeOf4
 v4:=Tryz.zeroValue4
 t5:=Tryz.underlying5
 a5:=Tryz.isAgg5
 z5:=Tryz.sizeOf5
 v5:=Tryz.zeroValue5
 t9:=Tryz.underlying9
 a9:=Tryz.isAgg9
 z9:=Tryz.sizeOf9
 v9:=Tryz.zeroValue9
 t20:=Tryz.underlying20
 a20:=Tryz.isAgg20
 z20:=Tryz.sizeOf20
 v20:=Tryz.zeroValue20
 t37:=Tryz.underlying42
 a37:=Tryz.isAgg42
 z37:=Tryz.sizeOf42
 v37:=Tryz.zeroValue42
 t46:=Tryz.underlying134
 a46:=Tryz.isAgg134
 z46:=Tryz.sizeOf134
 v46:=Tryz.zeroValue134
 t51:=Tryz.underlying106
 a51:=Tryz.isAgg106
 z51:=Tryz.sizeOf106
 v51:=Tryz.zeroValue106
 t53:=Tryz.underlying103
 a53:=Tryz.isAgg103
 z53:=Tryz.sizeOf103
 v53:=Tryz.zeroValue103
 t171:=Tryz.underlying178
 a171:=Tryz.isAgg178
 z171:=Tryz.sizeOf178
 v171:=Tryz.zeroValue178
 t173:=Tryz.underlying181
 a173:=Tryz.isAgg181
 z173:=Tryz.sizeOf181
 v173:=Tryz.zeroValue181
 t212:=Tryz.underlying184
 a212:=Tryz.isAgg184
 z212:=Tryz.sizeOf184
 v212:=Tryz.zeroValue184
 t213:=Tryz.underlying185
 a213:=Tryz.isAgg185
 z213:=Tryz.sizeOf185
 t232:=Tryz.underlying189
 a232:=Tryz.isAgg189
 z232:=Tryz.sizeOf189
 v232:=Tryz.zeroValue189
 t233:=Tryz.underlying190
 a233:=Tryz.isAgg190
 z233:=Tryz.sizeOf190
 v233:=Tryz.zeroValue190
 g17:=by kernel_rfl
 g18:=by kernel_rfl
 g19:=by kernel_rfl
 i0:=by kernel_rfl
 i2:=by kernel_rfl
 i3:=by kernel_rfl
 i4:=by kernel_rfl
 i5:=by kernel_rfl
 i9:=by kernel_rfl
 i20:=by kernel_rfl
 i37:=by kernel_rfl
 i46:=by kernel_rfl
 i51:=by kernel_rfl
 i53:=by kernel_rfl
 i171:=by kernel_rfl
 i173:=by kernel_rfl
 i212:=by kernel_rfl
 i232:=by kernel_rfl
 i233:=by kernel_rfl
 m17:=by kernel_rfl
 m18:=by kernel_rfl
 m19:=by kernel_rfl}
open Go.RowKit Go.Sort Go.Lib in
theorem Tryz.strconv_Itoa (n:Int) (h0: -9223372036854775808<=n) (h1:n<=9223372036854775807) (w:J') (sr:Lib.TabIs p_ w "internal/strconv.uint64pow10" .u64 Lib.pow10Tab):
 d_ p_ 131 #[.int .i64 n] w fun e w'=>e=.returned (.string ⟨(L_ n).toArray⟩)/\∃k os,w'=grow (w.drewN k) os:=Any.strconv_Itoa Tryz.JO n h0 h1 w sr
def Tryz.Ox:Go.Shelf.Ren:=⟨fun|171=>131|243=>142|246=>145|283=>147|284=>148|285=>149|286=>150|129=>152|317=>151|318=>153|319=>154|320=>155|337=>156|338=>157|n=>n,fun|3=>3|9=>9|2=>2|4=>4|171=>178|0=>0|53=>103|37=>42|5=>5|173=>181|212=>184|51=>106|20=>20|213=>185|46=>134|232=>189|233=>190|n=>n,fun|17=>0|18=>1|19=>2|n=>n⟩
open Go.RowKit Go.Sort Go.Lib in
def Tryz.Cv:Go.Shelf.Ren:=⟨fun|108=>132|n=>n,fun|28=>26|3=>3|0=>0|4=>4|n=>n,fun|n=>n⟩
theorem Tryz.FM:Go.Proofs.Lays.n108 p_ Tryz.Cv:={
 mixed:=by kernel_rfl
 f108:=func132.trans (congrArg some (by kernel_rfl))
 t0:=Tryz.underlying0
 a0:=Tryz.isAgg0
 z0:=Tryz.sizeOf0
 v0:=Tryz.zeroValue0
 t3:=Tryz.underlying3
 a3:=Tryz.isAgg3
 z3:=Tryz.sizeOf3
 v3:=Tryz.zeroValue3
 t4:=Tryz.underlying4
 a4:=Tryz.isAgg4
 z4:=Tryz.sizeOf4
 v4:=Tryz.zeroValue4
 t28:=Tryz.underlying26
 a28:=Tryz.isAgg26
 z28:=Tryz.sizeOf26
 v28:=Tryz.zeroValue26}
open Go.Lib in
theorem Tryz.slices_Index_int (b off n c:Nat) (zs:List Int) (x:Int) (w:J') (hz:n<=zs.length) (CW:n<=9223372036854775807) (hc:∀j,j<zs.length->w.cell? ⟨b,off+j,none⟩=some (.int .i64 (zs.getD j 0))):
 d_ p_ 132 #[.slice (some ⟨b,off,none⟩) n c,.int .i64 x] w fun e w'=>e=.returned (.int .i64 (Lib.idxOf (zs.take n) x))/\w'=w:=Any.slices_Index_int Tryz.FM b off n c zs x w hz CW hc
open Go.Lib in
theorem Tryz.slices_Index_int_empty (a:Option z_) (c:Nat) (x:Int) (w:J'):
 d_ p_ 132 #[.slice a 0 c,.int .i64 x] w fun e w'=>e=.returned (.int .i64 (Lib.idxOf [] x))/\w'=w:=Any.slices_Index_int_empty Tryz.FM a c x w
def Tryz.Cw:Go.Shelf.Ren:=⟨fun|107=>127|108=>132|n=>n,fun|28=>26|3=>3|4=>4|0=>0|n=>n,fun|n=>n⟩
theorem Tryz.FN:Go.Proofs.Lays.n107 p_ Tryz.Cw:={
 mixed:=by kernel_rfl
 f107:=func127.trans (congrArg some (by kernel_rfl))
 f108:=func132.trans (congrArg some (by kernel_rfl))
 t0:=Tryz.underlying0
 a0:=Tryz.isAgg0
 z0:=Tryz.sizeOf0
 v0:=Tryz.zeroValue0
 t3:=Tryz.underlying3
 a3:=Tryz.isAgg3
 z3:=Tryz.sizeOf3
 v3:=Tryz.zeroValue3
 t4:=Tryz.underlying4
 a4:=Tryz.isAgg4
 z4:=Tryz.sizeOf4
 v4:=Tryz.zeroValue4
 t28:=Tryz.underlying26
 a28:=Tryz.isAgg26
 z28:=Tryz.sizeOf26
 v28:=Tryz.zeroValue26}
open Go.Lib in
theorem Tryz.slices_Contains_int (b off n c:Nat) (zs:List Int) (x:Int) (w:J') (hz:n<=zs.length) (CW:n<=9223372036854775807) (hc:∀j,j<zs.length->w.cell? ⟨b,off+j,none⟩=some (.int .i64 (zs.getD j 0))):
 d_ p_ 127 #[.slice (some ⟨b,off,none⟩) n c,.int .i64 x] w fun e w'=>e=.returned (.bool ((zs.take n).contains x))/\w'=w:=Any.slices_Contains_int Tryz.FN b off n c zs x w hz CW hc
open Go.Lib in
theorem Tryz.slices_Contains_int_empty (a:Option z_) (c:Nat) (x:Int) (w:J'):
 d_ p_ 127 #[.slice a 0 c,.int .i64 x] w fun e w'=>e=.returned (.bool false)/\w'=w:=Any.slices_Contains_int_empty Tryz.FN a c x w
def Tryz.yA:Go.Shelf.Ren:=⟨fun|23=>133|n=>n,fun|22=>26|3=>3|4=>4|0=>0|n=>n,fun|n=>n⟩
theorem Tryz.Hq:Go.Proofs.Lays2.n23 p_ Tryz.yA:={
 mixed:=by kernel_rfl
 f23:=func133.trans (congrArg some (by kernel_rfl))
 t0:=Tryz.underlying0
 a0:=Tryz.isAgg0
 z0:=Tryz.sizeOf0
 v0:=Tryz.zeroValue0
 t3:=Tryz.underlying3
 a3:=Tryz.isAgg3
 z3:=Tryz.sizeOf3
 v3:=Tryz.zeroValue3
 t4:=Tryz.underlying4
 a4:=Tryz.isAgg4
 z4:=Tryz.sizeOf4
 v4:=Tryz.zeroValue4
 t22:=Tryz.underlying26
 a22:=Tryz.isAgg26
 z22:=Tryz.sizeOf26
 v22:=Tryz.zeroValue26
 i3:=by kernel_rfl}
open Go.RowKit Go.Lib Go.Sort in
open Go.RowKit Go.Lib Go.Sort in
theorem Tryz.slices_Delete_int_cells (b off n c i j:Nat) (zs:List Int) (w:J') (hz:n<=zs.length) (lJ:n<=c) (hm:c<=9223372036854775807) (vG:i<=j) (hj:j<=n) (hc:∀j,j<zs.length->w.cell? ⟨b,off+j,none⟩=some (.int .i64 (zs.getD j 0))) (hf:∀j,j<n->w.frozen? ⟨b,off+j,none⟩=false):
 d_ p_ 133 #[.slice (some ⟨b,off,none⟩) n c,.int .i64 i,.int .i64 j] w fun e w'=>e=.returned (.slice (some ⟨b,off,none⟩) (n - (j - i)) c)/\∃q,w'=(w.drewN q).setCells b off (((zs.take n).take i++(zs.take n).drop j++List.replicate (j - i) 0).map (ah .i64)):=Any.slices_Delete_int_cells Tryz.Hq b off n c i j zs w hz lJ hm vG hj hc hf
end
end Go.Proofs
namespace Go.aC.Of
section
open Go Go.Conc Go.Conc.Lib Go.ConcR Go.ConcR.Gen Go.aC Go.Proofs
open Go.RowKit hiding Hid
open Go.ConcN (upd upd_ne upd_same)
theorem Gy (b:Nat):∀(vs:List M') (o:Nat) (w:J') (i:Nat),i≠b->(w.setCells b o vs).heap[i]?=w.heap[i]?
 |[],_,_,_,_=>rfl
 |v::r,o,w,i,h=>by
  rw [World.setCells,Gy b r (o+1) _ i h]
  exact a_ w ⟨b,o,none⟩ i v h
theorem fv (b:Nat) {t:Q'}:∀(vs:List M') (o:Nat) (w:J') (cur:Array M'),w.heap[b]?=some (.cells cur t (0,0))->o+vs.length<=cur.size->∃yR,(w.setCells b o vs).heap[b]?=some (.cells yR t (0,0))/\yR.size=cur.size/\yR.toList=cur.toList.take o++vs++cur.toList.drop (o+vs.length)
 |[],o,w,cur,h,_=>⟨cur,h,rfl,by simp⟩
 |v::r,o,w,cur,h,hl=>by
  simp only [List.length_cons] at hl
  obtain ⟨yR,h1,h2,h3⟩:=fv b r (o+1) (w.setCell ⟨b,o,none⟩ v) (cur.setIfInBounds o v) (b_ w b o cur t v h) (by simp;omega)
  refine ⟨yR,h1,by simpa using h2, ?_⟩
  rw [h3,Array.toList_setIfInBounds]
  have ho:o<cur.toList.length:=by simp;omega
  rw [List.take_set,List.drop_set_of_lt (by omega),sC ho,List.set_append_right _ _ (by simp;omega)]
  simp only [Q_,Nat.min_eq_left (Nat.le_of_lt ho),Nat.sub_self,List.set_cons_zero,List.length_cons,List.append_assoc,List.cons_append,List.nil_append]
  rw [show o+1+r.length=o+(r.length+1) by omega]
theorem fq (b:Nat):∀(vs:List M') (o:Nat) (w:J'),(w.setCells b o vs).heap.size=w.heap.size
 |[],_,_=>rfl
 |v::r,o,w=>by rw [World.setCells,fq b r];simp
theorem bL (b:Nat):∀(vs:List M') (o:Nat) (w:J'),(w.setCells b o vs).os=w.os/\(w.setCells b o vs).tape=w.tape/\(w.setCells b o vs).output=w.output
 |[],_,_=>⟨rfl,rfl,rfl⟩
 |v::r,o,w=>by rw [World.setCells];exact bL b r (o+1) _
variable {w:J'} {B n':Nat} {xs vs:List M'}
theorem wR {e s n g cap:Nat} {ys:List M'} (h:w.ownsRow B e s (.slice (some ⟨g,0,none⟩) n cap) n xs) (hn:n'<=n) (hv:vs.length=n * s) (hy:vs.take (n' * s)=ys):
 (w.setCells g 0 vs).ownsRow B e s (.slice (some ⟨g,0,none⟩) n' cap) n' ys/\w.grownBy (w.setCells g 0 vs) (some g):=by
 refine ⟨?_,(bL g vs 0 w).1,(bL g vs 0 w).2.1,(bL g vs 0 w).2.2,Nat.le_of_eq (fq g vs 0 w).symm,fun k _ hk=>Gy g vs 0 w k (fun e=>hk (by rw [e]))⟩
 have hle:n' * s<=n * s:=Nat.mul_le_mul_right _ hn
 refine ⟨by rw [<-hy,Q_];omega, ?_⟩
 rcases h.2 with ⟨h',_⟩|⟨g',cap',cur,h',hb,hg,hc,hm,hs,ht⟩
 ·simp at h'
 ·simp only [Value.slice.injEq,n_,Addr.mk.injEq,and_true,true_and] at h'
  obtain ⟨rfl,rfl⟩:=h'
  have hcs:n * s<=cap * s:=Nat.mul_le_mul_right _ hc
  obtain ⟨yR,h1,h2,h3⟩:=fv g vs 0 w cur hg (by omega)
  refine .inr ⟨g,cap,yR,rfl,hb,h1,by omega,hm,by omega, ?_⟩
  rw [h3,List.take_zero,List.nil_append,List.take_append_of_le_length (by omega),hy]
variable {n g cap:Nat}
variable {i:Nat}
theorem Gt {zs:List Int} (h:w.ownsRow B 3 1 (.slice (some ⟨g,0,none⟩) zs.length cap) zs.length (zs.map (ah .i64))) (hi:i<zs.length):
 d_ p_ 133 #[.slice (some ⟨g,0,none⟩) zs.length cap,.int .i64 (i:Nat),.int .i64 ((i+1:Nat):Int)] w fun e w'=>e=.returned (.slice (some ⟨g,0,none⟩) (zs.length - 1) cap)/\w'.ownsRow B 3 1 (.slice (some ⟨g,0,none⟩) (zs.eraseIdx i).length cap) (zs.eraseIdx i).length ((zs.eraseIdx i).map (ah .i64))/\w.grownBy w' (some g):=by
 obtain ⟨g',cap',cur,h',hb,hg,hc,hm,hs,ht⟩:=cz h (by omega)
 simp only [Value.slice.injEq,n_,Addr.mk.injEq,and_true,true_and] at h'
 obtain ⟨rfl,rfl⟩:=h'
 refine (Tryz.slices_Delete_int_cells g 0 zs.length cap i (i+1) zs w (C_ _) hc (by unfold maxLen at hm;omega) (by omega) hi ?_ ?_).mono ?_
 ·intro j hj
  rw [Nat.zero_add,h.cellAt j (by omega)]
  simp [List.getElem?_map,G_ hj,List.getD_eq_getElem?_getD]
 ·intro j _
  rw [Nat.zero_add];exact h.frozenAt j
 ·rintro e w' ⟨rfl,q,rfl⟩
  refine ⟨by rw [show i+1 - i=1 by omega], ?_⟩
  have hl:(zs.eraseIdx i).length=zs.length - 1:=by rw [List.length_eraseIdx];simp [hi]
  have hh:(w.drewN q).ownsRow B 3 1 (.slice (some ⟨g,0,none⟩) zs.length cap) zs.length (zs.map (ah .i64)):=h
  have:=wR (n':=zs.length - 1) hh (by omega) (vs:=((zs.take zs.length).take i++(zs.take zs.length).drop (i+1)++List.replicate (i+1 - i) 0).map (ah .i64)) (by simp;omega) (ys:=(zs.eraseIdx i).map (ah .i64)) (by
   rw [<-List.map_take]
   congr 1
   rw [List.take_length,List.eraseIdx_eq_take_drop_succ,List.take_append_of_le_length (by simp;omega)]
   exact List.take_of_length_le (by simp;omega))
  rw [hl]
  exact ⟨this.1,this.2.os,this.2.tape,this.2.output,this.2.size,this.2.block⟩
theorem bV:∀ws:List (Int × Int),(ax ws).length=ws.length * 2
 |[]=>rfl
 |a::l=>by
  show ([ah .i64 a.1,ah .i64 a.2]++ax l).length=(l.length+1) * 2
  rw [K_,bV l];simp;omega
theorem oc (b:Nat) (ys:List M'):∀(xs:List M') (o:Nat) (w:J'),w.setCells b o (xs++ys)=(w.setCells b o xs).setCells b (o+xs.length) ys
 |[],o,w=>rfl
 |x::r,o,w=>by
  rw [List.cons_append,World.setCells,World.setCells,oc b ys r (o+1) _,List.length_cons,show o+1+r.length=o+(r.length+1) by omega]
theorem Pj (z:M') (n:Nat):(Builtin.zeroCells #[z,z] n).toList=List.replicate (n * 2) z:=by
 simp [Builtin.zeroCells]
 apply List.ext_getElem
 ·simp<;>omega
 ·intro i h1 h2
  simp
  rcases Nat.mod_two_eq_zero_or_one i with h|h<;>simp [h]
variable {P:U'}
theorem wN (w:J') (t e ty:Q') (z:M') (ht:P.underlying t=some (.slice e)) (hv:∀w,∃zz,(zeroValue e).run P w=.ok zz w/\zz.cells=#[z,z]) (h1:z.oneCell'=true) (b o n c:Nat) (hn:0<n)
 (hc:∀j,j<n * 2->(w.cell? ⟨b,o+j,none⟩).isSome=true) (hf:∀j,j<n * 2->w.frozen? ⟨b,o+j,none⟩=false):
 (Builtin.clear_ #[t] ty #[.slice (some ⟨b,o,none⟩) n c]).run P w=.ok (.tuple #[]) (w.setCells b o (List.replicate (n * 2) z)):=by
 obtain ⟨zz,tX,hz⟩:=hv w
 have hzc:(Builtin.zeroCells zz.cells n).toList=List.replicate (n * 2) z:=by rw [hz];exact Pj z n
 have hst:=run_storeCells_cells (P:=P) b o (List.replicate (n * 2) z) 0 w (by simpa using hc) (by simpa using hf) (by intro v hv';rw [List.eq_of_mem_replicate hv'];exact h1)
 simp only [Nat.add_zero] at hst
 obtain ⟨m,rfl⟩:∃m,n=m+1:=⟨n - 1,by omega⟩
 simp [Builtin.clear_,run_underlying ht,tX,hzc,hst]
theorem IG (w:J'):∃zz,(zeroValue 84).run p_ w=.ok zz w/\zz.cells=#[.int .i64 0,.int .i64 0]:=⟨_,Tryz.zeroValue84 (w:=w),rfl⟩
theorem xn:(Tryz.prog.info? 84).map (fun i=>(i.zero,i.size,i.bytes))=some (some (.agg #[.int .i64 0,.int .i64 0]),2,16):=by kernel_rfl
variable {ws:List (Int × Int)}
theorem NN {p:Int × Int} (h:w.ownsRow B 84 2 (.slice (some ⟨g,0,none⟩) (ws.length+1) cap) (ws.length+1) (ax (p::ws))):
 d_ p_ 138 #[.slice (some ⟨g,0,none⟩) (ws.length+1:Nat) cap,.int .i64 0,.int .i64 1] w fun e w'=>e=.returned (.slice (some ⟨g,0,none⟩) ws.length cap)/\w'.ownsRow B 84 2 (.slice (some ⟨g,0,none⟩) ws.length cap) ws.length (ax ws)/\w.grownBy w' (some g):=by
 obtain ⟨g',cap',cur,h',hb,hg,hc,hm,hs,ht⟩:=cz h (by omega)
 simp only [Value.slice.injEq,n_,Addr.mk.injEq,and_true,true_and] at h'
 obtain ⟨rfl,rfl⟩:=h'
 obtain ⟨news,iU⟩:∃news,news=ax ws:=⟨_,rfl⟩
 have hlen:news.length=ws.length * 2:=by rw [iU];exact bV ws
 have hcell:∀j,j<(ws.length+1) * 2->w.cell? ⟨g,j,none⟩=(ax (p::ws))[j]?:=fun j hj=>h.cellAt j hj
 have kj:∀j,w.frozen? ⟨g,j,none⟩=false:=fun j=>h.frozenAt j
 obtain ⟨A,hA,QB⟩:∃A:z_,(if cap=1 then (some ⟨g,0,none⟩:Option z_) else some ⟨g,2,none⟩)=some A/\f_ (∀t u,news[t]?=some u->w.drew.cell? (A.add t)=some u):=by
  by_cases h1:cap=1
  ·refine ⟨⟨g,0,none⟩,by simp [h1],fun t u hu=> ?_⟩
   have h0:news.length=0:=by rw [hlen];omega
   rw [List.length_eq_zero_iff.1 h0] at hu
   simp at hu
  ·refine ⟨⟨g,2,none⟩,by simp [h1],fun t u hu=> ?_⟩
   have h2:t<news.length:=(List.getElem?_eq_some_iff.1 hu).1
   rw [Addr.add_lit]
   show w.cell? _=_
   rw [hcell (2+t) (by omega),<-hu,iU]
   simp [ax,Nat.add_comm 2 t]
 have iw:news.all (fun u=>u.oneCell')=true:=by rw [iU,List.all_eq_true];intro u hu;simp [ax] at hu;obtain ⟨a,b,_,rfl|rfl⟩:=hu<;>rfl
 have s2:f_ (∀u∈news,u.oneCell'=true):=fun u hu=>List.all_eq_true.1 iw u hu
 have s3:f_ (∀t,t<news.length->(w.drew.cell? ⟨g,0+0 * 2+t,none⟩).isSome=true/\w.drew.frozen? ⟨g,0+0 * 2+t,none⟩=false):=by
  intro t Wn
  rw [Nat.zero_mul,Nat.zero_add]
  refine ⟨?_,kj t⟩
  show (w.cell? _).isSome=true
  rw [hcell t (by omega),G_ (by rw [bV];simp;omega)];rfl
 have s1:f_ (news.length=ws.length * 2):=hlen
 obtain ⟨W1,wq⟩:∃W1,W1=w.drew.setCells g (0+0 * 2) news:=⟨_,rfl⟩
 have k1:∀x,W1.cell? x=(w.drew.setCells g 0 news).cell? x:=fun x=>by rw [wq]
 have rq:∀ty,(Builtin.clear_ #[74] ty #[.slice (some ⟨g,ws.length * 2,none⟩) 1 (cap - ws.length)]).run p_ W1=.ok (.tuple #[]) (W1.setCells g (ws.length * 2) (List.replicate (1 * 2) (.int .i64 0))):=
  fun ty=>wN W1 _ _ ty _ Tryz.underlying74 IG rfl g (ws.length * 2) 1 _ (by omega) (fun t Wn=>by
   rw [k1,World.cell?_setCells_out g news 0 _ _ (fun _ _=>.inr (by rw [hlen];simp)),show w.drew.cell? _=w.cell? ⟨g,ws.length * 2+t,none⟩ from rfl,hcell _ (by omega),G_ (by rw [bV];simp;omega)];rfl) (fun t Wn=>by rw [wq,World.frozen?_setCells];exact kj _)
 have hW:f_ (W1=w.drew.setCells g (0+0 * 2) news):=wq
 have H:=aa h
 replace hlen:=aa hlen
 replace iU:=aa iU
 have lJ:(1:Int)<=(cap:Int):=by omega
 have CP:(1:Int)<=(ws.length:Int)+1:=by omega
 have L9:(ws.length:Int)+1<=(cap:Int):=by omega
 have QO:(ws.length:Int)<=(ws.length:Int)+1:=by omega
 have hn4:ws.length<=cap:=by omega
 have hn5:(0:Int)<=(ws.length:Int):=by omega
 obtain ⟨i0,qJ,tX,rm,uF⟩:=info_parts xn
 clear wq hcell kj iw k1 h hg hs ht s1
 have s1:=hlen
 go_enter func138,ntmps138
 go_wp2_with fail
 go_region_law (refine step_append_room rfl (.tmp 22) (.tmp 25) 74 rfl 84 i0 2 Tryz.underlying74 qJ rm g 0 0 cap (by simp [Act.eval,Act.put]) A ws.length (cap - 1) news (by simp [Act.eval,Act.put,hA]) s1.out QB.out s2.out (by omega) s3.out ?_;rw [<-hW.out])
 go_wp2
 go_ret
 refine ⟨rfl, ?_⟩
 have hh:w.drew.ownsRow B 84 2 (.slice (some ⟨g,0,none⟩) (ws.length+1) cap) (ws.length+1) (ax (p::ws)):=H.out
 have he:W1.setCells g (ws.length * 2) [ah .i64 0,ah .i64 0]=w.drew.setCells g 0 (news++[ah .i64 0,ah .i64 0]):=by
  rw [oc,hlen.out,hW.out]
  simp
 rw [he]
 have:=wR (n':=ws.length) hh (by omega) (vs:=news++[ah .i64 0,ah .i64 0]) (by rw [K_,hlen.out];simp;omega) (ys:=ax ws) (by
  rw [List.take_append_of_le_length (by rw [hlen.out];exact C_ _),iU.out]
  exact List.take_of_length_le (by rw [bV];exact C_ _))
 exact ⟨this.1,this.2.os,this.2.tape,this.2.output,this.2.size,this.2.block⟩
variable {A:Ha} {S:Hs} {vw vb vr va vt:M'} {w':J'}
theorem aQ.kept (h:aQ A S vw vb vr va vt w) {row:Option Nat} (hg:w.grownBy w' row) (hr:∀g,row=some g->A.B<=g)
 (h1:vw.ownBlock=none\/vw.ownBlock≠row) (h2:vb.ownBlock=none\/vb.ownBlock≠row) (h3:vr.ownBlock=none\/vr.ownBlock≠row) (h4:va.ownBlock=none\/va.ownBlock≠row) (h5:vt.ownBlock=none\/vt.ownBlock≠row):aQ A S vw vb vr va vt w':=by
 have low:∀i,i<A.B->w'.heap[i]?=w.heap[i]?:=fun i hi=>hg.block i (E_ hi h.big) (fun e=>by have:=hr i e.symm;omega)
 exact ⟨h.ok,D_ h.big hg.size,by rw [low _ h.ok.hb];exact h.box,fun i hi=>(J_ (low _ h.ok.lb)).trans (h.lines i hi),h.on.block (low _ h.ok.m1),h.of.block (low _ h.ok.m2),h.rc.block (low _ h.ok.m3),h.wait.kept hg h1,h.back.kept hg h2,h.recs.kept hg h3,h.log.kept hg h4,h.cg.kept hg h5,h.apart⟩
theorem oT (v:M'):v.ownBlock=none\/v.ownBlock≠none:=Classical.em _
theorem aQ.more (h:aQ A S vw vb vr va vt w) (hg:w.grownBy w' none):aQ A S vw vb vr va vt w':=h.kept hg (fun _ e=>by cases e) (oT _) (oT _) (oT _) (oT _) (oT _)
theorem Fr.kept (hB:A.B<=w.heap.size) {row:Option Nat} (hg:w.grownBy w' row) (hr:∀g,row=some g->A.B<=g):Fr A w w':=⟨hg.os,hg.tape,hg.output,hg.size,fun i hi _ _ _ _=>hg.block i (E_ hi hB) (fun e=>by have:=hr i e.symm;omega)⟩
theorem Bc (w:J') (k:Nat) (os:Array Obj):w.grownBy (Sort.grow (w.drewN k) os) none:=by
 refine ⟨rfl,rfl,rfl,by simp [Sort.grow,World.drewN],fun i hi _=> ?_⟩
 show (w.heap++os)[i]?=w.heap[i]?
 rw [Array.getElem?_append_left hi]
theorem sI (w:J') (row:Option Nat):w.grownBy w row:=⟨rfl,rfl,rfl,C_ _,fun _ _ _=>rfl⟩
theorem aQ.I8 (h:aQ A S vw vb vr va vt w) (n:Int):aQ A {S with clock:=n} vw vb vr va vt (w.setCell ⟨A.hb,11,none⟩ (.int .i64 n))/\Fr A w (w.setCell ⟨A.hb,11,none⟩ (.int .i64 n)):=
 h.grown (sI w none) (fun _ e=>by cases e) (k:=11) (v:=.int .i64 n) (S':={S with clock:=n}) rfl rfl rfl rfl rfl h.wait h.back h.recs h.log h.cg h.apart
theorem aQ.My (h:aQ A S vw vb vr va vt w) {v:M'} (ho:w.ownsRow A.B 84 2 v ws.length (ax ws)):aQ A {S with wait:=ws} v vb vr va vt (w.setCell ⟨A.hb,7,none⟩ v)/\Fr A w (w.setCell ⟨A.hb,7,none⟩ v):=
 h.grown (sI w none) (fun _ e=>by cases e) (k:=7) (v:=v) (S':={S with wait:=ws}) rfl rfl rfl rfl rfl ho h.back h.recs h.log h.cg h.apart
theorem aQ.Cg (h:aQ A S vw vb vr va vt w) {v:M'} {c:Int} (hg:w.grownBy w' vb.ownBlock) (ho:w'.ownsRow A.B 3 1 v (S.back.length+1) (S.back.map (ah .i64)++[.int .i64 c])) (hv:v.ownBlock=vb.ownBlock\/v.ownBlock=some w.heap.size):
 aQ A {S with back:=S.back++[c]} vw v vr va vt (w'.setCell ⟨A.hb,8,none⟩ v)/\Fr A w (w'.setCell ⟨A.hb,8,none⟩ v):=by
 have Gp:v.ownBlock=none\/v.ownBlock≠vt.ownBlock:=by
  rcases hv with e|e
  ·rw [e];exact h.apart
  ·refine .inr fun e1=> ?_
   have:=(h.cg.lt _ (e1.symm.trans e)).2
   omega
 have J8:vt.ownBlock=none\/vt.ownBlock≠vb.ownBlock:=by
  rcases h.apart with e|e
  ·rw [e];exact oT _
  ·exact .inr (ru e)
 exact h.grown hg (fun g e=>pU h.back g e) (k:=8) (v:=v) (S':={S with back:=S.back++[c]}) rfl rfl rfl rfl rfl (bU h.wait h.back (by decide) hg) (by rw [K_,List.map_append];exact ho) (bU h.recs h.back (by decide) hg) (bU h.log h.back (by decide) hg) (h.cg.kept hg J8) Gp
def Ik (A:Ha) (w:J'):Prop:=∀w',Fr A w w'->Lib.TabIs p_ w' "internal/strconv.uint64pow10" .u64 Lib.pow10Tab
theorem Ik.fr (h:Ik A w) (f:Fr A w w'):Ik A w':=fun x hx=>h x (f.trans hx)
theorem si (h:Ik A w) (n:Int) (h0: -1000000000<=n) (h1:n<=1000000000):
 d_ p_ 131 #[.int .i64 n] w fun e w'=>e=.returned (.string ⟨(L_ n).toArray⟩)/\w.grownBy w' none:=
 (Tryz.strconv_Itoa n (by omega) (by omega) w (h w (Fr.refl A w))).mono fun _ _ ⟨he,k,os,hw⟩=>⟨he,hw▸Bc w k os⟩
def eT:Bs:=[116,105,114,101,100]
structure Wq where
 S:Hs
 keep:List (Int × Int)
 text:Bs
def bP (P:Int) (q:Wq) (p:Int × Int):Wq:=
 match q.S.of p.1,q.S.rc p.1 with
 |some x,some i=>match q.S.recs[i]? with
  |some r=>if q.S.clock - r.jy<P then {q with keep:=q.keep++[p]} else ⟨{uk q.S p.1 x i r eT with back:=q.S.back++[p.1]},q.keep,q.text++(32::L_ p.1)⟩
  |none=>q
 |_,_=>q
structure uT (S:Hs) (k:Nat) (q:Wq):Prop where
 rc:q.S.rc=S.rc
 len:q.S.recs.length=S.recs.length
 jy:∀i (h:i<S.recs.length) (h':i<q.S.recs.length),(q.S.recs[i]).jy=(S.recs[i]).jy
 wait:q.S.wait=S.wait
 lines:q.S.lines=S.lines
 of:∀j (hj:j<S.wait.length),k<=j->q.S.of (S.wait[j]).1=S.of (S.wait[j]).1
 clock:q.S.clock=S.clock
 keep:q.keep.length<=k
 back:q.S.back.length<=S.back.length+k
theorem uT.zero (S:Hs) (t:Bs):uT S 0 ⟨S,[],t⟩:=⟨rfl,rfl,fun _ _ _=>rfl,rfl,rfl,fun _ _ _=>rfl,rfl,C_ _,C_ _⟩
variable {k:Nat}
theorem uT.step {q:Wq} (h:uT S k q) (P:Int) (hk:k<S.wait.length) (hd:(S.wait.map (·.1)).Nodup):uT S (k+1) (bP P q S.wait[k]):=by
 have uH:uT S (k+1) q:=⟨h.rc,h.len,h.jy,h.wait,h.lines,fun j hj hk=>h.of j hj (by omega),h.clock,Nat.le_succ_of_le h.keep,Nat.le_succ_of_le h.back⟩
 unfold bP
 split
 ·rename_i x i _ _
  split
  ·rename_i r hr
   split
   ·exact ⟨h.rc,h.len,h.jy,h.wait,h.lines,fun j hj hk=>h.of j hj (by omega),h.clock,by simpa using h.keep,Nat.le_succ_of_le h.back⟩
   ·have hi:i<q.S.recs.length:=(List.getElem?_eq_some_iff.1 hr).1
    refine ⟨h.rc,by simpa [uk] using h.len,fun j hj EL=> ?_,h.wait,h.lines,fun j hj hkj=> ?_,h.clock,Nat.le_succ_of_le h.keep,by have:=h.back;simp [uk];omega⟩
    ·simp only [uk]
     by_cases e:i=j
     ·subst e
      rw [List.getElem_set_self]
      have:=h.jy i hj (by rw [h.len];exact hj)
      rw [<-(List.getElem?_eq_some_iff.1 hr).2];exact this
     ·rw [List.getElem_set_ne e];exact h.jy j hj _
    ·simp only [uk]
     have hne:(S.wait[j]).1≠(S.wait[k]).1:=fun e=>by
      have h1:=List.pairwise_iff_getElem.1 hd k j (by simpa using hk) (by simpa using hj) (by omega)
      simp at h1
      exact h1 e.symm
     rw [if_neg hne]
     exact h.of j hj (by omega)
  ·exact uH
 ·exact uH
structure rC (S:Hs):Prop where
 nd:(S.wait.map (·.1)).Nodup
 has:∀j (hj:j<S.wait.length),∃x i,S.of (S.wait[j]).1=some x/\S.rc (S.wait[j]).1=some i/\i<S.recs.length
 call:∀j (hj:j<S.wait.length),0<=(S.wait[j]).1/\(S.wait[j]).1<=1000000
 jy:∀i (hi:i<S.recs.length),0<=(S.recs[i]).jy/\(S.recs[i]).jy<=1000000
 recs:S.recs.length<=100000
 wl:S.wait.length<=1000
 bl:S.back.length<=1000
def waitAll (P:Int) (S:Hs) (t:Bs):Wq:=S.wait.foldl (bP P) ⟨S,[],t⟩
def rI:Bs:=[97,116,32]
def waited (P:Int) (S:Hs) (n:Int):Hs × Bs:=
 let S1:Hs:={S with clock:=S.clock+n}
 let q:=waitAll P S1 (rI++L_ (S.clock+n))
 ({q.S with wait:=q.keep},q.text)
def GB (A:Ha) (S:Hs) (t0:Bs) (vw va vt:M') (N0:Nat) (W0:J') (k:Nat) (tv kv:M') (wr:J'):Prop:=
 ∃vb vr,aQ A (((S.wait.take k).foldl (bP A.P) ⟨S,[],t0⟩).S) vw vb vr va vt wr/\Fr A W0 wr/\N0<=wr.heap.size/\tv=.string ⟨(((S.wait.take k).foldl (bP A.P) ⟨S,[],t0⟩).text).toArray⟩/\
  wr.ownsRow N0 84 2 kv (((S.wait.take k).foldl (bP A.P) ⟨S,[],t0⟩).keep).length (ax (((S.wait.take k).foldl (bP A.P) ⟨S,[],t0⟩).keep))/\(((S.wait.take k).foldl (bP A.P) ⟨S,[],t0⟩).text).length<=40+40 * k
theorem wC {S:Hs} (P:Int) (t0:Bs) (hd:(S.wait.map (·.1)).Nodup):∀k,k<=S.wait.length->uT S k ((S.wait.take k).foldl (bP P) ⟨S,[],t0⟩)
 |0,_=>by rw [List.take_zero];exact uT.zero S t0
 |k+1,hk=>by
  rw [sC (by omega),List.foldl_append]
  exact (wC P t0 hd k (by omega)).step P (by omega) hd
theorem yX {P:Int} {t0:Bs} (hk:k<S.wait.length):(S.wait.take (k+1)).foldl (bP P) ⟨S,[],t0⟩=bP P ((S.wait.take k).foldl (bP P) ⟨S,[],t0⟩) S.wait[k]:=by
 rw [sC hk,List.foldl_append];rfl
theorem vQ (a b:Bs):((⟨a.toArray⟩:ByteArray)++(⟨b.toArray⟩:ByteArray))=⟨(a++b).toArray⟩:=by
 apply ByteArray.ext
 simp [ByteArray.data_append]
def tw (p:Int × Int):List M':=[.int .i64 p.1,.int .i64 p.2]
theorem me (a b:List (Int × Int)):ax (a++b)=ax a++ax b:=by simp [ax]
theorem aQ.wE {vw:M'} (h:aQ A S vw vb vr va vt w) {g cap:Nat} (hv:vw=.slice (some ⟨g,0,none⟩) S.wait.length cap) (hk:k<S.wait.length):w.cell? ⟨g,k * 2,none⟩=some (.int .i64 (S.wait[k]).1)/\w.cell? ⟨g,k * 2+1,none⟩=some (.int .i64 (S.wait[k]).2):=by
 have ho:=h.wait
 rw [hv] at ho
 exact ⟨(ho.cellAt _ (by omega)).trans (jr tw 2 (fun _=>rfl) _ k 0 hk (by decide)),(ho.cellAt _ (by omega)).trans (jr tw 2 (fun _=>rfl) _ k 1 hk (by decide))⟩
variable {B':Nat}
theorem Jx {e s n:Nat} {v:M'} (h:w.ownsRow B e s v n xs) (hB:B'<=B):w.ownsRow B' e s v n xs:=⟨h.1,h.2.imp id fun ⟨g,cap,cur,h1,h2,h3⟩=>⟨g,cap,cur,h1,D_ hB h2,h3⟩⟩
theorem Jy {e s n:Nat} {v:M'} {row:Option Nat} (h:w.ownsRow B e s v n xs) (hB:A.B<=B) (ho:A.Ok) (ha:nc A row w w') (hne:v.ownBlock=none\/v.ownBlock≠row):w'.ownsRow B e s v n xs:=by
 refine ⟨h.1, ?_⟩
 rcases h.2 with h0|⟨g,cap,cur,h1,h2,h3,h4⟩
 ·exact .inl h0
 ·refine .inr ⟨g,cap,cur,h1,h2, ?_,h4⟩
  have hv:v.ownBlock=some g:=by rw [h1];rfl
  have:=ho.hb;have:=ho.m1;have:=ho.m2;have:=ho.m3
  rw [ha.block g (cI h3) (by omega) (by omega) (by omega) (by omega) (fun e=>by rcases hne with e1|e1<;>rw [hv] at e1;cases e1;exact e1 e)];exact h3
theorem CF:(Tryz.prog.info? 3).map (fun i=>(i.zero,i.size,i.bytes))=some (some (.int .i64 0),1,8):=by kernel_rfl
variable {W0:J'}
theorem IP (h:aQ A S vw vb vr va vt w) (cK:rC S) {n:Int} (n0:0<=n) (n1:n<=1000000) (k0:0<=S.clock) (k1:S.clock<=1000000) (hT:Ik A W0) (hW:Fr A W0 w):
 d_ p_ 125 #[.pointer (some ⟨A.hb,0,none⟩),.int .i64 n] w fun e w'=>e=.returned (.string ⟨((waited A.P S n).2).toArray⟩)/\cQ A va vt (waited A.P S n).1 w'/\Fr A W0 w':=by
 have Ig:=h.c.2.2.2.2.2.2.2.2.1
 have cZ:=h.z 11
 have gv:=aa (h.I8 (S.clock+n))
 have HW:=aa (hW.trans gv.out.2)
 have hTT:=aa hT
 have oJ:IntKind.i64.wrap (S.clock+n)=S.clock+n:=IntWalk.i64_in _ (by omega)
 have xz:waited A.P S n=({(waitAll A.P {S with clock:=S.clock+n} (rI++L_ (S.clock+n))).S with wait:=(waitAll A.P {S with clock:=S.clock+n} (rI++L_ (S.clock+n))).keep},(waitAll A.P {S with clock:=S.clock+n} (rI++L_ (S.clock+n))).text):=rfl
 have Ul:rC {S with clock:=S.clock+n}:=⟨cK.nd,cK.has,cK.call,cK.jy,cK.recs,cK.wl,cK.bl⟩
 have hm:({S with clock:=S.clock+n}:Hs).clock=S.clock+n:=rfl
 rw [xz]
 generalize Vt:({S with clock:=S.clock+n}:Hs)=S1 at *
 generalize rq:S.clock+n=m at *
 have M3:IntKind.i64.wrap (S.clock+n)=m:=by rw [rq];exact oJ
 clear oJ
 have m0:0<=m:=by omega
 have m1:m<=2000000:=by omega
 have Pg:=aa Ul
 clear h hW hT cK xz Ul rq Vt
 replace hm:=aa hm
 obtain ⟨Po,EW⟩:∃Po:Ending->J'->Prop,f_ (Po=fun e w'=>e=Ending.returned (Value.string ⟨(waitAll A.P S1 (rI++L_ m)).text.toArray⟩)/\cQ A va vt {(waitAll A.P S1 (rI++L_ m)).S with wait:=(waitAll A.P S1 (rI++L_ m)).keep} w'/\Fr A W0 w'):=⟨_,rfl⟩
 refine Calls.mono (R:=Po) ?_ (fun e w' h=>by rw [EW.out] at h;exact h)
 go_enter func125,ntmps125
 go_wp2_with fail
 obtain ⟨H1,_⟩:=gv.out
 replace H1:=aa H1
 clear gv Ig cZ M3
 generalize w.setCell {block:=A.hb,off:=11} (ah IntKind.i64 m)=w1 at *
 refine (si (hTT.out.fr HW.out) m (by omega) (by omega)).mono ?_
 rintro e w2 ⟨rfl,Nu⟩
 have H2:=aa (H1.out.more Nu)
 have F2:=aa (HW.out.trans (Fr.kept H1.out.big Nu (fun _ e=>by cases e)))
 clear Nu H1 HW
 have Rr:=Lib.itoa_length_le m (by omega) (by omega)
 have hL:¬(9223372036854775807<3+(L_ m).length):=by omega
 have c7:=H2.out.c.2.2.2.2.1
 obtain ⟨a,cap,ev⟩:=aE H2.out.wait
 rw [ev] at c7
 replace ev:=aa ev
 go_wp2_with fail
 have Rq:f_ (GB A S1 (rI++L_ m) vw va vt w2.heap.size W0 0 (.string ({data:=#[97,116,32]}++{data:=(L_ m).toArray})) (.slice none 0 0) w2):=
  ⟨vb,vr,by rw [List.take_zero];exact H2.out,F2.out,C_ _,by rw [List.take_zero];exact congrArg Value.string (vQ rI (L_ m)),by rw [List.take_zero];exact World.ownsRow_nil _ _ _ _,by rw [List.take_zero];show (rI++L_ m).length<=40;rw [K_];show 3+_<=40;omega⟩
 have jx:=aa H2.out.big
 have qG:f_ (∀g,vw.ownBlock=some g->g<w2.heap.size):=fun g e=>(H2.out.wait.lt g e).2
 clear H2 F2 c7
 go_loopw [28,5,6] (fun i tv kv wr=>∃k:Nat,k<=S1.wait.length/\i=.int .i64 k/\f_ (GB A S1 (rI++L_ m) vw va vt w2.heap.size W0 k tv kv wr)) (fun i _ _ _=>S1.wait.length - (intOf i).toNat)
 case atStart=>exact ⟨0,nz _,rfl,Rq⟩
 case round=>
  obtain ⟨k,hk,rfl,hR⟩:=hrel
  by_cases hlt:k<S1.wait.length
  ·have gJ:(k:Int)<(S1.wait.length:Int):=by omega
   obtain ⟨N4,LU,HR,FR,hsz,rfl,iw,J7⟩:=hR.out
   obtain ⟨q,hq⟩:∃q,f_ (q=(S1.wait.take k).foldl (bP A.P) ⟨S1,[],rI++L_ m⟩):=⟨_,rfl⟩
   have I:=wC A.P (rI++L_ m) Pg.out.nd k hk
   rw [<-hq.out] at HR iw I J7 ⊢
   obtain ⟨x,i,hx,hi,Zp⟩:=Pg.out.has k hlt
   have yE:q.S.of (S1.wait[k]).1=some x:=(I.of k hlt (C_ _)).trans hx
   have lE:q.S.rc (S1.wait[k]).1=some i:=by rw [I.rc];exact hi
   have Np:i<q.S.recs.length:=by rw [I.len];exact Zp
   have yL:k<q.S.wait.length:=by rw [I.wait];exact hlt
   obtain ⟨gw,aCy,_,SP,_⟩:=cz HR.wait (by omega)
   have hpw:q.S.wait[k]=S1.wait[k]:=by simp only [I.wait]
   obtain ⟨y1,y2⟩:=HR.wE SP yL
   rw [hpw] at y1 y2
   have jX:=Pg.out.call k hlt
   have AQ:=Pg.out.wl
   have kj:=aa (Pg.out.jy i Zp)
   generalize hp:S1.wait[k]=p at *
   obtain ⟨ea,ec⟩:a=some ⟨gw,0,none⟩/\cap=aCy:=by rw [ev.out] at SP;simp at SP;exact ⟨SP.1,SP.2.2⟩
   subst ea ec
   have Ug:q.S.clock=m:=I.clock.trans hm.out
   obtain ⟨gr,VN,_,evr,_⟩:=cz HR.recs (by omega)
   have Q6:0<=(q.S.recs[i]).jy/\(q.S.recs[i]).jy<=1000000:=by rw [I.jy i Zp Np];exact kj.out
   have wi:q.S.recs.length<=100000:=by rw [I.len];exact Pg.out.recs
   have NW:=HR.alloc (.cells #[.int .i64 p.1,.int .i64 p.2] 84)
   obtain ⟨W,hW⟩:∃W,f_ (W=wr.alloc (.cells #[.int .i64 p.1,.int .i64 p.2] 84)):=⟨_,rfl⟩
   have z1:W.drew.cell? ⟨A.hb,11,none⟩=some (.int .i64 m):=by rw [<-Ug];rw [<-hW.out] at NW;exact NW.c.2.2.2.2.2.2.2.2.1
   have z2:W.drew.cell? ⟨A.hb,2,none⟩=some (.int .i64 A.P):=by rw [<-hW.out] at NW;show W.cell? _=_;rw [cV NW.box];rfl
   have z3:W.drew.cell? ⟨wr.heap.size,0,none⟩=some (.int .i64 p.1):=by rw [hW.out];exact bJ rfl
   rw [<-hW.out] at NW
   obtain ⟨z4,_⟩:=NW.pQ evr Np (k:=3) (by decide)
   have z4:W.drew.cell? ⟨gr,i * 7+3,none⟩=some (.int .i64 (q.S.recs[i]).jy):=z4
   have yG:IntKind.i64.wrap (m - (q.S.recs[i]).jy)=m - (q.S.recs[i]).jy:=IntWalk.i64_in _ (by omega)
   have xG:=aa (jL (NW.heap (w':=W.drew) rfl) lE Np evr wi)
   have HWh:=aa NW
   have HRh:=aa HR
   have FRh:=aa FR
   have Ih:=aa I
   have OJ:=aa iw
   have hxh:=aa (And.intro yE (And.intro lE Np))
   have hkh:=aa yL
   generalize WC:(q.S.recs[i]).jy=fr at *
   replace WC:=aa WC
   clear NW HR FR I iw yE lE hpw hx hi SP wi evr yL
   go_wp2_with fail
   rw [<-hW.out]
   have Z0:W.drew.cell? ⟨A.hb,11,none⟩=some (.int .i64 m)/\W.drew.cell? ⟨A.hb,2,none⟩=some (.int .i64 A.P)/\W.drew.cell? ⟨wr.heap.size,0,none⟩=some (.int .i64 p.1)/\W.drew.cell? ⟨gr,i * 7+3,none⟩=some (.int .i64 fr):=⟨z1,z2,z3,z4⟩
   go_region_held3 (fun w₁=>w₁.cell? ⟨A.hb,11,none⟩=some (.int .i64 m)/\w₁.cell? ⟨A.hb,2,none⟩=some (.int .i64 A.P)/\w₁.cell? ⟨wr.heap.size,0,none⟩=some (.int .i64 p.1)/\w₁.cell? ⟨gr,i * 7+3,none⟩=some (.int .i64 fr))
    (first|with_reducible exact Z0|with_reducible exact Z5|go_keep)
    ((go_at_call 134;(with_reducible refine xG.out.mono ?_);rintro e w5 ⟨rfl,hh,F5⟩;have Z5:w5.cell? ⟨A.hb,11,none⟩=some (.int .i64 m)/\w5.cell? ⟨A.hb,2,none⟩=some (.int .i64 A.P)/\w5.cell? ⟨wr.heap.size,0,none⟩=some (.int .i64 p.1)/\w5.cell? ⟨gr,i * 7+3,none⟩=some (.int .i64 fr):=⟨(J_ (by rw [hh])).trans z1,(J_ (by rw [hh])).trans z2,(J_ (by rw [hh])).trans z3,(J_ (by rw [hh])).trans z4⟩))
   rename_i SB
   clear SB
   have y6:w5.cell? ⟨wr.heap.size,0,none⟩=some (.int .i64 p.1):=Z5.2.2.1
   have y7:w5.cell? ⟨wr.heap.size,1,none⟩=some (.int .i64 p.2):=(show w5.cell? ⟨wr.heap.size,1,none⟩=W.cell? ⟨wr.heap.size,1,none⟩ from J_ (by rw [hh];rfl)).trans (by rw [hW.out];exact bJ (w:=wr) rfl)
   have H5:=aa (HWh.out.heap (w':=w5) hh)
   have F6:f_ (Fr A W0 w5):=FRh.out.trans ((by rw [hW.out];exact Fr.alloc HRh.out.big _:Fr A wr W).trans (Fr.drew.trans F5))
   have Vi:f_ (w5.heap[wr.heap.size]?=some (.cells #[.int .i64 p.1,.int .i64 p.2] 84 (0,0))):=by show w5.heap[wr.heap.size]?=_;rw [hh];show W.heap[wr.heap.size]?=_;rw [hW.out];exact Z' wr _
   have s5:wr.heap.size+1=w5.heap.size:=by rw [hh];show _=W.heap.size;rw [hW.out,B_]
   have CN:f_ (w5.ownsRow w2.heap.size 84 2 u6 q.keep.length (ax q.keep)):=by
    have h1:=OJ.out.alloc (.cells #[.int .i64 p.1,.int .i64 p.2] 84)
    rw [<-hW.out] at h1
    exact cH h1 (fun g _ _=>by rw [hh];rfl)
   have BH:f_ (∀w6:J',w6.ownsRow A.B 84 2 vw q.S.wait.length (ax q.S.wait)->vw.ownBlock=none\/vw.ownBlock≠u6.ownBlock):=fun w6 _=>by
    refine .inr fun e=> ?_
    have hv:vw.ownBlock=some gw:=by rw [ev.out];rfl
    have h1:=qG.out gw hv
    have h2:=(OJ.out.lt gw (e.symm.trans hv)).1
    omega
   clear Z5 F5 hh Z0 z1 z2 z3 z4 xG
   obtain ⟨i0,qJ,tX,rm,uF⟩:=info_parts xn
   have yK:=aa Ih.out.keep
   have SK:=aa H5.out.big
   by_cases hP:m - fr<A.P
   ·have hstep:f_ (bP A.P q p={q with keep:=q.keep++[p]}):=by
     obtain ⟨e1,e2,e3⟩:=hxh.out
     show bP A.P q p=_
     unfold bP
     simp only [e1,e2,G_ e3,WC.out,Ug,hP,if_true]
    go_wp2_with (at_builtin;refine wpList_append_lies _ rfl (.tmp 50) (.tmp 52) 74 rfl w2.heap.size 84 i0 _ 2 16 Tryz.underlying74 qJ tX rm uF rfl (by decide) _ _ _ rfl (CN.out.alloc _) ⟨w5.heap.size,0,none⟩ 1 1 [.int .i64 p.1,.int .i64 p.2] rfl rfl (fY w5 _ _ rfl) ?c1 (by omega) ?c3 ?c4 ?c5 _ rfl ?_)
    case c1=>intro u hu;simp at hu;rcases hu with rfl|rfl<;>rfl
    case c3=>have:=yK.out;unfold maxLen;omega
    case c4=>have:=yK.out;omega
    case c5=>rw [B_];omega
    intro gg mW w6 jl kh iP mR
    have bR:∀g,u6.ownBlock=some g->A.B<=g:=fun g e=>by have:=(CN.out.lt g e).1;have:=jx.out;omega
    have EU:f_ (GB A S1 (rI++L_ m) vw va vt w2.heap.size W0 (k+1) (.string ⟨q.text.toArray⟩) (.slice (some ⟨gg,0,none⟩) (q.keep.length+1) mW) w6):=by
     have hst:(S1.wait.take (k+1)).foldl (bP A.P) ⟨S1,[],rI++L_ m⟩={q with keep:=q.keep++[p]}:=by rw [yX hlt,<-hq.out,hp];exact hstep.out
     have RG:=H5.out.alloc (.cells #[.int .i64 p.1,.int .i64 p.2] 84)
     have QJ:=CN.out.alloc (.cells #[.int .i64 p.1,.int .i64 p.2] 84)
     refine ⟨N4,LU, ?_, ?_, ?_, ?_, ?_, ?_⟩
     ·rw [hst]
      exact RG.kept kh bR (BH.out _ RG.wait) (gF RG.back QJ (by decide)) (gF RG.recs QJ (by decide)) (gF RG.log QJ (by decide)) (gF RG.cg QJ (by decide))
     ·exact F6.out.trans ((Fr.alloc SK.out _).trans (Fr.kept RG.big kh bR))
     ·have:=kh.size;rw [B_] at this;omega
     ·rw [hst]
     ·rw [hst,K_,me];exact jl
     ·rw [hst];show q.text.length<=_;omega
    clear jl kh iP mR bR
    go_wp2_with fail
    go_roundw
    case rel=>exact ⟨k+1,by omega,by go_num,EU⟩
    case measure=>simp [intOf];omega
   ·obtain ⟨e1,e2,e3⟩:=hxh.out
    have hstep:f_ (bP A.P q p=⟨{uk q.S p.1 x i q.S.recs[i] eT with back:=q.S.back++[p.1]},q.keep,q.text++(32::L_ p.1)⟩):=by
     show bP A.P q p=_
     unfold bP
     simp only [e1,e2,G_ e3,WC.out,Ug,hP,if_false]
    have YW:f_ (q.S.recs.length<=100000):=by rw [Ih.out.len];exact Pg.out.recs
    have Vg:=aa (um H5.out e1 e2 e3 YW.out (q:=eT) (W0:=W0) F6.out)
    have QG:f_ (∀g,LU.ownBlock=some g->g<wr.heap.size):=fun g e=>(HRh.out.recs.lt g e).2
    generalize wj:q.S.recs[i]=ri at hstep Vg
    clear e1 e2 wj e3
    go_wp2_with fail
    refine Vg.out.mono ?_
    rintro e w7 ⟨rfl,H7,F7,A7⟩
    have Ba:=jx.out
    have o1:=H7.ok.hb
    have o2:=H7.ok.m1
    have o3:=H7.ok.m2
    have o4:=H7.ok.m3
    have b7:w7.heap[wr.heap.size]?=w5.heap[wr.heap.size]?:=A7.block wr.heap.size (by omega) (by omega) (by omega) (by omega) (by omega) (fun e=>by have:=QG.out _ e.symm;omega)
    have y8:w7.cell? ⟨wr.heap.size,0,none⟩=some (.int .i64 p.1):=(J_ b7).trans y6
    have Ga:f_ (w7.ownsRow w2.heap.size 84 2 u6 q.keep.length (ax q.keep)):=Jy CN.out Ba H7.ok A7 (gF CN.out H5.out.recs (by decide))
    have s7:f_ (wr.heap.size+1<=w7.heap.size):=by have:=A7.size;show _<=_;omega
    obtain ⟨a8,Bp,RO⟩:=aE H7.back
    have c8:=H7.c.2.2.2.2.2.1
    rw [RO] at c8
    have f8:=H7.z 8
    have ot:f_ (∀o,(w7.drew.alloc o).ownsRow A.B 3 1 (.slice a8 q.S.back.length Bp) q.S.back.length (q.S.back.map (ah .i64))):=fun o=>((RO▸(H7.heap (w':=w7.drew) rfl).back:)).alloc o
    have H7h:=aa H7
    have F7h:=aa F7
    have c8:w7.cell? ⟨A.hb,8,none⟩=some (.slice a8 q.S.back.length Bp):=c8
    have S81:w7.drew.cell? ⟨A.hb,8,none⟩=some (.slice a8 q.S.back.length Bp):=c8
    have S82:w7.drew.cell? ⟨wr.heap.size,0,none⟩=some (.int .i64 p.1):=y8
    have S83:∀o,(w7.alloc o).drew.cell? ⟨A.hb,8,none⟩=some (.slice a8 q.S.back.length Bp):=fun o=>(N_ w7 o none).cell (a:=⟨A.hb,8,none⟩) c8 (by simp)
    have S84:∀o,(w7.alloc o).drew.cell? ⟨wr.heap.size,0,none⟩=some (.int .i64 p.1):=fun o=>(N_ w7 o none).cell (a:=⟨wr.heap.size,0,none⟩) y8 (by simp)
    have lW:∀g,(mN a8 q.S.back.length Bp).ownBlock=some g->A.B<=g/\g≠wr.heap.size:=fun g e=>by
     refine ⟨((RO▸H7.back.lt:) g e).1,fun eg=> ?_⟩
     have qo:w7.heap[wr.heap.size]?=some (.cells #[.int .i64 p.1,.int .i64 p.2] 84 (0,0)):=by rw [b7];exact Vi.out
     rcases H7.back.2 with ⟨e0,_⟩|⟨g',cp,cu,e1,_,e3,_⟩
     ·rw [RO] at e0;simp at e0;rw [e0.1] at e;simp [Value.ownBlock] at e
     ·rw [RO] at e1;simp at e1;rw [e1.1] at e;simp [Value.ownBlock] at e;subst e;rw [eg,qo] at e3;simp at e3
    have S85:∀o w8,(w7.drew.alloc o).grownBy w8 (mN a8 q.S.back.length Bp).ownBlock->w8.cell? ⟨A.hb,8,none⟩=some (.slice a8 q.S.back.length Bp):=fun o w8 hg=>hg.cell (S83 o) (fun e=>absurd (lW _ e.symm).1 (Nat.not_le.2 o1))
    have S86:∀o w8,(w7.drew.alloc o).grownBy w8 (mN a8 q.S.back.length Bp).ownBlock->w8.cell? ⟨wr.heap.size,0,none⟩=some (.int .i64 p.1):=fun o w8 hg=>hg.cell (S84 o) (fun e=>(lW _ e.symm).2 rfl)
    have S87:∀o w8,(w7.drew.alloc o).grownBy w8 (mN a8 q.S.back.length Bp).ownBlock->w8.frozen? ⟨A.hb,8,none⟩=false:=fun o w8 hg=>by
     have QS:A.hb<w7.heap.size:=E_ o1 H7.big
     rw [m_ (hg.block A.hb (by rw [B_];show A.hb<w7.heap.size+1;omega) (fun e=>by have:=(lW _ e.symm).1;omega)),m_ ((N_ w7.drew o none).block A.hb QS (by simp))]
     exact f8
    have ub:∀o,A.B<=(w7.drew.alloc o).heap.size:=fun o=>D_ H7.big (N_ w7.drew o none).size
    have sD:f_ (q.S.back.length<=3000):=by have:=Ih.out.back;have:=Pg.out.bl;show q.S.back.length<=3000;omega
    obtain ⟨i3,UN,J2,J1,J0⟩:=info_parts CF
    clear H7 F7
    go_wp2_with fail
    go_region_law ((refine step_append_lies _ (by rfl) _ _ _ (by rfl) A.B 3 i3 _ 1 8 Tryz.underlying26 UN J2 J1 J0 rfl (by decide) _ q.S.back.length _ (by rfl) (ot.out _) ⟨w7.heap.size,0,none⟩ 1 1 [.int .i64 p.1] (by rfl) (by rfl) (fY w7.drew _ _ (by rfl)) (by intro u hu;simp at hu;subst hu;rfl) (by omega) (by have:=sD.out;unfold maxLen;omega) (by have:=sD.out;omega) (ub _) (w7.heap.size+1) (B_ ..) ?_;intro gg zI w8 OK EM Vk QS;have T1:=S85 _ _ EM;have T2:=S86 _ _ EM;have T3:=S87 _ _ EM))
    all_goals
     have Y3:=((H7h.out.heap (w':=w7.drew) rfl).alloc (.cells #[.int .i64 p.1] 3)).Cg (c:=p.1) (RO▸EM) OK (Vk.imp (fun e=>by rw [RO];exact e.symm) (fun e=>by rw [e,B_];rfl))
     have y9:(w8.setCell ⟨A.hb,8,none⟩ (.slice (some ⟨gg,0,none⟩) (q.S.back.length+1) zI)).cell? ⟨wr.heap.size,0,none⟩=some (.int .i64 p.1):=(J_ (a_ w8 _ _ _ (by show wr.heap.size≠A.hb;omega))).trans T2
     have CM:f_ ((w8.setCell ⟨A.hb,8,none⟩ (.slice (some ⟨gg,0,none⟩) (q.S.back.length+1) zI)).ownsRow w2.heap.size 84 2 u6 q.keep.length (ax q.keep)):=by
      have h1:(w7.drew.alloc (.cells #[.int .i64 p.1] 3)).ownsRow w2.heap.size 84 2 u6 q.keep.length (ax q.keep):=World.ownsRow.alloc (w:=w7.drew) Ga.out _
      have h2:=h1.kept EM (gF h1 (ot.out _) (by decide))
      exact cH h2 fun g hg _=>a_ w8 _ _ _ (by show g≠A.hb;omega)
     have s9:f_ (w2.heap.size<=(w8.setCell ⟨A.hb,8,none⟩ (.slice (some ⟨gg,0,none⟩) (q.S.back.length+1) zI)).heap.size):=by
      have h3:w7.heap.size+1<=w8.heap.size:=by have h1:=EM.size;simpa using h1
      have h2:=s7.out
      show _<=(w8.setCell _ _).heap.size
      rw [o_]
      omega
     have H9:=aa Y3.1
     have F9:f_ (Fr A W0 (w8.setCell ⟨A.hb,8,none⟩ (.slice (some ⟨gg,0,none⟩) (q.S.back.length+1) zI))):=F7h.out.trans ((Fr.drew (w:=w7)).trans ((Fr.alloc (w:=w7.drew) H7h.out.big _).trans Y3.2))
     clear Y3 T1 T2 T3 OK EM Vk QS S81 S82 S83 S84 S85 S86 S87 ot lW
     generalize w8.setCell ⟨A.hb,8,none⟩ (.slice (some ⟨gg,0,none⟩) (q.S.back.length+1) zI)=w9 at *
     go_wp2_with fail
     refine (si (hTT.out.fr F9.out) p.1 (by omega) (by omega)).mono ?_
     rintro e wA ⟨rfl,UZ⟩
     have hLp:=Lib.itoa_length_le p.1 (by omega) (by omega)
     have nU:¬(9223372036854775807<1+(L_ p.1).length):=by omega
     have du:¬(9223372036854775807<q.text.length+(1+(L_ p.1).length)):=by omega
     have EU:f_ (GB A S1 (rI++L_ m) vw va vt w2.heap.size W0 (k+1) (.string ({data:=q.text.toArray}++({data:=#[32]}++{data:=(L_ p.1).toArray}))) u6 wA):=by
      have hst:(S1.wait.take (k+1)).foldl (bP A.P) ⟨S1,[],rI++L_ m⟩=⟨{uk q.S p.1 x i ri eT with back:=q.S.back++[p.1]},q.keep,q.text++(32::L_ p.1)⟩:=by rw [yX hlt,<-hq.out,hp];exact hstep.out
      refine ⟨.slice (some ⟨gg,0,none⟩) (q.S.back.length+1) zI,LU, ?_, ?_, ?_, ?_, ?_, ?_⟩
      rotate_left 2
      ·exact D_ s9.out UZ.size
      ·rw [hst];exact congrArg Value.string ((congrArg (fun y=>({data:=q.text.toArray}:ByteArray)++y) (vQ [32] (L_ p.1))).trans (vQ q.text (32::L_ p.1)))
      ·rw [hst];exact CM.out.kept UZ (oT _)
      ·rw [hst];show (q.text++(32::L_ p.1)).length<=_;rw [K_,List.length_cons];omega
      ·rw [hst];exact H9.out.more UZ
      ·exact F9.out.trans (Fr.kept H9.out.big UZ (fun _ e=>by cases e))
     clear UZ CM s9 H9 F9
     go_wp2_with fail
     go_roundw
     case rel=>exact ⟨k+1,by omega,by go_num,EU⟩
     case measure=>simp [intOf];omega
  ·obtain rfl:k=S1.wait.length:=by omega
   obtain ⟨N4,LU,HR,FR,hsz,rfl,iw,J7⟩:=hR.out
   obtain ⟨a6,c6,e6⟩:=aE iw
   generalize yK:(((S1.wait.take S1.wait.length).foldl (bP A.P) ⟨S1,[],rI++L_ m⟩).keep).length=kl6 at e6
   subst e6
   have Uo:wr.ownsRow A.B 84 2 (.slice a6 kl6 c6) (((S1.wait.take S1.wait.length).foldl (bP A.P) ⟨S1,[],rI++L_ m⟩).keep).length (ax (((S1.wait.take S1.wait.length).foldl (bP A.P) ⟨S1,[],rI++L_ m⟩).keep)):=Jx iw jx.out
   have lI:=HR.My Uo
   have c7:=HR.c.2.2.2.2.1
   have f7:=HR.z 7
   rw [List.take_length] at lI
   replace lI:=aa (And.intro lI.1 (FR.trans lI.2))
   have TZ:f_ (((S1.wait.take S1.wait.length).foldl (bP A.P) ⟨S1,[],rI++L_ m⟩).text=(waitAll A.P S1 (rI++L_ m)).text):=by rw [List.take_length];rfl
   clear HR FR iw J7 Uo yK
   go_wp2_with fail
   rw [EW.out]
   exact ⟨congrArg (fun t:Bs=>Ending.returned (Value.string ⟨t.toArray⟩)) TZ.out,⟨_,_,_,lI.out.1⟩,lI.out.2⟩
end
end Go.aC.Of
namespace Go.Proofs
section
abbrev Tryz.link:Go.Conc.Lib.WgLink:={add:=67,done:=69,wait:=73,relMerge:=87,disable:=88,enable:=89,inBubble:=90,associate:=91,fatal:=92,uOr:=93,uAdd:=94,raceRead:=95,uLoad:=96,uStore:=97,disassociate:=98,semrelease:=99,acquire:=102,isAssociated:=103,uCas:=104,raceWrite:=105,semacquire:=106,orU64:=117,addU64:=118,loadU64:=119,storeU64:=120,casU64:=126,tWgP:=126,tUP:=128,tAssoc:=130,tWg:=108,tAU:=105,tU64:=103,tUint:=134,tU32:=106,tPU32:=135,tPAU:=155,tPU64:=157,tNoCopy:=100,tANoCopy:=101,tAlign64:=102}
theorem Tryz.oN:Go.Conc.Lib.WgLib p_ Tryz.link:=
 ⟨func67,func69,func73,func87,func88,func89,func90,func91,func92,func93,func94,func95,func96,func97,func98,func99,func102,func103,func104,func105,func106,func117,func118,func119,func120,func126,Tryz.underlying126,Tryz.runUnderlying126,Tryz.sizeOf126,Tryz.isAgg126,Tryz.zeroValue126,Tryz.underlying128,Tryz.runUnderlying128,Tryz.sizeOf128,Tryz.isAgg128,Tryz.zeroValue128,Tryz.underlying130,Tryz.runUnderlying130,Tryz.sizeOf130,Tryz.isAgg130,Tryz.zeroValue130,Tryz.underlying108,Tryz.runUnderlying108,Tryz.sizeOf108,Tryz.isAgg108,Tryz.zeroValue108,Tryz.underlying105,Tryz.runUnderlying105,Tryz.sizeOf105,Tryz.isAgg105,Tryz.zeroValue105,Tryz.underlying103,Tryz.runUnderlying103,Tryz.sizeOf103,Tryz.isAgg103,Tryz.zeroValue103,Tryz.underlying134,Tryz.runUnderlying134,Tryz.sizeOf134,Tryz.isAgg134,Tryz.zeroValue134,Tryz.underlying106,Tryz.runUnderlying106,Tryz.sizeOf106,Tryz.isAgg106,Tryz.zeroValue106,Tryz.underlying135,Tryz.runUnderlying135,Tryz.sizeOf135,Tryz.isAgg135,Tryz.zeroValue135,Tryz.underlying155,Tryz.runUnderlying155,Tryz.sizeOf155,Tryz.isAgg155,Tryz.zeroValue155,Tryz.underlying157,Tryz.runUnderlying157,Tryz.sizeOf157,Tryz.isAgg157,Tryz.zeroValue157,Tryz.underlying0,Tryz.runUnderlying0,Tryz.sizeOf0,Tryz.isAgg0,Tryz.zeroValue0,Tryz.underlying3,Tryz.runUnderlying3,Tryz.sizeOf3,Tryz.isAgg3,Tryz.zeroValue3,Tryz.underlying4,Tryz.runUnderlying4,Tryz.sizeOf4,Tryz.isAgg4,Tryz.zeroValue4,Tryz.underlying9,Tryz.runUnderlying9,Tryz.sizeOf9,Tryz.isAgg9,Tryz.zeroValue9,Tryz.underlying20,Tryz.runUnderlying20,Tryz.sizeOf20,Tryz.isAgg20,Tryz.zeroValue20,Tryz.underlying21,Tryz.runUnderlying21,Tryz.sizeOf21,Tryz.isAgg21,Tryz.zeroValue21,(by kernel_rfl),(by kernel_rfl)⟩
end
end Go.Proofs
namespace Go.aC.Of
section
open Go Go.Conc Go.Conc.Lib Go.ConcR.Gen Go.RowKit Go.aC Go.Proofs
structure KO (b bt x:Nat) (w:J'):Prop where
 tx:w.cell? ⟨bt,0,none⟩=some (.chan (some x))
 live:Live b 0 w
structure KS (C:cS) (i bt:Nat):Prop where
 on:C.on
 ts:C.St i (.cell ⟨bt,0,none⟩)
 tn:¬C.Sh (.cell ⟨bt,0,none⟩)
variable {C:cS} {i b bt x:Nat}
theorem KS.tx (h:KS C i bt):NY C i ⟨.cell ⟨bt,0,none⟩,false,false⟩:=HU h.ts h.tn
variable {w:J'}
theorem KO.rely (hS:KS C i bt) {w₁:J'} (h:KO b bt x w) (r:RB C b 0 i w w₁):KO b bt x w₁:=
 ⟨(r.cells bt 0 (.inr hS.ts)).1.trans h.tx,r.live hS.on h.live⟩
theorem XJ (hS:KS C i bt):Wk (RB C b 0 i) (DR C i) (KO b bt x):=⟨fun _ _ r h=>h.rely hS r,fun _=>⟨Out.refl _ _,fun e he=>by simp at he⟩⟩
noncomputable def bot:Y':={(default:Y') with fn:=Tryz.prog.funcs.size,defers:=[],mode:=.panicking [goexitEntry]}
def call68 (b bt:Nat):Deferred:={target:=.fn (.func 68) #[.pointer (some ⟨b,0,none⟩),.pointer (some ⟨bt,0,none⟩)],args:=#[]}
noncomputable def xW:Code:=f68.body.getD .skip
noncomputable def nZ:Code:=f70.body.getD .skip
theorem Ii (b bt:Nat) (w:J'):stepG p_ false (born p_ (call68 b bt)) w=
 .go (G ((baseD 68).at ⟨#[.pointer (some ⟨b,0,none⟩),.pointer (some ⟨bt,0,none⟩)]++F_ 2 I',[]⟩ [.code xW]) [bot]) w #[]:=by
 simp [born,call68,stepG,unwind,callDeferred,invoke,callFunc,func68,f68,seen,GStep.after,G,fZ,Frame.at,baseD,bot,xW]
noncomputable def FH:Array y_:=match xW with| .seq _ (.region _ ops _)=>ops|_=>#[]
noncomputable def Ei:Array y_:=match nZ with| .seq _ (.seq _ (.block _ (.loop (.seq (.region _ ops _) _))))=>ops|_=>#[]
noncomputable def zW:List x_:=match nZ with| .seq _ (.seq _ (.block n (.loop (.seq a b))))=>[.code b,.inLoop (.seq a b),.inBlock n]|_=>[]
noncomputable def Jz:Array y_:=match nZ with| .seq _ (.seq _ (.block _ (.loop (.seq _ (.seq _ (.block _ (.seq _ (.seq _ (.region _ ops _)))))))))=>ops|_=>#[]
noncomputable def vU:List x_:=match nZ with| .seq _ (.seq _ (.block n (.loop (.seq a (.seq c (.block m d))))))=>[.inBlock m,.inLoop (.seq a (.seq c (.block m d))),.inBlock n]|_=>[]
def mZ (b bt x:Nat) (k:Int) (g:O') (w:J'):Prop:=
 KO b bt x w/\∃F v1 v3 v5 v6 v7 v8 v9 v10 v11 v12 v13 v14 v15,g=G ((base 70).at ⟨#[.chan (some x),v1,.int .i64 k,v3,.chan (some x),v5,v6,v7,v8,v9,v10,v11,v12,v13,v14,v15],[]⟩ (.inRegion Ei [0,1]::zW)) [(baseD 68).at ⟨F,[dcall 69 #[.pointer (some ⟨b,0,none⟩)]]⟩ [.inRegion FH [1]],bot]
def Told (b x:Nat) (k:Int) (g:O'):Prop:=
 ∃F v1 v3 v5 v6 v7 v8 v9 v10 v11 v12 v13 v14 v15,g=G ((base 70).at ⟨#[.chan (some x),v1,.int .i64 k,v3,.chan (some x),v5,v6,v7,v8,v9,v10,v11,v12,v13,v14,v15],[]⟩ (.inRegion Jz [3]::vU)) [(baseD 68).at ⟨F,[dcall 69 #[.pointer (some ⟨b,0,none⟩)]]⟩ [.inRegion FH [1]],bot]
theorem xB (hS:KS C i bt) {k:Int} (w w₁:J') (g:O') (r:RB C b 0 i w w₁) (h:mZ b bt x k g w):mZ b bt x k g w₁:=⟨h.1.rely hS r,h.2⟩
def Ph (b bt x:Nat) (k:Int) (g:O') (w:J'):Prop:=∃bp,gP p_ false (.recv x (.agg #[.int .i64 0,.int .i64 0,.chan none]) true) g bp/\mZ b bt x k bp w
theorem G5 (hS:KS C i bt):∃n,∀w,KO b bt x w->Goes p_ false (RB C b 0 i) (DR C i) (Ph b bt x 0) n (born p_ (call68 b bt)) w:=by
 have W:=XJ (b:=b) (x:=x) hS
 refine W.ctl rfl (Ii b bt) ?_
 simp only [xW,f68,A_]
 walk_nrm
 refine W.ctl rfl (fun _=>stepG_seq) ?_
 refine W.ctl rfl (fun _=>zb) ?_
 refine W.ctl rfl (fun _=>stepG_defer rfl rfl (by k_ne) rfl) ?_;walk_nrm
 refine W.ctl rfl (fun _=>stepG_region_end) ?_
 refine W.ctl rfl (fun _=>zb) ?_
 refine W.X1 (NY C i) (.chan (some x)) rfl rfl (by k_ne) (fun w hw=>⟨?_, ?_⟩) VL ?_
 ·have h2:=hw.tx
  go_simp
 ·have h2:=hw.tx
  intro e he
  simp [go_sem, *] at he
  subst he
  exact hS.tx
 walk_nrm
 refine W.ctl rfl (fun _=>i6 rfl rfl (by k_ne) rfl func70 (by kernel_rfl) rfl) ?_
 walk_nrmf f70
 refine W.ctl rfl (fun _=>stepG_seq) ?_
 refine W.ctl rfl (fun _=>zb) ?_
 refine W.val rfl rfl (by k_ne) (fun _=>by simp [go_sem, *]) (fun K hy=> ?_);go_simp;(try w_num);refine hy _ ?_;clear hy K;walk_nrm
 refine W.ctl rfl (fun _=>stepG_region_end) ?_
 refine W.ctl rfl (fun _=>stepG_seq) ?_
 refine W.ctl rfl (fun _=>zb) ?_
 refine W.val rfl rfl (by k_ne) (fun _=>by simp [go_sem, *]) (fun K hy=> ?_);go_simp;(try w_num);refine hy _ ?_;clear hy K;walk_nrm
 refine W.ctl rfl (fun _=>stepG_region_end) ?_
 refine W.ctl rfl (fun _=>stepG_block) ?_
 refine W.ctl rfl (fun _=>stepG_loop) ?_
 refine W.ctl rfl (fun _=>stepG_seq) ?_
 refine W.ctl rfl (fun _=>zb) ?_
 refine W.stop fun w hw=>⟨_,rS rfl rfl (by k_ne) (fun w=> ?_) (fun w=> ?_),hw, ?_⟩
 ·go_simp
  exact ⟨rfl,rfl⟩
 ·simp [go_sem, *]
 ·exact ⟨_,_,_,_,_,_,_,_,_,_,_,_,_,_,rfl⟩
theorem Jb (hS:KS C i bt) {k:Int} {g:O'} (hw:KO b bt x w) (h:Told b x k g):∃n,Goes p_ false (RB C b 0 i) (DR C i) (Ph b bt x k) n (Go.Conc.served g I') w:=by
 have W:=XJ (b:=b) (x:=x) hS
 obtain ⟨F,v1,v3,v5,v6,v7,v8,v9,v10,v11,v12,v13,v14,v15,rfl⟩:=h
 rw [mD]
 refine Wk.here hw ?_
 clear hw
 simp only [Jz,vU,nZ,f70,A_]
 walk_nrm
 refine W.ctl rfl (fun _=>stepG_region_end) ?_
 refine W.ctl rfl (fun _=>stepG_inBlock) ?_
 refine W.ctl rfl (fun _=>stepG_inLoop) ?_
 refine W.ctl rfl (fun _=>stepG_seq) ?_
 refine W.ctl rfl (fun _=>zb) ?_
 refine W.stop fun w hw=>⟨_,rS rfl rfl (by k_ne) (fun w=> ?_) (fun w=> ?_),hw, ?_⟩
 ·go_simp
  exact ⟨rfl,rfl⟩
 ·simp [go_sem, *]
 ·exact ⟨_,_,_,_,_,_,_,_,_,_,_,_,_,_,rfl⟩
theorem Hd (F:Array M'):QuitsD p_ 2 0 (G {(baseD 68).at ⟨F,[]⟩ [] with mode:=.returning} [bot]):=by
 refine QuitsD.ctl (g':=G bot []) rfl (fun w=> ?_) ?_
 ·simp [G,stepG,unwind,doReturn,results,Frame.at,baseD,bot,func68,f68,seen,GStep.after,goexitEntry]
 refine QuitsD.ctl (g':={G bot [] with status:=.finished}) rfl (fun w=> ?_) ⟨rfl,rfl⟩
 simp [G,stepG,unwind,bot,goexitEntry,Frame.catches]
 rfl
theorem Jc (hS:KS C i bt) {k:Int} {g:O'} (h:mZ b bt x k g w):∃n,Goes p_ false (RB C b 0 i) (DR C i) (AtR0 p_ C b 0 i) n (Go.Conc.served g (recvd true (.agg #[.int .i64 0,.int .i64 0,.chan none]) false)) w:=by
 have W:=XJ (b:=b) (x:=x) hS
 obtain ⟨hw,F,v1,v3,v5,v6,v7,v8,v9,v10,v11,v12,v13,v14,v15,rfl⟩:=h
 rw [mD]
 refine Wk.here hw ?_
 clear hw
 simp only [recvd,if_true,Ei,zW,nZ,f70,A_]
 walk_nrm
 refine W.val rfl rfl (by k_ne) (fun _=>by simp [go_sem, *]) (fun K hy=> ?_);go_simp;(try w_num);refine hy _ ?_;clear hy K;walk_nrm
 refine W.ctl rfl (fun _=>stepG_region_end) ?_
 refine W.ctl rfl (fun _=>stepG_seq) ?_
 refine W.ctl rfl (fun _=>stepG_cond (t:=false) rfl) ?_;simp only [qp,↓reduceIte]
 refine W.ctl rfl (fun _=>stepG_exit rfl) ?_
 refine W.ctl rfl (fun _=>stepG_end) ?_
 refine W.ctl rfl (fun _=>fC rfl rfl func70 rfl) ?_;simp only [FH,xW,f68,A_]
 refine W.ctl rfl (fun _=>stepG_region_end) ?_
 refine W.ctl rfl (fun _=>stepG_end) ?_
 refine W.ctl rfl (fun _=>stepG_unwind_enter rfl Tryz.oN.f_done (nm_done Tryz.link) rfl) ?_
 have hD:=Di Tryz.oN hS.on (b:=b) (o:=0) (i:=i) (c:={(baseD 68).at ⟨F.setIfInBounds 3 (.tuple #[]),[]⟩ [] with mode:=.returning}) (cs:=[bot]) rfl (Hd _)
 exact hD.imp fun n h w hw=>h w hw.live
end
end Go.aC.Of
namespace Go.aC
section
open Go Go.RowKit Go.Conc
def N8:Obj->Obj
 | .cells c e f=>.cells c e (0,max c.size f.2)
 | .map _ _=>.coro none
 | .pending _ _=>.coro none
 | .view a t=>.view {a with spot:=some 0} t
 | .chan cap buf _ s r tm=>.chan cap buf true s r tm
 |o=>o
def oR (w:J'):J':={w with heap:=w.heap.map N8}
theorem kR (w:J') (b:Nat):(oR w).heap[b]?=(w.heap[b]?).map N8:=by simp [oR]
theorem nD (w:J'):(oR w).heap.size=w.heap.size:=by simp [oR]
theorem GM (w:J'):bI (oR w) w:=by
 refine ⟨nD w,fun b o o' h1 h2=> ?_,rfl,rfl,fun b o h1=> ?_⟩
 ·rw [kR,h2] at h1
  cases h1
  cases o' with
  |cells c e f=>exact .cut (C_ _) (fun _ _=>rfl) (fun k hk=>by simp [gd] at hk ⊢;omega)
  |map es clock=>exact .blind (.map _ _)
  |pending c e=>exact .blind (.late _ _)
  |view a t=>exact .blind (.view _ _ _)
  |chan cap buf cl s r tm=>exact .blind (.chan _ _ _ _ _ _)
  |_=>exact .same _
 ·rw [kR] at h1
  obtain ⟨p,_,rfl⟩:=Option.map_eq_some_iff.1 h1
  cases p<;>rfl
theorem G3 (w:J'):Shut w.heap.size w (oR w):=by
 refine ⟨by rw [nD];exact C_ _,fun b o _ h1=> ?_⟩
 rw [kR] at h1
 obtain ⟨p,hp,rfl⟩:=Option.map_eq_some_iff.1 h1
 refine ⟨p,hp, ?_⟩
 cases p with
 |cells c e f=>exact .cells (fun k hk=>by simp [gd];omega)
 |_=>exact .other rfl rfl rfl rfl
theorem aAd (w:J') (a:z_):(oR w).cell? a=w.cell? a:=by
 unfold World.cell?
 rw [kR]
 cases w.heap[a.block]? with
 |none=>rfl
 |some p=>cases p<;>rfl
variable {P:U'} {b o:Nat} {Post:M'->J'->Prop}
variable {B:Nat} {w:J'}
theorem Can.RJ (hB:1<=B) {a:O'} (h:Can P (cS.empty ⟨b,o,none⟩) b o Post 0 (db B) (oR w) a):Ends P (fun v w'=>Post v w'/\Below w.heap.size w w') (solo a w) #[]:=by
 rw [solo_eq_crowd]
 exact h _ _ _ _ _ none _ (aC.start P b o GH GH a w) rfl ⟨⟨rfl,M6⟩,hB⟩ rfl (GM w) _ w (G3 w) (Below.refl _ _)
theorem Hr (a:z_) (w:J'):Lay (cS.empty a) w:=⟨⟨fun b k hk=>by rcases hk with h|h|⟨g,h⟩<;>exact h.elim,fun b k hk=>by obtain ⟨g,h⟩:=hk;first|exact h.elim|(rcases h with h|h<;>exact h.2.elim)⟩,fun g r=>⟨fun h=>h,fun h=>h⟩⟩
end
end Go.aC
namespace Go.aC
open Go Go.Conc
variable {P:U'} {a:Act}
theorem AB {ok:w_->Bool} {b:Y'} {c:Code} (h:je P ok c=true) (hd:a.defers=[]) (hk:b.kind=.normal) (hf:∃fn,P.funcs[b.fn]?=some fn):OkFr P ok (b.at a [.code c]):=
 ⟨.inl rfl,hd,hk,rfl,fun it HF=>by rw [List.mem_singleton.1 HF];exact h,hf⟩
noncomputable def ai:Nat->Code->Code
 |0,.seq a _=>a
 |0,c=>c
 |n+1,.seq _ b=>ai n b
 |_+1,c=>c
noncomputable def az:Nat->Code->Code
 |0,c=>c
 |n+1,.seq _ b=>az n b
 |_+1,c=>c
end Go.aC
namespace Go.aC.Of
open Go Go.Conc Go.Conc.Lib Go.ConcR.Gen Go.RowKit Go.aC Go.Proofs
noncomputable def Al (ok:w_->Bool) (f:w_):Bool:=match Tryz.prog.funcs[f]? with
 |some fn=>(match fn.body with|some c=>je p_ ok c|none=>true)
 |none=>true
theorem zh {ok:w_->Bool} (l:List w_) (hl:∀f,ok f=true->f∈l) (h:∀f∈l,Al ok f=true):gM p_ ok:=by
 intro f fn hf xF c hc
 have:=h f (hl f hf)
 unfold Al at this
 rw [xF] at this
 simp only [hc] at this
 exact this
def JN:List w_:=[65,66,125,127,128,129,131,132,133,134,135,137,138,142,145,147,148,149,150,151,152,153,154,155,156,157]
def il (f:w_):Bool:=JN.contains f
theorem pA:gM p_ il:=zh JN (fun f h=>by unfold il at h;simpa using h) (List.all_eq_true.1 (show (JN.all (Al il))=true by kernel_rfl))
section
variable {C:cS} {b h:Nat} {ae Fin:O'->J'->Prop} {Post:M'->J'->Prop} {Rs:(Nat->Prop)->(Nat->aX)->Nat->Prop} {wl:J'} {f:Y'} {a:Act} {K:List x_} {cs:List Y'} {ops:Array y_} {i:Nat} {rest:List Nat} {x:y_} {c:Code}
theorem _root_.Go.aC.eh.o (B:eh p_ C b 0 ae Fin h) (v:M') (hx:∀T d,(V' a.eval x).run p_ (wl.re T d)=.ok (.value v) (wl.re T d)) (hc:ay p_ C b 0 ae Fin Post h Rs wl (G (f.at (a.put x.dst v) (.inRegion ops rest::K)) cs)) (ho:ops[i]?=some x:=by exact rfl) (hS:gh h Rs:=by assumption) (hL:Lay C wl:=by assumption) (hw:U_ x (yielded ops a.tmps)=true:=by exact rfl) (hk:f.kind≠.early:=by k_ne) (cK:fN p_ il x=true:=by kernel_rfl):ay p_ C b 0 ae Fin Post h Rs wl (G (f.at a (.inRegion ops (i::rest)::K)) cs):=ay.op (ok:=il) B hS hL ho hw hk cK fun T d=>⟨v,wl.re T d,hx T d,fun _=>hc.re T d⟩
theorem _root_.Go.aC.eh.q (B:eh p_ C b 0 ae Fin h) (v:M') (hc:ay p_ C b 0 ae Fin Post h Rs wl (G (f.at (a.put x.dst v) (.inRegion ops rest::K)) cs)) (ho:ops[i]?=some x:=by exact rfl) (hS:gh h Rs:=by assumption) (hL:Lay C wl:=by assumption) (hw:U_ x (yielded ops a.tmps)=true:=by exact rfl) (hk:f.kind≠.early:=by k_ne) (cK:fN p_ il x=true:=by kernel_rfl) (hx:∀T d,(V' a.eval x).run p_ (wl.re T d)=.ok (.value v) (wl.re T d):=by (intro T d;go_simp<;>decide)):ay p_ C b 0 ae Fin Post h Rs wl (G (f.at a (.inRegion ops (i::rest)::K)) cs):=B.o v hx hc ho hS hL hw hk cK
theorem _root_.Go.aC.eh.v (B:eh p_ C b 0 ae Fin h) (hx:∀q:((Nat->Question->Nat)->Nat->Result Next)->Prop,(∀v,ay p_ C b 0 ae Fin Post h Rs wl (G (f.at (a.put x.dst v) (.inRegion ops rest::K)) cs)->q (fun T d=>.ok (.value v) (wl.re T d)))->q (fun T d=>(V' a.eval x).run p_ (wl.re T d))) (ho:ops[i]?=some x:=by exact rfl) (hS:gh h Rs:=by assumption) (hL:Lay C wl:=by assumption) (hw:U_ x (yielded ops a.tmps)=true:=by exact rfl) (hk:f.kind≠.early:=by k_ne) (cK:fN p_ il x=true:=by kernel_rfl):ay p_ C b 0 ae Fin Post h Rs wl (G (f.at a (.inRegion ops (i::rest)::K)) cs):=by
 obtain ⟨v,h1,h2⟩:=hx (fun r=>∃v,(∀T d,r T d=.ok (.value v) (wl.re T d))/\ay p_ C b 0 ae Fin Post h Rs wl (G (f.at (a.put x.dst v) (.inRegion ops rest::K)) cs)) (fun v hc=>⟨v,fun _ _=>rfl,hc⟩)
 exact B.o v h1 h2 ho hS hL hw hk cK
theorem _root_.Go.aC.eh.n {g:O'} {q:Prop} (B:eh p_ C b 0 ae Fin h) (k:q) (m:Go.aC.Hid q->ay p_ C b 0 ae Fin Post h Rs wl g:=by
 intro hq
 first
  |(with_reducible first
   |exact B.s hq.out
   |exact B.r hq.out
   |exact B.e hq.out)
  |exact B.t rfl hq.out
  |exact B.z rfl hq.out
  |(refine B.v fun K hy=> ?_
    go_simp
    refine hy _ ?_
    clear hy K
    walk_nrm
    exact hq.out)):ay p_ C b 0 ae Fin Post h Rs wl g:=m ⟨k⟩
theorem _root_.Go.aC.eh.p (B:eh p_ C b 0 ae Fin h) (hc:∀T d Bh,f_ (iM p_ C b 0 ae Fin Post h Rs f K cs=Bh)->c.wp p_ Bh a (wl.re T d)) (hS:gh h Rs:=by assumption) (hL:Lay C wl:=by assumption) (hf:OkFr p_ il (f.at a [.code c]):=by exact AB (by kernel_rfl) rfl rfl (by first|exact ⟨_,func121⟩|exact ⟨_,func124⟩|exact ⟨_,func130⟩|exact ⟨_,func122⟩|exact ⟨_,func123⟩|exact ⟨_,func136⟩)):ay p_ C b 0 ae Fin Post h Rs wl (G (f.at a (.code c::K)) cs):=ay.code (ok:=il) B pA hS hL hf fun T d=>hc T d _ rfl
variable {T:Nat->Question->Nat} {d:Nat}
theorem _root_.Go.aC.bh {Bh:Exit->Act->J'->Prop} (hB:iM p_ C b 0 ae Fin Post h Rs f K cs=Bh) (q:ay p_ C b 0 ae Fin Post h Rs wl (G (f.at a K) cs)):Bh .normal a (wl.re T d):=by subst hB;intro _;exact q.re T d
end
end Go.aC.Of
namespace Go.aC.Of
section
open Go Go.Conc Go.Conc.Lib Go.ConcR Go.ConcR.Gen Go.RowKit Go.aC Go.Proofs
open Go.ConcN (upd upd_ne upd_same)
structure Od where
 bt:Nat
 x:Nat
 k:Int
inductive Os where
 |live (u:Od)
 |gone
def Os.od:Os->Option Od
 | .live u=>some u
 | .gone=>none
def ZQ:M':=.agg #[.int .i64 0,.int .i64 0,.chan none]
def Os.ok (b:Nat):Os->aX->Prop
 | .live u,r=>r=.seat (.recv u.x ZQ true) (mZ b u.bt u.x u.k)
 | .gone,r=>r.leaving=true\/r=.none
variable {b:Nat}
theorem Os.Em {s:Os} {r r':aX} (h:s.ok b r) (ha:vS r r'):s.ok b r':=by
 cases s with
 |live u=>exact (mY ha).1 h
 |gone=>
  rcases ha with rfl|⟨_,h2⟩|⟨t,t',rfl,rfl⟩
  ·exact h
  ·exact .inl h2
  ·rcases h with h|h<;>cases h
def aY (b N h:Nat) (L:Nat->Os) (_:Nat->Prop) (ρ:Nat->aX) (n:Nat):Prop:=n=N/\∀j,j≠0->j≠h->(L j).ok b (ρ j)
def Si (b N h j:Nat) (pn:Port) (hn:O'->J'->Prop) (L:Nat->Os) (_:Nat->Prop) (ρ:Nat->aX) (n:Nat):Prop:=n=N/\ρ h=.seat pn hn/\∀i,i≠0->i≠h->i≠j->(L i).ok b (ρ i)
theorem aH (b N h:Nat) (L:Nat->Os):gh h (aY b N h L):=fun _ _ _ _ _ hh ha=>⟨hh.1,fun j hj KI=>Os.Em (hh.2 j hj KI) (ha j KI)⟩
theorem zL (b N h j:Nat) (pn:Port) (hn:O'->J'->Prop) (L:Nat->Os) (KI:h≠j):gh j (Si b N h j pn hn L):=fun _ _ _ _ _ hh ha=>⟨hh.1,(mY (ha h KI)).1 hh.2.1,fun i hi CS vG=>Os.Em (hh.2.2 i hi CS vG) (ha i vG)⟩
structure BB (C:cS) (L:Nat->Os):Prop where
 on:C.on
 no:∀g l,¬C.Pv g l
 ks:∀j u,j≠0->(L j).od=some u->KS C j u.bt
def Apart (L:Nat->Os):Prop:=∀i j u v,i≠0->j≠0->i≠j->(L i).od=some u->(L j).od=some v->u.x≠v.x
variable {C:cS} {N h j:Nat} {L:Nat->Os} {ae Fin:O'->J'->Prop} {Post:M'->J'->Prop} {wl:J'} {g bp gw:O'} {pn:Port} {hn:O'->J'->Prop}
theorem nJ {s:Os} {p:Port} {home:O'->J'->Prop} (h:s.ok b (.seat p home)):∃u,s=.live u/\p=.recv u.x ZQ true/\home=mZ b u.bt u.x u.k:=by
 cases s with
 |live u=>have h':aX.seat p home=.seat (.recv u.x ZQ true) (mZ b u.bt u.x u.k):=h;cases h';exact ⟨u,rfl,rfl,rfl⟩
 |gone=>rcases h with h|h<;>cases h
theorem RX (h:j≠0):(j==0)=false:=by simp [h]
variable {kk c':Nat}
theorem asks (B:eh p_ C b 0 ae Fin h) (hL:Lay C wl) (hD:Apart L) {u:Od} (hj:j≠0) (KI:j≠h) (hl:L j=.live u) (gv:wl.heap[u.x]?=some (.chan 0 #[] false kk kk false)) (hc':∃k',wl.heap[c']?=some (.chan 0 #[] false k' k' false))
 {q:M'} (fH:gP p_ false (.send u.x q I') g bp)
 (sx:∀w,(C.on->Live b 0 w)->∃n,Goes p_ false (RB C b 0 h) (DR C h) (fun g w=>∃NF,gP p_ false (.recv c' (.int .i64 0) false) g NF/\NF=gw) n (Go.Conc.served bp I') w)
 (hc:∀a₂ w,mZ b u.bt u.x u.k a₂ w->bI wl w->ay p_ C b 0 ae Fin Post j (Si b N h j (.recv c' (.int .i64 0) false) (fun g _=>g=gw) L) (wl.setChan u.x 0 #[] false (kk+1) (kk+1) false) (Go.Conc.served a₂ (.tuple #[q,.bool true]))):
 ay p_ C b 0 ae Fin Post h (aY b N h L) wl g:=by
 refine ay.passes B (aH b N h L) hL (p:=.recv u.x ZQ true) (pn:=.recv c' (.int .i64 0) false) (home:=mZ b u.bt u.x u.k) (hn:=fun g _=>g=gw) (kk:=kk) (j:=j) fH
  (fun rel ρ n hR=>by have:=hR.2 j hj KI;rw [hl] at this;exact this) KI rfl (by simp [Port.out]) (fun rel ρ n i p' pq hR hz hi hp hch Ui=> ?_) gv (fun w hw Ni=> ?_) hc' (fun rel ρ n hR hr hz=> ?_) (fun rel ρ n hR=> ?_) hc
 ·by_cases qJ:i=0
  ·subst qJ
   obtain ⟨s,hs⟩:=hz
   rw [hs] at hp;cases hp
  ·have h1:=hR.2 i qJ hi
   rw [hp] at h1
   obtain ⟨v,hv,rfl,rfl⟩:=nJ h1
   refine j_ fun hne=> ?_
   exact hD i j v u qJ hj hne (by rw [hv];rfl) (by rw [hl];rfl) hch
 ·obtain ⟨n,hg⟩:=sx w Ni
  refine ⟨n+1,fun _ _ _ _ h=>h,.inl ⟨n,rfl, ?_⟩⟩
  rw [RX B.ne]
  exact hg
 ·have key:∀x p h₁,upd (upd ρ j (.self 1 0)) h (.seat (.recv c' (.int .i64 0) false) fun g _=>g=gw) x=.seat p h₁->p.out=false:=fun x p h₁ hx=>by
   by_cases e1:x=h
   ·subst e1;rw [O_] at hx;cases hx;rfl
   ·rw [P_ _ _ e1] at hx
    by_cases e2:x=j
    ·subst e2;rw [O_] at hx;cases hx
    ·rw [P_ _ _ e2] at hx
     by_cases e3:x=0
     ·subst e3
      obtain ⟨s,hs⟩:=hz
      rw [hs] at hx;cases hx
     ·have h1:=hR.2 x e3 e1
      rw [hx] at h1
      obtain ⟨v,_,rfl,_⟩:=nJ h1
      rfl
  exact fun x y p p' h₁ iN hx hy _=>(key x p h₁ hx).trans (key y p' iN hy).symm
 ·refine ⟨hR.1,O_ _ _ _,fun i hi CS vG=> ?_⟩
  rw [P_ _ _ CS,P_ _ _ vG];exact hR.2 i hi CS
theorem answers (B:eh p_ C b 0 ae Fin j) (hL:Lay C wl) {u:Od} (hh:h≠0) (KI:j≠h) (hl:L j=.live u) (gv:wl.heap[c']?=some (.chan 0 #[] false kk kk false)) (hx:∃k',wl.heap[u.x]?=some (.chan 0 #[] false k' k' false))
 (hne:∀i v,i≠0->(L i).od=some v->v.x≠c') (hS:KS C j u.bt) {k':Int} {v:M'} (hT:Told b u.x k' bp) (ht:wl.cell? ⟨u.bt,0,none⟩=some (.chan (some u.x))) (fH:gP p_ false (.send c' v I') g bp)
 (hc:ay p_ C b 0 ae Fin Post h (aY b N h (upd L j (.live ⟨u.bt,u.x,k'⟩))) (wl.setChan c' 0 #[] false (kk+1) (kk+1) false) (Go.Conc.served gw v)):
 ay p_ C b 0 ae Fin Post j (Si b N h j (.recv c' (.int .i64 0) false) (fun g _=>g=gw) L) wl g:=by
 have Nn:=B.ne
 refine ay.passes B (zL b N h j _ _ L (ru KI)) hL (p:=.recv c' (.int .i64 0) false) (pn:=.recv u.x ZQ true) (home:=fun g _=>g=gw) (hn:=mZ b u.bt u.x k') (kk:=kk) (j:=h) fH
  (fun rel ρ n hR=>hR.2.1) (ru KI) rfl (by simp [Port.out]) (fun rel ρ n i p' pq hR hz hi hp hch Ui=> ?_) gv (fun w hw Ni=> ?_) hx (fun rel ρ n hR hr hz=> ?_) (fun rel ρ n hR=> ?_) (fun a₂ w ha _=>by cases ha;exact hc)
 ·by_cases qJ:i=0
  ·subst qJ
   obtain ⟨s,hs⟩:=hz
   rw [hs] at hp;cases hp
  ·refine j_ fun CS=> ?_
   have h1:=hR.2.2 i qJ CS hi
   rw [hp] at h1
   obtain ⟨w,hw,rfl,rfl⟩:=nJ h1
   exact hne i w qJ (by rw [hw];rfl) hch
 ·have hch:w.cell? ⟨u.bt,0,none⟩=some (.chan (some u.x)):=hw.cell ((dW gv rfl _ _ _ _ _ _ _).1.trans ht)
  obtain ⟨n,hg⟩:=Jb hS ⟨hch,Ni hS.on⟩ hT
  refine ⟨n+1,fun w w₁ g r=>xB hS w w₁ g r,.inl ⟨n,rfl, ?_⟩⟩
  rw [RX Nn]
  exact hg
 ·have key:∀x p h₁,upd (upd ρ h (.self 1 0)) j (.seat (.recv u.x ZQ true) (mZ b u.bt u.x k')) x=.seat p h₁->p.out=false:=fun x p h₁ hx=>by
   by_cases e1:x=j
   ·subst e1;rw [O_] at hx;cases hx;rfl
   ·rw [P_ _ _ e1] at hx
    by_cases e2:x=h
    ·subst e2;rw [O_] at hx;cases hx
    ·rw [P_ _ _ e2] at hx
     by_cases e3:x=0
     ·subst e3
      obtain ⟨s,hs⟩:=hz
      rw [hs] at hx;cases hx
     ·have h1:=hR.2.2 x e3 e2 e1
      rw [hx] at h1
      obtain ⟨v,_,rfl,_⟩:=nJ h1
      rfl
  exact fun x y p p' h₁ iN hx hy _=>(key x p h₁ hx).trans (key y p' iN hy).symm
 ·refine ⟨hR.1,fun i hi CS=> ?_⟩
  by_cases e:i=j
  ·subst e;rw [O_,O_];rfl
  ·rw [P_ _ _ e,P_ _ _ e,P_ _ _ CS];exact hR.2.2 i hi CS e
theorem Zq {p:Prop} (h:p):f_ p:=h
structure dI (w w':J'):Prop where
 cells:∀a v,w.cell? a=some v->w'.cell? a=some v/\w'.frozen? a=w.frozen? a
 blk:∀(r:Nat) (ob:Obj),w.heap[r]?=some ob->w'.heap[r]?=some ob
 size:w.heap.size<=w'.heap.size
variable {w w':J'}
theorem dI.gz (h:dI w w') (r:Nat) (ob:Obj) (hr:w.heap[r]?=some ob) (_:vV ob=false):w'.heap[r]?=some ob:=h.blk r ob hr
theorem dI.refl (w:J'):dI w w:=⟨fun _ _ h=>⟨h,rfl⟩,fun _ _ h=>h,C_ _⟩
theorem dI.trans {a b c:J'} (h:dI a b) (k:dI b c):dI a c:=
 ⟨fun x v hx=>⟨(k.cells x v (h.cells x v hx).1).1,(k.cells x v (h.cells x v hx).1).2.trans (h.cells x v hx).2⟩,fun r ob hr=>k.blk r ob (h.blk r ob hr),D_ h.size k.size⟩
theorem dI.re (h:dI w w') (T:Nat->Question->Nat) (d:Nat):dI w (w'.re T d):=⟨h.cells,h.blk,h.size⟩
theorem dI.alloc (h:dI w w') (o:Obj):dI w (w'.alloc o):=by
 refine h.trans ⟨fun a v ha=> ?_,fun r ob hr=> ?_,by simp⟩
 ·obtain ⟨c,e,f,hb,_⟩:=dF ha
  have hlt:=(cI hb)
  have e2:(w'.alloc o).heap[a.block]?=w'.heap[a.block]?:=by simp only [World.alloc];rw [Array.getElem?_push_lt hlt,H_ hlt]
  exact ⟨(J_ e2).trans ha,m_ e2⟩
 ·have hlt:=(cI hr)
  simp only [World.alloc];rw [Array.getElem?_push_lt hlt,<-hr,H_ hlt]
variable {Rs:(Nat->Prop)->(Nat->aX)->Nat->Prop}
variable {x:Nat}
theorem Qc (B:eh p_ C b 0 ae Fin j) (hS:gh j Rs) (hL:Lay C wl) {bt:Nat} {k kind call:Int} {a₂:O'} (hh:mZ b bt x k a₂ w)
 (h:∀aK g bp,Lay C aK->dI wl aK->gP p_ false (.send c' (.int .i64 (if kind=1 then call else k)) I') g bp->Told b x (if kind=1 then call else k) bp->ay p_ C b 0 ae Fin Post j Rs aK g):
 ay p_ C b 0 ae Fin Post j Rs wl (Go.Conc.served a₂ (.tuple #[.agg #[.int .i64 kind,.int .i64 call,.chan (some c')],.bool true])):=by
 obtain ⟨-, F,v1,v3,v5,v6,v7,v8,v9,v10,v11,v12,v13,v14,v15,rfl⟩:=hh
 rw [mD]
 simp only [Ei,zW,nZ,f70,A_]
 walk_nrm
 iterate 3 refine B.n ?_
 refine ay.ctl B hS hL rfl (fun _=>stepG_cond (t:=true) rfl) ?_;simp only [qp,↓reduceIte]
 refine ay.ctl B hS hL rfl (fun _=>stepG_skip) ?_
 refine ay.ctl B hS hL rfl (fun _=>stepG_block) ?_
 refine B.s ?_
 refine ay.code B pA hS hL (AB (by kernel_rfl) rfl rfl ⟨_,func70⟩) ?_
 intro T d
 generalize hB:iM p_ C b 0 ae Fin Post j Rs _ _ _=Bh
 go_wp2
 subst hB
 intro hc
 have KE:=hc
 have fJ:Lay C (wl.alloc (.cells #[.int .i64 kind,.int .i64 call,.chan (some c')] 142)):=⟨Cut.j8 (T:=T) (d:=d) hc,hL.no⟩
 clear hc KE
 have hK:dI wl (wl.alloc (.cells #[.int .i64 kind,.int .i64 call,.chan (some c')] 142)):=(dI.refl wl).alloc _
 have hb:(wl.alloc (.cells #[.int .i64 kind,.int .i64 call,.chan (some c')] 142)).heap[wl.heap.size]?=some (.cells #[.int .i64 kind,.int .i64 call,.chan (some c')] 142):=Z' _ _
 have f0:(wl.alloc (.cells #[.int .i64 kind,.int .i64 call,.chan (some c')] 142)).cell? ⟨wl.heap.size,0,none⟩=some (.int .i64 kind):=by unfold World.cell?;rw [hb];rfl
 have f1:(wl.alloc (.cells #[.int .i64 kind,.int .i64 call,.chan (some c')] 142)).cell? ⟨wl.heap.size,1,none⟩=some (.int .i64 call):=by unfold World.cell?;rw [hb];rfl
 have f2:(wl.alloc (.cells #[.int .i64 kind,.int .i64 call,.chan (some c')] 142)).cell? ⟨wl.heap.size,2,none⟩=some (.chan (some c')):=by unfold World.cell?;rw [hb];rfl
 clear hb
 refine ay.re (wl:=wl.alloc (.cells #[.int .i64 kind,.int .i64 call,.chan (some c')] 142)) ?_ T d
 show ay p_ C b 0 ae Fin Post j Rs (wl.alloc (.cells #[.int .i64 kind,.int .i64 call,.chan (some c')] 142)) (G ((base 70).at ⟨#[.chan (some x),v1,.int .i64 k,.pointer (some ⟨wl.heap.size,0,none⟩),.chan (some x),.tuple #[.agg #[.int .i64 kind,.int .i64 call,.chan (some c')],.bool true],.bool true,.agg #[.int .i64 kind,.int .i64 call,.chan (some c')],v8,v9,v10,v11,v12,v13,v14,v15],[]⟩ _) _)
 generalize wl.alloc (.cells #[.int .i64 kind,.int .i64 call,.chan (some c')] 142)=W at *
 generalize wl.heap.size=s at *
 refine B.s ?_
 refine ay.code B pA hS fJ (AB (by kernel_rfl) rfl rfl ⟨_,func70⟩) ?_
 intro T d
 have g0:(W.re T d).cell? ⟨s,0,none⟩=some (.int .i64 kind):=f0
 have g1:(W.re T d).cell? ⟨s,1,none⟩=some (.int .i64 call):=f1
 generalize hB:iM p_ C b 0 ae Fin Post j Rs _ _ _=Bh
 have fin:∀(r:Int) (v8 v9 v10 v11 v12:M'),r=(if kind=1 then call else k)->ay p_ C b 0 ae Fin Post j Rs W (G ((base 70).at ⟨#[.chan (some x),v1,.int .i64 r,.pointer (some ⟨s,0,none⟩),.chan (some x),.tuple #[.agg #[.int .i64 kind,.int .i64 call,.chan (some c')],.bool true],.bool true,.agg #[.int .i64 kind,.int .i64 call,.chan (some c')],v8,v9,v10,v11,v12,v13,v14,v15],[]⟩ (.code (match nZ with| .seq _ (.seq _ (.block _ (.loop (.seq _ (.seq _ (.block _ (.seq _ (.seq _ c))))))))=>c|_=>.skip)::vU)) [(baseD 68).at ⟨F,[dcall 69 #[.pointer (some ⟨b,0,none⟩)]]⟩ [.inRegion FH [1]],bot]):=by
  intro r v8 v9 v10 v11 v12 hr
  simp only [vU,nZ,f70,A_]
  iterate 2 refine B.n ?_
  refine B.o (.chan (some c')) (fun T d=> ?_) ?_
  ·have h2:(W.re T d).cell? ⟨s,2,none⟩=some (.chan (some c')):=f2
   go_simp
  walk_nrm
  refine B.n ?_
  subst hr
  refine h W _ _ fJ hK (rS rfl rfl (by k_ne) (fun w=> ?_) (fun w=> ?_)) ⟨F,_,_,_,_,_,_,_,_,_,_,_,_,_,rfl⟩
  ·go_simp
   exact ⟨rfl,rfl⟩
  ·simp [go_sem, *]
 have kk:=Zq fin
 clear fin h
 by_cases hk:kind=1
 ·subst hk
  go_wp2
  subst hB
  intro hc
  exact ay.re (kk.out call _ _ _ _ _ rfl) T d
 ·have fS:(kind==1)=false:=beq_eq_false_iff_ne.2 hk
  go_wp2
  subst hB
  intro hc
  exact ay.re (kk.out k _ _ _ _ _ (by rw [if_neg hk])) T d
def Ch (w:J') (r:Nat):Prop:=∃k,w.heap[r]?=some (.chan 0 #[] false k k false)
structure gN (x:Nat) (w w':J'):Prop where
 cells:∀a v,w.cell? a=some v->w'.cell? a=some v/\w'.frozen? a=w.frozen? a
 blk:∀(r:Nat) (ob:Obj),w.heap[r]?=some ob->r≠x->w'.heap[r]?=some ob
 size:w.heap.size<=w'.heap.size
theorem gN.of (h:dI w w'):gN x w w':=⟨h.cells,fun r ob h1 _=>h.blk r ob h1,h.size⟩
theorem gN.trans {a b c:J'} (h:gN x a b) (k:gN x b c):gN x a c:=
 ⟨fun y v hy=>⟨(k.cells y v (h.cells y v hy).1).1,(k.cells y v (h.cells y v hy).1).2.trans (h.cells y v hy).2⟩,fun r ob hr hx=>k.blk r ob (h.blk r ob hr hx) hx,D_ h.size k.size⟩
variable {ob:Obj}
theorem gN.chan (ho:w.heap[x]?=some ob) (hc:vV ob=false) (cap:Nat) (buf:Array M') (cl:Bool) (s r:Nat) (tm:Bool):gN x w (w.setChan x cap buf cl s r tm):=
 ⟨fun a v ha=>⟨(dW ho hc cap buf cl s r tm a).1.trans ha,(dW ho hc cap buf cl s r tm a).2⟩,fun r' zk h1 hx=>by rw [ft (ru hx)];exact h1,by simp only [World.setChan,X_];exact C_ _⟩
theorem gN.other {y:Nat} (h:gN x w w') (hy:w.heap.size<=y) (ho:w'.heap[y]?=some ob) (hc:vV ob=false) (cap:Nat) (buf:Array M') (cl:Bool) (s r:Nat) (tm:Bool):gN x w (w'.setChan y cap buf cl s r tm):=
 ⟨fun a v ha=>⟨(dW ho hc cap buf cl s r tm a).1.trans (h.cells a v ha).1,(dW ho hc cap buf cl s r tm a).2.trans (h.cells a v ha).2⟩,fun r' zk h1 hx=>by
  have hlt:=(cI h1)
  rw [ft (by omega)];exact h.blk r' zk h1 hx,by simp only [World.setChan,X_];exact h.size⟩
noncomputable def dv:Code:=f101.body.getD .skip
theorem TL (w:J'):(Instr.makeChan 78 (.int .i64 0)).run p_ w=.ok (.chan (some w.heap.size)) (w.alloc (.chan 0 #[] false 0 0 false)):=by
 obtain ⟨i,hi⟩:∃i,Tryz.prog.info? 3=some i:=Option.isSome_iff_exists.1 (by kernel_rfl)
 exact run_makeChan (P:=p_) (w:=w) (t:=78) (e:=3) (dir:=.both) (by kernel_rfl) hi .i64 0 (by decide) (by simp)
variable {aI:Y'} {aS:Act} {av:Array y_} {aN:Nat} {sg:List Nat} {aV:List x_} {cs:List Y'}
variable {hb:Nat}
theorem VS (B:eh p_ C b 0 ae Fin h) (hL:Lay C wl) {op:Nat} {kind call:Int}
 (hc:Lay C (wl.alloc (.chan 0 #[] false 0 0 false))->ay p_ C b 0 ae Fin Post h (aY b N h L) (wl.alloc (.chan 0 #[] false 0 0 false)) (G ((base 101).at ⟨#[.pointer (some ⟨hb,0,none⟩),.int .i64 op,.int .i64 kind,.int .i64 call,I',I',I',I',.int .i64 0,.chan (some wl.heap.size),.chan (some wl.heap.size),I',I',I',I',I',I',I',I',I',I',I',I',I',I'],[]⟩ [.code (az 2 dv)]) cs)):
 ay p_ C b 0 ae Fin Post h (aY b N h L) wl (G ((base 101).at ⟨#[.pointer (some ⟨hb,0,none⟩),.int .i64 op,.int .i64 kind,.int .i64 call]++F_ 21 I',[]⟩ [.code dv]) cs):=by
 have hS:=aH b N h L
 have ea:(#[.pointer (some ⟨hb,0,none⟩),.int .i64 op,.int .i64 kind,.int .i64 call]++F_ 21 I':Array M')=#[.pointer (some ⟨hb,0,none⟩),.int .i64 op,.int .i64 kind,.int .i64 call,I',I',I',I',I',I',I',I',I',I',I',I',I',I',I',I',I',I',I',I',I']:=by kernel_rfl
 rw [ea]
 have e1:dv=.seq (ai 0 dv) (.seq (ai 1 dv) (az 2 dv)):=by kernel_rfl
 rw [e1]
 generalize hK:[lN (az 2 dv)]=K at *
 simp only [ai,dv,f101,A_]
 iterate 6 refine B.n ?_
 refine ay.op (ok:=il) B hS hL rfl rfl (by k_ne) (by kernel_rfl) (fun T d=>⟨.chan (some wl.heap.size),(wl.alloc (.chan 0 #[] false 0 0 false)).re T d, ?_,fun hcut=>ay.re ?_ T d⟩)
 ·have h1:=TL (wl.re T d)
  go_simp
  exact ⟨rfl,rfl⟩
 have fJ:Lay C (wl.alloc (.chan 0 #[] false 0 0 false)):=⟨Cut.j8 hcut,hL.no⟩
 walk_nrm
 refine ay.op (ok:=il) B hS fJ rfl rfl (by k_ne) (by kernel_rfl) (fun T d=>⟨.chan (some wl.heap.size),(wl.alloc (.chan 0 #[] false 0 0 false)).re T d, ?_,fun _=>ay.re ?_ T d⟩)
 ·go_simp
 walk_nrm
 refine B.e ?_
 subst hK
 exact hc fJ
noncomputable def Aj:Array y_:=match dv with| .seq _ (.seq _ (.seq _ (.seq (.region _ ops _) _)))=>ops|_=>#[]
theorem V7 (C:cS) (b h:Nat):Wk (RB C b 0 h) (DR C h) (fun _=>True):=⟨fun _ _ _ _=>trivial,fun _=>⟨Out.refl _ _,fun e he=>by simp at he⟩⟩
variable {cp i:Nat}
theorem VR (B:eh p_ C b 0 ae Fin h) (hL:Lay C wl) (hD:Apart L) (hP:BB C L) {ob n:Nat} {kind call:Int} {u:Od} (hj:j≠0) (KI:j≠h) (hl:L j=.live u) (Nq:i<n) (UL:i<1000)
 (hcell:wl.cell? ⟨hb,6,none⟩=some (.slice (some ⟨ob,0,none⟩) n cp)) (hx:wl.cell? ⟨ob,i,none⟩=some (.chan (some u.x))) (ht:wl.cell? ⟨u.bt,0,none⟩=some (.chan (some u.x)))
 (gv:wl.heap[u.x]?=some (.chan 0 #[] false kk kk false)) (hc':wl.heap[c']?=some (.chan 0 #[] false 0 0 false)) (hne:∀i v,i≠0->(L i).od=some v->v.x≠c')
 (hc:∀aK,Lay C aK->(∃w1 w2 zk,dI (wl.setChan u.x 0 #[] false (kk+1) (kk+1) false) w1/\w1.heap[c']?=some zk/\vV zk=false/\w2=w1.setChan c' 0 #[] false 1 1 false/\aK=w2)->ay p_ C b 0 ae Fin Post h (aY b N h (upd L j (.live ⟨u.bt,u.x,if kind=1 then call else u.k⟩))) aK (G (aI.at (aS.put ((av[aN]?).bind (·.dst)) (.int .i64 (if kind=1 then call else u.k))) (.inRegion av sg::aV)) cs)):
 ay p_ C b 0 ae Fin Post h (aY b N h L) wl (G ((base 101).at ⟨#[.pointer (some ⟨hb,0,none⟩),.int .i64 ((i:Int)+1),.int .i64 kind,.int .i64 call,I',I',I',I',.int .i64 0,.chan (some c'),.chan (some c'),I',I',I',I',I',I',I',I',I',I',I',I',I',I'],[]⟩ [.code (az 2 dv)]) (aI.at aS (.inRegion av (aN::sg)::aV)::cs)):=by
 have hS:=aH b N h L
 have hxc:u.x≠c':=hne j u hj (by rw [hl];rfl)
 have Bj:eh p_ C b 0 ae Fin j:=⟨hj,B.run,B.back⟩
 have e1:az 2 dv=.seq (ai 2 dv) (az 3 dv):=by kernel_rfl
 rw [e1]
 refine B.s ?_
 generalize hK:[lN (az 3 dv)]=K at *
 simp only [ai,dv,f101,A_]
 iterate 4 refine B.n ?_
 refine B.o (.slice (some ⟨ob,0,none⟩) n cp) (fun T d=> ?_) ?_
 ·have h0:(wl.re T d).cell? ⟨hb,6,none⟩=some (.slice (some ⟨ob,0,none⟩) n cp):=hcell
  go_simp
 walk_nrm
 refine B.n ?_
 refine B.o (.int .i64 (i:Int)) (fun T d=> ?_) ?_
 ·go_simp
  exact IntWalk.i64_in _ (by omega)
 walk_nrm
 refine B.n ?_
 refine B.o (.chan (some u.x)) (fun T d=> ?_) ?_
 ·have h0:(wl.re T d).cell? ⟨ob,i,none⟩=some (.chan (some u.x)):=hx
  go_simp
 walk_nrm
 iterate 4 refine B.n ?_
 refine asks B hL hD hj KI hl gv ⟨0,hc'⟩ (q:=.agg #[.int .i64 kind,.int .i64 call,.chan (some c')]) (gw:=G ((base 101).at ⟨#[.pointer (some ⟨hb,0,none⟩),.int .i64 ((i:Int)+1),.int .i64 kind,.int .i64 call,I',I',I',I',.int .i64 0,.chan (some c'),.chan (some c'),.pointer (some ⟨hb,0,none⟩),.pointer (some ⟨hb,0,none⟩),.pointer (some ⟨hb,6,none⟩),.slice (some ⟨ob,0,none⟩) n cp,.int .i64 ((i:Int)+1),.int .i64 (i:Int),.pointer (some ⟨ob,i,none⟩),.chan (some u.x),.int .i64 kind,.int .i64 call,.chan (some c'),.agg #[.int .i64 kind,.int .i64 call,.chan (some c')],.chan (some c'),I'],[]⟩ [.inRegion Aj [1,2],.code .ret]) (aI.at aS (.inRegion av (aN::sg)::aV)::cs)) (rS rfl rfl (by k_ne) (fun w=> ?_) (fun w=> ?_)) (fun w hw=> ?_) (fun a₂ w hh vC=> ?_)
 ·go_simp
  exact ⟨rfl,rfl⟩
 ·simp [go_sem, *]
 ·have W:=V7 C b h
  suffices hs:∃n,∀w,True->Goes p_ false (RB C b 0 h) (DR C h) _ n (Go.Conc.served _ I') w from hs.imp fun n hn=>hn w trivial
  rw [mD]
  subst hK
  simp only [Aj,az,dv,f101,A_]
  walk_nrm
  refine W.ctl rfl (fun _=>stepG_region_end) ?_
  refine W.ctl rfl (fun _=>stepG_seq) ?_
  refine W.ctl rfl (fun _=>zb) ?_
  refine W.val rfl rfl (by k_ne) (fun _=>by simp [go_sem, *]) (fun K hy=> ?_);go_simp;(try w_num);refine hy _ ?_;clear hy K;walk_nrm
  refine W.stop fun w _=>⟨_,rS rfl rfl (by k_ne) (fun w=> ?_) (fun w=> ?_),rfl⟩
  ·go_simp
   exact ⟨rfl,rfl⟩
  ·simp [go_sem, *]
 ·refine Qc Bj (zL b N h j _ _ L (ru KI)) (hL.setChan gv rfl _ _ _ _ _ _) hh fun aK g bp du Ru fH hT=> ?_
  have BJ:(wl.setChan u.x 0 #[] false (kk+1) (kk+1) false).heap[c']?=some (.chan 0 #[] false 0 0 false):=by rw [ft hxc];exact hc'
  have OU:=Ru.gz _ _ BJ rfl
  have hlt:=(cI gv)
  have M0:(wl.setChan u.x 0 #[] false (kk+1) (kk+1) false).heap[u.x]?=some (.chan 0 #[] false (kk+1) (kk+1) false):=by rw [gS,if_pos rfl,if_pos hlt]
  refine answers Bj du B.ne KI hl OU ⟨_,Ru.gz _ _ M0 rfl⟩ hne (hP.ks j u hj (by rw [hl];rfl)) hT (Ru.cells _ _ ((dW gv rfl _ _ _ _ _ _ _).1.trans ht)).1 fH ?_
  have gA:=du.setChan OU rfl 0 #[] false 1 1 false
  rw [mD]
  have uh:=aH b N h (upd L j (.live ⟨u.bt,u.x,if kind=1 then call else u.k⟩))
  have hk:=hc _ gA ⟨_,_,_,Ru,OU,rfl,rfl,rfl⟩
  clear hc
  generalize aK.setChan c' 0 #[] false 1 1 false=W at *
  generalize (if kind=1 then call else u.k)=r at *
  simp only [Aj,dv,f101,A_]
  walk_nrm
  iterate 2 refine B.n ?_
  refine ay.ctl B uh gA rfl (fun _=>ma) ?_
  refine ay.ctl B uh gA rfl (fun _=>aZ rfl rfl func101 rfl) ?_
  exact hk
theorem ask (B:eh p_ C b 0 ae Fin h) (hL:Lay C wl) (hD:Apart L) (hP:BB C L) (hch:∀i v,i≠0->(L i).od=some v->Ch wl v.x) {ob n:Nat} {kind call:Int} {u:Od} (hj:j≠0) (KI:j≠h) (hl:L j=.live u) (Nq:i<n) (UL:i<1000)
 (hcell:wl.cell? ⟨hb,6,none⟩=some (.slice (some ⟨ob,0,none⟩) n cp)) (hx:wl.cell? ⟨ob,i,none⟩=some (.chan (some u.x))) (ht:wl.cell? ⟨u.bt,0,none⟩=some (.chan (some u.x)))
 (hc:∀aK,Lay C aK->gN u.x wl aK->Ch aK u.x->ay p_ C b 0 ae Fin Post h (aY b N h (upd L j (.live ⟨u.bt,u.x,if kind=1 then call else u.k⟩))) aK (G (aI.at (aS.put ((av[aN]?).bind (·.dst)) (.int .i64 (if kind=1 then call else u.k))) (.inRegion av sg::aV)) cs)):
 ay p_ C b 0 ae Fin Post h (aY b N h L) wl (G ((base 101).at ⟨#[.pointer (some ⟨hb,0,none⟩),.int .i64 ((i+1:Nat):Int),.int .i64 kind,.int .i64 call]++F_ 21 I',[]⟩ [.code dv]) (aI.at aS (.inRegion av (aN::sg)::aV)::cs)):=by
 refine VS B hL fun fJ=> ?_
 have hK:dI wl (wl.alloc (.chan 0 #[] false 0 0 false)):=(dI.refl wl).alloc _
 have lG:(wl.alloc (.chan 0 #[] false 0 0 false)).heap[wl.heap.size]?=some (.chan 0 #[] false 0 0 false):=Z' _ _
 obtain ⟨kk,gv⟩:=hch j u hj (by rw [hl];rfl)
 have hlt:=(cI gv)
 have Rc:=hK.gz _ _ gv rfl
 refine VR (aI:=aI) (aS:=aS) (av:=av) (aN:=aN) (sg:=sg) (aV:=aV) B fJ hD hP hj KI hl Nq UL (hK.cells _ _ hcell).1 (hK.cells _ _ hx).1 (hK.cells _ _ ht).1 Rc lG (fun i v hi hv=> ?_) fun aK du hex=> ?_
 ·obtain ⟨k,hk⟩:=hch i v hi hv
  have:=(cI hk)
  omega
 ·obtain ⟨w1,w2,zk,Ru,ho,rq,rfl,rfl⟩:=hex
  have k1:gN u.x wl w1:=((gN.of hK).trans (gN.chan Rc rfl 0 #[] false (kk+1) (kk+1) false)).trans (gN.of Ru)
  refine hc _ du (k1.other (C_ _) ho rq 0 #[] false 1 1 false) ⟨kk+1, ?_⟩
  rw [ft (by omega)]
  refine Ru.gz _ _ ?_ rfl
  rw [gS,if_pos rfl,if_pos (cI Rc)]
end
section
open Go Go.Conc Go.Conc.Lib Go.ConcR Go.ConcR.Gen Go.aC Go.Proofs
open Go.RowKit hiding Hid
open Go.ConcN (upd upd_ne upd_same)
variable {A:Ha} {S:Hs} {vw vb vr va vt:M'} {w w':J'}
variable {x:Nat}
theorem aQ.pf (h:aQ A S vw vb vr va vt w) (k:gN x w w') (hx:Ch w x):aQ A S vw vb vr va vt w':=by
 obtain ⟨kk,hx⟩:=hx
 have hs:∀(r:Nat) (cs:Array M') (e:Q') (f:Nat × Nat),w.heap[r]?=some (jY cs e f)->w'.heap[r]?=some (jY cs e f):=fun r cs e f hr=>k.blk r _ hr (fun e1=>by rw [e1,hx] at hr;cases hr)
 have hm:∀{r:Nat} {K:Type} {enc:K->M'} {f:K->Option M'},ed w r enc f->ed w' r enc f:=fun {r K enc f} hr=>by
  obtain ⟨es,cl,h1,h2⟩:=hr.ex
  exact ⟨es,cl,k.blk r _ h1 (fun e1=>by rw [e1,hx] at h1;cases h1),h2⟩
 have own:∀{B e s n:Nat} {v:M'} {xs:List M'},w.ownsRow B e s v n xs->w'.ownsRow B e s v n xs:=fun {B e s n v xs} hr=>⟨hr.1,hr.2.imp id fun ⟨g,cap,cur,h1,h2,h3,h4⟩=>⟨g,cap,cur,h1,h2,hs _ _ _ _ h3,h4⟩⟩
 exact ⟨h.ok,D_ h.big k.size,hs _ _ _ _ h.box,fun i hi=>(k.cells _ _ (h.lines i hi)).1,hm h.on,hm h.of,hm h.rc,own h.wait,own h.back,own h.recs,own h.log,own h.cg,h.apart⟩
structure bN (C:cS) (A:Ha) (N0 h:Nat) (us:List Od) (L:Nat->Os) (w:J'):Prop where
 len:us.length=A.m
 small:A.m<=999/\∀j v,j≠0->(L j).od=some v->∃i,i<us.length/\j=N0+i
 live:∀i (hi:i<us.length),L (N0+i)=.live us[i]
 n0:∀i,i<us.length->N0+i≠0/\N0+i≠h
 ap:Apart L
 fo:BB C L
 kM:∀j v,j≠0->(L j).od=some v->Ch w v.x/\v.x<A.B
 cells:∀i (hi:i<us.length),w.cell? ⟨A.ob,i,none⟩=some (.chan (some us[i].x))/\w.cell? ⟨us[i].bt,0,none⟩=some (.chan (some us[i].x))/\us[i].bt<A.B/\us[i].bt≠A.hb
variable {m:Nat}
theorem dX {r:Nat} {K:Type} {enc:K->M'} {f:K->Option M'} (hm:ed w m enc f) (hr:∀es c,w.heap[r]?≠some (.map es c)):r≠m:=fun e=>by
 obtain ⟨es,cl,h1,_⟩:=hm.ex
 exact hr es cl (e▸h1)
variable {C:cS} {N0 h:Nat} {us:List Od} {L:Nat->Os}
theorem bN.fr (K:bN C A N0 h us L w) (H:aQ A S vw vb vr va vt w) (F:Fr A w w'):bN C A N0 h us L w':=by
 refine ⟨K.len,K.small,K.live,K.n0,K.ap,K.fo,fun j v hj hv=> ?_,fun i hi=> ?_⟩
 ·obtain ⟨⟨kk,hk⟩,hb⟩:=K.kM j v hj hv
  have nm:∀es c,w.heap[v.x]?≠some (.map es c):=fun es c e=>by rw [hk] at e;cases e
  refine ⟨⟨kk, ?_⟩,hb⟩
  rw [F.block v.x hb (fun e=>by have:=H.box;rw [<-e,hk] at this;cases this) (dX H.on nm) (dX H.of nm) (dX H.rc nm)]
  exact hk
 ·obtain ⟨h1,h2,h3,h4⟩:=K.cells i hi
  have nm:∀{r o:Nat} {v:M'},w.cell? ⟨r,o,none⟩=some v->∀es c,w.heap[r]?≠some (.map es c):=fun {r o v} hr es c e=>by simp [World.cell?,e] at hr
  refine ⟨?_, ?_,h3,h4⟩
  ·rw [J_ (F.block A.ob H.ok.ob H.ok.d3.1 (dX H.on (nm h1)) (dX H.of (nm h1)) (dX H.rc (nm h1)))];exact h1
  ·rw [J_ (F.block _ h3 h4 (dX H.on (nm h2)) (dX H.of (nm h2)) (dX H.rc (nm h2)))];exact h2
def told (us:List Od) (i:Nat) (kind call:Int):List Od:=us.modify i fun u=>⟨u.bt,u.x,if kind=1 then call else u.k⟩
variable {i j:Nat}
theorem BU {kind call:Int} (hi:i<us.length) (hj:j<(told us i kind call).length):(told us i kind call)[j]=if i=j then ⟨us[i].bt,us[i].x,if kind=1 then call else us[i].k⟩ else us[j]'(by simpa [told] using hj):=by
 unfold told at hj ⊢
 rw [List.getElem_modify]
 split
 ·rename_i e;subst e;rfl
 ·rfl
theorem bN.told (K:bN C A N0 h us L w) (hi:i<us.length) {kind call:Int} (k:gN us[i].x w w') (hc:Ch w' us[i].x):bN C A N0 h (told us i kind call) (upd L (N0+i) (.live ⟨us[i].bt,us[i].x,if kind=1 then call else us[i].k⟩)) w':=by
 have hlen:(Of.told us i kind call).length=us.length:=by simp [Of.told]
 have ye:∀j v,j≠0->(upd L (N0+i) (.live ⟨us[i].bt,us[i].x,if kind=1 then call else us[i].k⟩) j).od=some v->∃v',(L j).od=some v'/\v'.x=v.x/\v'.bt=v.bt:=fun j v hj hv=>by
  by_cases e:j=N0+i
  ·subst e
   rw [O_] at hv
   simp only [Os.od,n_] at hv
   subst hv
   exact ⟨us[i],by rw [K.live i hi];rfl,rfl,rfl⟩
  ·rw [P_ _ _ e] at hv
   exact ⟨v,hv,rfl,rfl⟩
 refine ⟨by rw [hlen];exact K.len,⟨K.small.1,fun j v hj hv=>by obtain ⟨v',h1,_⟩:=ye j v hj hv;rw [hlen];exact K.small.2 j v' hj h1⟩,fun j hj=> ?_,fun j hj=>K.n0 j (hlen▸hj),fun a c u v ha hc' ZT hu hv=> ?_,⟨K.fo.on,K.fo.no,fun j u hj hu=> ?_⟩,fun j v hj hv=> ?_,fun j hj=> ?_⟩
 ·rw [BU hi]
  by_cases e:i=j
  ·subst e;rw [if_pos rfl,O_]
  ·rw [if_neg e,P_ _ _ (by omega)];exact K.live j (hlen▸hj)
 ·obtain ⟨u',h1,h2,_⟩:=ye a u ha hu
  obtain ⟨v',h3,h4,_⟩:=ye c v hc' hv
  rw [<-h2,<-h4];exact K.ap a c u' v' ha hc' ZT h1 h3
 ·obtain ⟨u',h1,_,h3⟩:=ye j u hj hu
  rw [<-h3];exact K.fo.ks j u' hj h1
 ·obtain ⟨v',h1,h2,_⟩:=ye j v hj hv
  obtain ⟨⟨kk,hk⟩,hb⟩:=K.kM j v' hj h1
  rw [<-h2]
  refine ⟨?_,hb⟩
  by_cases e:v'.x=us[i].x
  ·rw [e];exact hc
  ·exact ⟨kk,k.blk _ _ hk e⟩
 ·have EL:j<us.length:=hlen▸hj
  obtain ⟨h1,h2,h3,h4⟩:=K.cells j EL
  rw [BU hi]
  by_cases e:i=j
  ·subst e;rw [if_pos rfl];exact ⟨(k.cells _ _ h1).1,(k.cells _ _ h2).1,h3,h4⟩
  ·rw [if_neg e];exact ⟨(k.cells _ _ h1).1,(k.cells _ _ h2).1,h3,h4⟩
variable {b N:Nat} {ae Fin:O'->J'->Prop} {Post:M'->J'->Prop} {wl:J'} {aI:Y'} {aS:Act} {av:Array y_} {aN:Nat} {sg:List Nat} {aV:List x_} {cs:List Y'}
theorem RZ (B:eh p_ C b 0 ae Fin h) (hL:Lay C wl) (H:aQ A S vw vb vr va vt wl) (K:bN C A N0 h us L wl) (hi:i<us.length) {kind call:Int}
 (hc:∀aK,Lay C aK->aQ A S vw vb vr va vt aK->bN C A N0 h (told us i kind call) (upd L (N0+i) (.live ⟨us[i].bt,us[i].x,if kind=1 then call else us[i].k⟩)) aK->gN us[i].x wl aK->ay p_ C b 0 ae Fin Post h (aY b N h (upd L (N0+i) (.live ⟨us[i].bt,us[i].x,if kind=1 then call else us[i].k⟩))) aK (G (aI.at (aS.put ((av[aN]?).bind (·.dst)) (.int .i64 (if kind=1 then call else us[i].k))) (.inRegion av sg::aV)) cs)):
 ay p_ C b 0 ae Fin Post h (aY b N h L) wl (G ((base 101).at ⟨#[.pointer (some ⟨A.hb,0,none⟩),.int .i64 ((i+1:Nat):Int),.int .i64 kind,.int .i64 call]++F_ 21 I',[]⟩ [.code dv]) (aI.at aS (.inRegion av (aN::sg)::aV)::cs)):=by
 obtain ⟨h1,h2,h3,h4⟩:=K.cells i hi
 have hm:=K.len
 have hsm:=K.small.1
 refine ask B hL K.ap K.fo (fun j v hj hv=>(K.kM j v hj hv).1) (K.n0 i hi).1 (K.n0 i hi).2 (K.live i hi) (n:=A.m) (by omega) (by omega) H.c.2.2.2.1 h1 h2 fun aK fJ hk hch=> ?_
 have hx:=(K.kM (N0+i) us[i] (K.n0 i hi).1 (by rw [K.live i hi];rfl)).1
 exact hc aK fJ (H.pf hk hx) (K.told hi hk hch) hk
def aU (A:Ha) (w:J'):Prop:=(∃g cs e f,Tryz.prog.globalNamed "internal/strconv.uint64pow10" =some g/\g<A.B/\g≠A.hb/\w.heap[g]?=some (jY cs e f)/\cs=(Lib.pow10Tab.map fun z=>ah .u64 z).toArray)/\A.n0<=A.B/\∀g cs e f,g<A.n0->g≠A.hb->A.h0[g]?=some (jY cs e f)->w.heap[g]?=some (jY cs e f)
theorem aU.is (h:aU A w):Lib.TabIs p_ w "internal/strconv.uint64pow10" .u64 Lib.pow10Tab:=by
 obtain ⟨⟨g,cs,e,f,h1,_,_,h4,h5⟩,_⟩:=h
 unfold Lib.TabIs World.var?
 rw [h1];simp only [Option.bind_some,h4,h5]
theorem aU.fr (h:aU A w) (H:aQ A S vw vb vr va vt w) (F:Fr A w w'):aU A w':=by
 obtain ⟨⟨g,cs,e,f,h1,h2,h3,h4,h5⟩,h7,h8⟩:=h
 have nm:∀{g:Nat} {cs:Array M'} {e:Q'} {f:Nat × Nat},w.heap[g]?=some (jY cs e f)->∀es c,w.heap[g]?≠some (.map es c):=fun {g cs e f} h4 es c e1=>by rw [h4] at e1;cases e1
 refine ⟨⟨g,cs,e,f,h1,h2,h3,by rw [F.block g h2 h3 (dX H.on (nm h4)) (dX H.of (nm h4)) (dX H.rc (nm h4))];exact h4,h5⟩,h7,fun g cs e f hg hb hh=> ?_⟩
 have h4:=h8 g cs e f hg hb hh
 rw [F.block g (by omega) hb (dX H.on (nm h4)) (dX H.of (nm h4)) (dX H.rc (nm h4))];exact h4
theorem aU.PO (h:aU A w) (H:aQ A S vw vb vr va vt w):Ik A w:=fun _ F=>(h.fr H F).is
theorem aU.pf (h:aU A w) (k:gN x w w') (hx:Ch w x):aU A w':=by
 obtain ⟨⟨g,cs,e,f,h1,h2,h3,h4,h5⟩,h7,h8⟩:=h
 obtain ⟨kk,hx⟩:=hx
 exact ⟨⟨g,cs,e,f,h1,h2,h3,k.blk g _ h4 (fun e1=>by rw [e1,hx] at h4;cases h4),h5⟩,h7,fun g cs e f hg hb hh=>k.blk g _ (h8 g cs e f hg hb hh) (fun e1=>by have:=h8 g cs e f hg hb hh;rw [e1,hx] at this;cases this)⟩
noncomputable def iL:Code:=f139.body.getD .skip
theorem pB {p q r s:M'}:fZ p_ 101 #[p,q,r,s] .normal=(base 101).at ⟨#[p,q,r,s]++F_ 21 I',[]⟩ [.code dv]:=by kernel_rfl
def dL:Bs:=[99,97,108,108,32]
def iZ (S:Hs) (i:Nat) (r:Rec) (op:Int):Hs:={S with recs:=S.recs.set i {r with op:=op,heard:=S.clock}}
variable {L:Nat->Of.Os}
theorem PN (B:eh p_ C b 0 ae Fin h) (hL:Lay C wl) (H:aQ A S vw vb vr va vt wl) (K:bN C A N0 h us L wl) (hT:aU A wl) (hi:i<us.length) {c:Int}
 (hc:∀aK z,Lay C aK->aQ A S vw vb vr va vt aK->bN C A N0 h (told us i 1 c) (upd L (N0+i) (.live ⟨us[i].bt,us[i].x,c⟩)) aK->aU A aK->
  ay p_ C b 0 ae Fin Post h (aY b N h (upd L (N0+i) (.live ⟨us[i].bt,us[i].x,c⟩))) aK (G ((base 139).at ⟨#[.pointer (some ⟨A.hb,0,none⟩),.int .i64 ((i+1:Nat):Int),.int .i64 c,I',I',I',.string ⟨#[]⟩,I',.pointer (some ⟨A.hb,0,none⟩),.int .i64 ((i+1:Nat):Int),.int .i64 c,z,I',I',I',I',I',I',I',I',I',I',I',I',I',I',I',I',I'],[]⟩ [.code (az 2 iL)]) cs)):
 ay p_ C b 0 ae Fin Post h (aY b N h L) wl (G ((base 139).at ⟨#[.pointer (some ⟨A.hb,0,none⟩),.int .i64 ((i+1:Nat):Int),.int .i64 c]++F_ 26 I',[]⟩ [.code iL]) cs):=by
 have hS:=aH b N h L
 have ea:(#[.pointer (some ⟨A.hb,0,none⟩),.int .i64 ((i+1:Nat):Int),.int .i64 c]++F_ 26 I':Array M')=#[.pointer (some ⟨A.hb,0,none⟩),.int .i64 ((i+1:Nat):Int),.int .i64 c,I',I',I',I',I',I',I',I',I',I',I',I',I',I',I',I',I',I',I',I',I',I',I',I',I',I']:=by kernel_rfl
 rw [ea]
 have e1:iL=.seq (ai 0 iL) (.seq (ai 1 iL) (az 2 iL)):=by kernel_rfl
 rw [e1]
 generalize hK:[lN (az 2 iL)]=K0 at *
 generalize Mc:((i+1:Nat):Int)=iv at *
 simp only [ai,iL,f139,A_]
 iterate 9 refine B.n ?_
 refine ay.ctl B hS hL rfl (fun _=>bY (vs:=#[.pointer (some ⟨A.hb,0,none⟩),.int .i64 iv,.int .i64 1,.int .i64 c]) rfl rfl (by k_ne) rfl func101 rfl rfl (by kernel_rfl)) ?_
 rw [pB]
 subst Mc
 refine RZ B hL H K hi fun aK fJ H' K' fS=> ?_
 have T':=hT.pf fS (K.kM (N0+i) us[i] (K.n0 i hi).1 (by rw [K.live i hi];rfl)).1
 have uh:=aH b N h (upd L (N0+i) (.live ⟨us[i].bt,us[i].x,c⟩))
 simp only [if_true] at K' ⊢
 walk_nrm
 refine B.e ?_
 subst hK
 exact hc aK _ fJ H' K' T'
theorem PM (B:eh p_ C b 0 ae Fin h) (hL:Lay C wl) (H:aQ A S vw vb vr va vt wl) (K:bN C A N0 h us L wl) (hT:aU A wl) {iv c:Int} {r:Nat} (mj:S.rc c=some r) (hr:r<S.recs.length) (wi:S.recs.length<=100000) (c0:0<=c) (c1:c<=1000000) {z:M'}
 (hc:∀aK,Lay C aK->aQ A (iZ S r S.recs[r] iv) vw vb vr va vt aK->bN C A N0 h us L aK->aU A aK->
  ay p_ C b 0 ae Fin Post h (aY b N h L) aK (G (aI.at (aS.put ((av[aN]?).bind (·.dst)) (.string ⟨(dL++L_ c).toArray⟩)) (.inRegion av sg::aV)) cs)):
 ay p_ C b 0 ae Fin Post h (aY b N h L) wl (G ((base 139).at ⟨#[.pointer (some ⟨A.hb,0,none⟩),.int .i64 iv,.int .i64 c,I',I',I',.string ⟨#[]⟩,I',.pointer (some ⟨A.hb,0,none⟩),.int .i64 iv,.int .i64 c,z,I',I',I',I',I',I',I',I',I',I',I',I',I',I',I',I',I'],[]⟩ [.code (az 2 iL)]) (aI.at aS (.inRegion av (aN::sg)::aV)::cs)):=by
 have hS:=aH b N h L
 refine ay.code (ok:=il) B pA hS hL (AB (by kernel_rfl) rfl rfl ⟨_,func139⟩) ?_
 intro T d
 generalize hB:iM p_ C b 0 ae Fin Post h (aY b N h L) _ _ _=Bh
 replace hB:=aa hB
 have H0:=aa (H.heap (w':=wl.re T d) rfl)
 have K0:f_ (bN C A N0 h us L (wl.re T d)):=⟨K.len,K.small,K.live,K.n0,K.ap,K.fo,K.kM,K.cells⟩
 have T0:f_ (aU A (wl.re T d)):=hT
 have hno:=aa hL.no
 clear H K hT hL
 generalize wl.re T d=w0 at *
 simp only [az,iL,f139,A_]
 obtain ⟨g,cap,_,ev,_⟩:=cz H0.out.recs (Nat.lt_of_le_of_lt (nz _) hr)
 have ev:=aa ev
 go_wp2_with fail
 refine (jL H0.out mj hr ev.out wi).mono ?_
 rintro e w3 ⟨rfl,hh,F3⟩
 have H3:=aa (H0.out.heap hh)
 have Ig:=H3.out.c.2.2.2.2.2.2.2.2.1
 obtain ⟨x1,x2⟩:=H3.out.pQ ev.out hr (k:=2) (by decide)
 have H4:=H3.out.Ac ev.out hr (k:=2) (by decide) (v:=.int .i64 iv) (r:={S.recs[r] with op:=iv}) rfl
 have VP:=H4.1.c.2.2.2.2.2.2.2.2.1
 obtain ⟨x3,x4⟩:=H4.1.pQ (i:=r) (g:=g) (cap:=cap) (by rw [ev.out];simp) (by simpa using hr) (k:=4) (by decide)
 have H5:=H4.1.Ac (i:=r) (g:=g) (cap:=cap) (by rw [ev.out];simp) (by simpa using hr) (k:=4) (by decide) (v:=.int .i64 S.clock) (r:={S.recs[r] with op:=iv,heard:=S.clock}) (by simp [Rec.cells])
 replace H5:=aa (And.intro H5.1 (F3.trans (H4.2.trans H5.2)))
 simp [Rec.cells] at x1 x3
 simp only at VP
 clear H4 F3 H3 Ig
 go_wp2_with fail
 generalize (w3.setCell ⟨g,r * 7+2,none⟩ (.int .i64 iv)).setCell ⟨g,r * 7+4,none⟩ (.int .i64 S.clock)=w5 at H5 ⊢
 obtain ⟨H6,F6⟩:=H5.out
 simp only [List.set_set] at H6
 have T6:=T0.out.fr H0.out F6
 have K6:=aa (K0.out.fr H0.out F6)
 refine (si (T6.PO H6) c (by omega) (by omega)).mono ?_
 rintro e w7 ⟨rfl,hg⟩
 have F7:=Fr.kept H6.big hg (fun _ e=>by cases e)
 have H7:=aa (H6.more hg)
 have K7:=aa (K6.out.fr H6 F7)
 have T7:=aa (T6.fr H6 F7)
 have hlen:=Lib.itoa_length_le c (by omega) (by omega)
 have nU:¬(9223372036854775807<5+(L_ c).length):=by omega
 clear H6 F6 T6 K6 F7 hg H5 H0 K0 T0 x1 x2 x3 x4 VP
 go_wp2_with fail
 subst hB
 intro hcut todo
 have jv:Lay C w7:=⟨hcut,hno.out⟩
 refine ay.ctl B hS jv rfl (fun _=>aZ rfl rfl func139 rfl) ?_
 have:=hc w7 jv H7.out K7.out T7.out
 rw [<-vQ] at this
 exact this
theorem cg (B:eh p_ C b 0 ae Fin h) (hL:Lay C wl) (H:aQ A S vw vb vr va vt wl) (K:bN C A N0 h us L wl) (hT:aU A wl) (hi:i<us.length) {c:Int} {r:Nat} (mj:S.rc c=some r) (hr:r<S.recs.length) (wi:S.recs.length<=100000) (c0:0<=c) (c1:c<=1000000)
 (hc:∀aK,Lay C aK->aQ A (iZ S r S.recs[r] ((i+1:Nat):Int)) vw vb vr va vt aK->bN C A N0 h (told us i 1 c) (upd L (N0+i) (.live ⟨us[i].bt,us[i].x,c⟩)) aK->aU A aK->
  ay p_ C b 0 ae Fin Post h (aY b N h (upd L (N0+i) (.live ⟨us[i].bt,us[i].x,c⟩))) aK (G (aI.at (aS.put ((av[aN]?).bind (·.dst)) (.string ⟨(dL++L_ c).toArray⟩)) (.inRegion av sg::aV)) cs)):
 ay p_ C b 0 ae Fin Post h (aY b N h L) wl (G ((base 139).at ⟨#[.pointer (some ⟨A.hb,0,none⟩),.int .i64 ((i+1:Nat):Int),.int .i64 c]++F_ 26 I',[]⟩ [.code iL]) (aI.at aS (.inRegion av (aN::sg)::aV)::cs)):=
 PN B hL H K hT hi fun _ _ fJ H' K' T'=>PM B fJ H' K' T' mj hr wi c0 c1 hc
theorem S4 (us:List Od) (i:Nat) (call:Int):told us i 0 call=us:=by
 unfold told
 apply List.ext_getElem (by simp)
 intro j h1 h2
 rw [List.getElem_modify]
 split
 ·rename_i e;subst e;simp
 ·rfl
noncomputable def cD:Code:=f123.body.getD .skip
theorem O8 (B:eh p_ C b 0 ae Fin h) (hL:Lay C wl) (H:aQ A S vw vb vr va vt wl) (K:bN C A N0 h us L wl) (hT:aU A wl) (hi:i<us.length) {call:Int}
 (hc:∀aK,Lay C aK->aQ A S vw vb vr va vt aK->bN C A N0 h us L aK->aU A aK->ay p_ C b 0 ae Fin Post h (aY b N h L) aK (G (aI.at (aS.put ((av[aN]?).bind (·.dst)) (.int .i64 us[i].k)) (.inRegion av sg::aV)) cs)):
 ay p_ C b 0 ae Fin Post h (aY b N h L) wl (G ((base 101).at ⟨#[.pointer (some ⟨A.hb,0,none⟩),.int .i64 ((i+1:Nat):Int),.int .i64 0,.int .i64 call]++F_ 21 I',[]⟩ [.code dv]) (aI.at aS (.inRegion av (aN::sg)::aV)::cs)):=by
 refine RZ B hL H K hi fun aK fJ H' K' fS=> ?_
 have T':=hT.pf fS (K.kM (N0+i) us[i] (K.n0 i hi).1 (by rw [K.live i hi];rfl)).1
 rw [S4] at K'
 have e0:((0:Int)=1)=False:=by simp
 simp only [e0,if_false] at K' ⊢
 have eL:upd L (N0+i) (.live ⟨us[i].bt,us[i].x,us[i].k⟩)=L:=by
  funext j
  by_cases e:j=N0+i
  ·subst e;rw [O_,K.live i hi]
  ·rw [P_ _ _ e]
 rw [eL] at K' ⊢
 exact hc aK fJ H' K' T'
theorem P9 (B:eh p_ C b 0 ae Fin h) (hL:Lay C wl) (H:aQ A S vw vb vr va vt wl) (K:bN C A N0 h us L wl) (hT:aU A wl) (hi:i<us.length)
 (hc:∀aK,Lay C aK->aQ A S vw vb vr va vt aK->bN C A N0 h us L aK->aU A aK->
  ay p_ C b 0 ae Fin Post h (aY b N h L) aK (G ((base 123).at ⟨#[.pointer (some ⟨A.hb,0,none⟩),.int .i64 ((i+1:Nat):Int),I',I',.string ⟨#[]⟩,I',.pointer (some ⟨A.hb,0,none⟩),.int .i64 ((i+1:Nat):Int),.int .i64 us[i].k,.bool (decide (us[i].k≠0)),I',I',I',I',I',I',I',I',I',I',I',I',I',I',I',I',I',I',I',I',I',I',I',I',I'],[]⟩ [.code (az 1 (ai 1 cD)),.code (az 2 cD)]) cs)):
 ay p_ C b 0 ae Fin Post h (aY b N h L) wl (G ((base 123).at ⟨#[.pointer (some ⟨A.hb,0,none⟩),.int .i64 ((i+1:Nat):Int)]++F_ 33 I',[]⟩ [.code cD]) cs):=by
 have hS:=aH b N h L
 have ea:(#[.pointer (some ⟨A.hb,0,none⟩),.int .i64 ((i+1:Nat):Int)]++F_ 33 I':Array M')=#[.pointer (some ⟨A.hb,0,none⟩),.int .i64 ((i+1:Nat):Int),I',I',I',I',I',I',I',I',I',I',I',I',I',I',I',I',I',I',I',I',I',I',I',I',I',I',I',I',I',I',I',I',I']:=by kernel_rfl
 rw [ea]
 have e1:cD=.seq (ai 0 cD) (.seq (.seq (ai 0 (ai 1 cD)) (az 1 (ai 1 cD))) (az 2 cD)):=by kernel_rfl
 rw [e1]
 generalize hK:[lN (az 1 (ai 1 cD)),lN (az 2 cD)]=K0 at *
 have hcK:∀{wl:J'} {a:Act},ay p_ C b 0 ae Fin Post h (aY b N h L) wl (G ((base 123).at a (.code (ai 0 (ai 1 cD))::K0)) cs)->ay p_ C b 0 ae Fin Post h (aY b N h L) wl (G ((base 123).at a (.code (ai 0 (ai 1 cD))::K0)) cs):=fun h=>h
 generalize Mc:((i+1:Nat):Int)=iv at *
 refine B.s ?_
 generalize hR:[lN (Code.seq (.seq (ai 0 (ai 1 cD)) (az 1 (ai 1 cD))) (az 2 cD))]=R0
 simp only [ai,cD,f123,A_]
 iterate 3 refine B.n ?_
 subst hR
 iterate 2 refine B.n ?_
 rw [hK]
 simp only [ai,cD,f123,A_]
 iterate 3 refine B.n ?_
 refine ay.ctl B hS hL rfl (fun _=>bY (vs:=#[.pointer (some ⟨A.hb,0,none⟩),.int .i64 iv,.int .i64 0,.int .i64 0]) rfl rfl (by k_ne) rfl func101 rfl rfl (by kernel_rfl)) ?_
 rw [pB]
 subst Mc
 refine O8 B hL H K hT hi fun aK fJ H' K' T'=> ?_
 walk_nrm
 refine B.o (.bool (decide (us[i].k≠0))) (fun T d=> ?_) ?_
 ·by_cases e:us[i].k=0<;>go_simp
 walk_nrm
 refine B.e ?_
 have:=hc aK fJ H' K' T'
 exact this
variable {ws:List (Int × Int)}
theorem aQ.Af {vw:M'} (h:aQ A S vw vb vr va vt w) {v:M'} (hg:w.grownBy w' vw.ownBlock) (ho:w'.ownsRow A.B 84 2 v ws.length (ax ws)):
 aQ A {S with wait:=ws} v vb vr va vt (w'.setCell ⟨A.hb,7,none⟩ v)/\Fr A w (w'.setCell ⟨A.hb,7,none⟩ v):=
 h.grown hg (fun g e=>pU h.wait g e) (k:=7) (v:=v) (S':={S with wait:=ws}) rfl rfl rfl rfl rfl ho (bU h.back h.wait (by decide) hg) (bU h.recs h.wait (by decide) hg) (bU h.log h.wait (by decide) hg) (bU h.cg h.wait (by decide) hg) h.apart
def l8:Bs:=[116,97,108,107,115]
def qB:Bs:=[110,111,110,101]
def zf (A:Ha) (i:Nat) (k:Int):Array M':=#[.pointer (some ⟨A.hb,0,none⟩),.int .i64 ((i+1:Nat):Int),I',I',.string ⟨#[]⟩,I',.pointer (some ⟨A.hb,0,none⟩),.int .i64 ((i+1:Nat):Int),.int .i64 k,.bool (decide (k≠0)),I',I',I',I',I',I',I',I',I',I',I',I',I',I',I',I',I',I',I',I',I',I',I',I',I']
theorem Dg {p q r:M'}:fZ p_ 139 #[p,q,r] .normal=(base 139).at ⟨#[p,q,r]++F_ 26 I',[]⟩ [.code iL]:=by kernel_rfl
theorem Ef (B:eh p_ C b 0 ae Fin h) (hL:Lay C wl) {k:Int} (hk:k≠0)
 (hc:ay p_ C b 0 ae Fin Post h (aY b N h L) wl (G (aI.at (aS.put ((av[aN]?).bind (·.dst)) (.string ⟨l8.toArray⟩)) (.inRegion av sg::aV)) cs)):
 ay p_ C b 0 ae Fin Post h (aY b N h L) wl (G ((base 123).at ⟨zf A i k,[]⟩ [.code (az 1 (ai 1 cD)),.code (az 2 cD)]) (aI.at aS (.inRegion av (aN::sg)::aV)::cs)):=by
 have hS:=aH b N h L
 refine B.p (fun T d Bh hB=> ?_)
 have hd:decide (k≠0)=true:=by simp [hk]
 unfold zf
 rw [hd]
 simp only [ai,az,cD,f123,A_]
 go_wp2_with fail
 subst hB
 intro hcut todo
 have jv:Lay C (wl.re T d):=⟨hcut,hL.no⟩
 refine ay.ctl B hS jv rfl (fun _=>aZ rfl rfl func123 rfl) ?_
 exact hc.re T d
theorem Hh (B:eh p_ C b 0 ae Fin h) (hL:Lay C wl) (H:aQ A S vw vb vr va vt wl) (hw:S.wait=[])
 (hc:ay p_ C b 0 ae Fin Post h (aY b N h L) wl (G (aI.at (aS.put ((av[aN]?).bind (·.dst)) (.string ⟨qB.toArray⟩)) (.inRegion av sg::aV)) cs)):
 ay p_ C b 0 ae Fin Post h (aY b N h L) wl (G ((base 123).at ⟨zf A i 0,[]⟩ [.code (az 1 (ai 1 cD)),.code (az 2 cD)]) (aI.at aS (.inRegion av (aN::sg)::aV)::cs)):=by
 have hS:=aH b N h L
 refine B.p (fun T d Bh hB=> ?_)
 have hd:decide ((0:Int)≠0)=false:=by simp
 unfold zf
 rw [hd]
 simp only [ai,az,cD,f123,A_]
 go_wp2_with fail
 subst hB
 intro hcut
 have jv:Lay C (wl.re T d):=⟨hcut,hL.no⟩
 refine B.s ?_
 refine ay.code (ok:=il) B pA hS jv (AB (by kernel_rfl) rfl rfl ⟨_,func123⟩) ?_
 intro T' d'
 rw [Oa]
 generalize hB:iM p_ C b 0 ae Fin Post h (aY b N h L) _ _ _=Bh
 replace hB:=aa hB
 obtain ⟨a,cap,ev⟩:=aE H.wait
 have c7:(wl.re T' d').cell? ⟨A.hb,7,none⟩=some vw:=H.c.2.2.2.2.1
 rw [ev,hw] at c7
 simp only [List.length_nil] at c7
 have ir:=aa hc
 clear hc hcut jv
 go_wp2_with fail
 subst hB
 intro hcut todo
 have jv:Lay C (wl.re T' d'):=⟨hcut,hL.no⟩
 refine ay.ctl B hS jv rfl (fun _=>aZ rfl rfl func123 rfl) ?_
 exact ir.out.re T' d'
theorem Hj (B:eh p_ C b 0 ae Fin h) (hL:Lay C wl) (H:aQ A S vw vb vr va vt wl) (K:bN C A N0 h us L wl) (hT:aU A wl) (hi:i<us.length) {p:Int × Int} (hw:S.wait=p::ws) (AQ:S.wait.length<=1000) {r:Nat} (mj:S.rc p.1=some r) (hr:r<S.recs.length) (wi:S.recs.length<=100000) (c0:0<=p.1) (c1:p.1<=1000000)
 (hc:∀aK jA,Lay C aK->aQ A (iZ {S with wait:=ws} r S.recs[r] ((i+1:Nat):Int)) jA vb vr va vt aK->bN C A N0 h (told us i 1 p.1) (upd L (N0+i) (.live ⟨us[i].bt,us[i].x,p.1⟩)) aK->aU A aK->
  ay p_ C b 0 ae Fin Post h (aY b N h (upd L (N0+i) (.live ⟨us[i].bt,us[i].x,p.1⟩))) aK (G (aI.at (aS.put ((av[aN]?).bind (·.dst)) (.string ⟨(dL++L_ p.1).toArray⟩)) (.inRegion av sg::aV)) cs)):
 ay p_ C b 0 ae Fin Post h (aY b N h L) wl (G ((base 123).at ⟨zf A i 0,[]⟩ [.code (az 1 (ai 1 cD)),.code (az 2 cD)]) (aI.at aS (.inRegion av (aN::sg)::aV)::cs)):=by
 have hS:=aH b N h L
 refine B.p (fun T d Bh hB=> ?_)
 have hd:decide ((0:Int)≠0)=false:=by simp
 unfold zf
 rw [hd]
 have ir:=aa hc
 clear hc
 simp only [ai,az,cD,f123,A_]
 go_wp2_with fail
 subst hB
 intro hcut
 have jv:Lay C (wl.re T d):=⟨hcut,hL.no⟩
 refine ay.re (wl:=wl) ?_ T d
 clear hcut jv
 refine B.s ?_
 refine B.p (fun T d Bh hB=> ?_)
 obtain ⟨g,cap,_,ev,_⟩:=cz H.wait (by rw [hw];simp)
 have hlen:S.wait.length=ws.length+1:=by rw [hw];rfl
 have c7:∀T d,(wl.re T d).cell? ⟨A.hb,7,none⟩=some vw:=fun _ _=>H.c.2.2.2.2.1
 rw [ev,hlen] at c7
 obtain ⟨y1,_⟩:=H.wE ev (k:=0) (by rw [hw];simp)
 have EE:S.wait[0]'(by rw [hw];simp)=p:=by simp only [hw];rfl
 rw [EE] at y1
 have y1:∀T d,(wl.re T d).cell? ⟨g,0,none⟩=some (.int .i64 p.1):=fun _ _=>(show wl.cell? ⟨g,0,none⟩=_ by simpa using y1)
 have Dx:((ws.length:Int)+1=0)=False:=by simp;omega
 have CP:(0:Int)<(ws.length:Int)+1:=by omega
 go_wp2_with fail
 refine bh hB ?_
 refine B.s ?_
 refine B.p (fun T d Bh hB=> ?_)
 go_wp2_with fail
 refine bh hB ?_
 refine B.s ?_
 refine B.p (fun T d Bh hB=> ?_)
 have bR:(wl.re T d).ownsRow A.B 84 2 (.slice (some ⟨g,0,none⟩) (ws.length+1) cap) (ws.length+1) (ax (p::ws)):=by
  have:=(H.heap (w':=wl.re T d) rfl).wait
  rw [ev,hlen,hw] at this;exact this
 have CU:=aa (NN bR)
 have H0:=aa (H.heap (w':=wl.re T d) rfl)
 have K0:f_ (bN C A N0 h us L (wl.re T d)):=⟨K.len,K.small,K.live,K.n0,K.ap,K.fo,K.kM,K.cells⟩
 have T0:f_ (aU A (wl.re T d)):=hT
 have hno:=aa hL.no
 have c7':=c7 T d
 replace hS:=aa hS
 clear H K hT hL bR y1 c7
 generalize wl.re T d=w0 at *
 go_wp2_with fail
 refine CU.out.mono ?_
 rintro e w2 ⟨rfl,ho,hg⟩
 have Mf:vw.ownBlock=some g:=by rw [ev];rfl
 have hgB:=(H0.out.wait.lt g Mf).1
 have Ba:=H0.out.ok.hb
 have hne:some A.hb≠some g:=fun e=>by injection e with e;omega
 have c7b:=hg.cell (a:=⟨A.hb,7,none⟩) c7' hne
 have f7b:w2.frozen? ⟨A.hb,7,none⟩=false:=(m_ (hg.block A.hb (E_ Ba H0.out.big) hne)).trans (H0.out.z 7)
 have hp:=aa (H0.out.Af (v:=.slice (some ⟨g,0,none⟩) ws.length cap) (ws:=ws) (by rw [Mf];exact hg) ho)
 clear hg ho CU c7'
 go_wp2_with fail
 subst hB
 intro hcut
 generalize w2.setCell ⟨A.hb,7,none⟩ (.slice (some ⟨g,0,none⟩) ws.length cap)=w3 at *
 obtain ⟨H3,F3⟩:=hp.out
 have K3:=K0.out.fr H0.out F3
 have T3:=T0.out.fr H0.out F3
 have gA:Lay C w3:=⟨hcut,hno.out⟩
 have hS:=hS.out
 generalize Mc:((i+1:Nat):Int)=iv at *
 generalize hq:(((ws.length:Int)+1==0):Bool)=Yr
 iterate 3 refine B.n ?_
 refine B.o (.int .i64 iv) (fun T d=> ?_) ?_
 ·go_simp
  omega
 walk_nrm
 refine B.n ?_
 refine ay.ctl B hS gA rfl (fun _=>bY (vs:=#[.pointer (some ⟨A.hb,0,none⟩),.int .i64 iv,.int .i64 p.1]) rfl rfl (by k_ne) rfl func139 rfl rfl (by kernel_rfl)) ?_
 rw [Dg]
 subst Mc
 refine cg B gA H3 K3 T3 hi mj hr wi c0 c1 fun aK fJ H' K' T'=> ?_
 have uh:=aH b N h (upd L (N0+i) (.live ⟨us[i].bt,us[i].x,p.1⟩))
 walk_nrm
 iterate 2 refine B.n ?_
 refine ay.ctl B uh fJ rfl (fun _=>ma) ?_
 refine ay.ctl B uh fJ rfl (fun _=>aZ rfl rfl func123 rfl) ?_
 exact ir.out aK _ fJ H' K' T'
def og (S:Hs) (us:List Od) (i:Nat):Hs × List Od × Bs:=
 match us[i]? with
 |none=>(S,us,[])
 |some u=>if u.k≠0 then (S,us,l8) else match S.wait with
  |[]=>(S,us,qB)
  |p::ws=>match S.rc p.1 with
   |none=>(S,us,[])
   |some r=>match S.recs[r]? with
    |none=>(S,us,[])
    |some x=>(iZ {S with wait:=ws} r x ((i+1:Nat):Int),told us i 1 p.1,dL++L_ p.1)
def Behind (C:cS) (b N N0 h:Nat) (A:Ha) (va vt:M') (ae Fin:O'->J'->Prop) (Post:M'->J'->Prop) (aI:Y') (aS:Act) (av:Array y_) (aN:Nat) (sg:List Nat) (aV:List x_) (cs:List Y') (R:Hs × List Od × Bs):Prop:=
 ∀aK L',Lay C aK->cQ A va vt R.1 aK->bN C A N0 h R.2.1 L' aK->aU A aK->
  ay p_ C b 0 ae Fin Post h (aY b N h L') aK (G (aI.at (aS.put ((av[aN]?).bind (·.dst)) (.string ⟨R.2.2.toArray⟩)) (.inRegion av sg::aV)) cs)
theorem Qa (B:eh p_ C b 0 ae Fin h) (hL:Lay C wl) (H:cQ A va vt S wl) (K:bN C A N0 h us L wl) (hT:aU A wl) (hi:i<us.length) (cK:rC S)
 (hc:Behind C b N N0 h A va vt ae Fin Post aI aS av aN sg aV cs (og S us i)):
 ay p_ C b 0 ae Fin Post h (aY b N h L) wl (G ((base 123).at ⟨#[.pointer (some ⟨A.hb,0,none⟩),.int .i64 ((i+1:Nat):Int)]++F_ 33 I',[]⟩ [.code cD]) (aI.at aS (.inRegion av (aN::sg)::aV)::cs)):=by
 obtain ⟨vw,vb,vr,H⟩:=H
 refine P9 B hL H K hT hi fun aK fJ H' K' T'=> ?_
 have hu:us[i]?=some us[i]:=G_ hi
 by_cases hk:us[i].k≠0
 ·have hR:og S us i=(S,us,l8):=by unfold og;rw [hu];simp only [if_pos hk]
  rw [hR] at hc
  exact Ef B fJ hk (hc aK L fJ ⟨_,_,_,H'⟩ K' T')
 ·have vF:us[i].k=0:=j_ hk
  rw [vF]
  cases hw:S.wait with
  |nil=>
   have hR:og S us i=(S,us,qB):=by unfold og;rw [hu];simp only [if_neg hk,hw]
   rw [hR] at hc
   exact Hh B fJ H' hw (hc aK L fJ ⟨_,_,_,H'⟩ K' T')
  |cons p ws=>
   have h0:0<S.wait.length:=by rw [hw];simp
   obtain ⟨x,r,_,mj,hr⟩:=cK.has 0 h0
   have jX:=cK.call 0 h0
   have hp:S.wait[0]=p:=by simp only [hw];rfl
   rw [hp] at mj jX
   have hR:og S us i=(iZ {S with wait:=ws} r S.recs[r] ((i+1:Nat):Int),told us i 1 p.1,dL++L_ p.1):=by
    unfold og
    rw [hu]
    simp only [if_neg hk,hw,mj,G_ hr]
   rw [hR] at hc
   exact Hj B fJ H' K' T' hi hw cK.wl mj hr cK.recs jX.1 jX.2 fun Pz jA Rt H'' K'' T''=>hc Pz _ Rt ⟨_,_,_,H''⟩ K'' T''
noncomputable def cy:Code:=f124.body.getD .skip
def sP (A:Ha) (i:Nat) (k:Int):Array M':=#[.pointer (some ⟨A.hb,0,none⟩),.int .i64 ((i+1:Nat):Int),I',I',.string ⟨#[]⟩,I',I',.pointer (some ⟨A.hb,0,none⟩),.int .i64 ((i+1:Nat):Int),.int .i64 k,.bool (decide (k≠0)),I',I',I',I',I',I',I',I',I',I',I',I',I',I',I',I',I',I',I',I',I',I',I',I',I',I',I',I',I',I',I',I']
theorem RS (B:eh p_ C b 0 ae Fin h) (hL:Lay C wl) (H:aQ A S vw vb vr va vt wl) (K:bN C A N0 h us L wl) (hT:aU A wl) (hi:i<us.length)
 (hc:∀aK,Lay C aK->aQ A S vw vb vr va vt aK->bN C A N0 h us L aK->aU A aK->
  ay p_ C b 0 ae Fin Post h (aY b N h L) aK (G ((base 124).at ⟨sP A i us[i].k,[]⟩ [.code (az 1 (ai 1 cy)),.code (az 2 cy)]) cs)):
 ay p_ C b 0 ae Fin Post h (aY b N h L) wl (G ((base 124).at ⟨#[.pointer (some ⟨A.hb,0,none⟩),.int .i64 ((i+1:Nat):Int)]++F_ 41 I',[]⟩ [.code cy]) cs):=by
 have hS:=aH b N h L
 have ea:(#[.pointer (some ⟨A.hb,0,none⟩),.int .i64 ((i+1:Nat):Int)]++F_ 41 I':Array M')=#[.pointer (some ⟨A.hb,0,none⟩),.int .i64 ((i+1:Nat):Int),I',I',I',I',I',I',I',I',I',I',I',I',I',I',I',I',I',I',I',I',I',I',I',I',I',I',I',I',I',I',I',I',I',I',I',I',I',I',I',I',I']:=by kernel_rfl
 rw [ea]
 have e1:cy=.seq (ai 0 cy) (.seq (.seq (ai 0 (ai 1 cy)) (az 1 (ai 1 cy))) (az 2 cy)):=by kernel_rfl
 rw [e1]
 generalize hK:[lN (az 1 (ai 1 cy)),lN (az 2 cy)]=K0 at *
 generalize Mc:((i+1:Nat):Int)=iv at *
 refine B.s ?_
 generalize hR:[lN (Code.seq (.seq (ai 0 (ai 1 cy)) (az 1 (ai 1 cy))) (az 2 cy))]=R0
 simp only [ai,cy,f124,A_]
 iterate 3 refine B.n ?_
 subst hR
 iterate 2 refine B.n ?_
 rw [hK]
 simp only [ai,cy,f124,A_]
 iterate 3 refine B.n ?_
 refine ay.ctl B hS hL rfl (fun _=>bY (vs:=#[.pointer (some ⟨A.hb,0,none⟩),.int .i64 iv,.int .i64 0,.int .i64 0]) rfl rfl (by k_ne) rfl func101 rfl rfl (by kernel_rfl)) ?_
 rw [pB]
 subst Mc
 refine O8 B hL H K hT hi fun aK fJ H' K' T'=> ?_
 walk_nrm
 refine B.o (.bool (decide (us[i].k≠0))) (fun T d=> ?_) ?_
 ·by_cases e:us[i].k=0<;>go_simp
 walk_nrm
 refine B.e ?_
 have:=hc aK fJ H' K' T'
 exact this
theorem aBo (B:eh p_ C b 0 ae Fin h) (hL:Lay C wl) {k:Int} (hk:k≠0)
 (hc:ay p_ C b 0 ae Fin Post h (aY b N h L) wl (G (aI.at (aS.put ((av[aN]?).bind (·.dst)) (.string ⟨l8.toArray⟩)) (.inRegion av sg::aV)) cs)):
 ay p_ C b 0 ae Fin Post h (aY b N h L) wl (G ((base 124).at ⟨sP A i k,[]⟩ [.code (az 1 (ai 1 cy)),.code (az 2 cy)]) (aI.at aS (.inRegion av (aN::sg)::aV)::cs)):=by
 have hS:=aH b N h L
 refine B.p (fun T d Bh hB=> ?_)
 have hd:decide (k≠0)=true:=by simp [hk]
 unfold sP
 rw [hd]
 simp only [ai,az,cy,f124,A_]
 go_wp2_with fail
 subst hB
 intro hcut todo
 have jv:Lay C (wl.re T d):=⟨hcut,hL.no⟩
 refine ay.ctl B hS jv rfl (fun _=>aZ rfl rfl func124 rfl) ?_
 exact hc.re T d
theorem Ib (B:eh p_ C b 0 ae Fin h) (hL:Lay C wl) (H:aQ A S vw vb vr va vt wl) (hw:S.back=[])
 (hc:ay p_ C b 0 ae Fin Post h (aY b N h L) wl (G (aI.at (aS.put ((av[aN]?).bind (·.dst)) (.string ⟨qB.toArray⟩)) (.inRegion av sg::aV)) cs)):
 ay p_ C b 0 ae Fin Post h (aY b N h L) wl (G ((base 124).at ⟨sP A i 0,[]⟩ [.code (az 1 (ai 1 cy)),.code (az 2 cy)]) (aI.at aS (.inRegion av (aN::sg)::aV)::cs)):=by
 have hS:=aH b N h L
 refine B.p (fun T d Bh hB=> ?_)
 have hd:decide ((0:Int)≠0)=false:=by simp
 unfold sP
 rw [hd]
 simp only [ai,az,cy,f124,A_]
 go_wp2_with fail
 subst hB
 intro hcut
 have jv:Lay C (wl.re T d):=⟨hcut,hL.no⟩
 refine B.s ?_
 refine ay.code (ok:=il) B pA hS jv (AB (by kernel_rfl) rfl rfl ⟨_,func124⟩) ?_
 intro T' d'
 rw [Oa]
 generalize hB:iM p_ C b 0 ae Fin Post h (aY b N h L) _ _ _=Bh
 replace hB:=aa hB
 obtain ⟨a,cap,ev⟩:=aE H.back
 have c7:(wl.re T' d').cell? ⟨A.hb,8,none⟩=some vb:=H.c.2.2.2.2.2.1
 rw [ev,hw] at c7
 simp only [List.length_nil] at c7
 have ir:=aa hc
 clear hc hcut jv
 go_wp2_with fail
 subst hB
 intro hcut todo
 have jv:Lay C (wl.re T' d'):=⟨hcut,hL.no⟩
 refine ay.ctl B hS jv rfl (fun _=>aZ rfl rfl func124 rfl) ?_
 exact ir.out.re T' d'
variable {ks:List Int}
theorem aQ.FG {vw:M'} (h:aQ A S vw vb vr va vt w) {v:M'} (hg:w.grownBy w' vb.ownBlock) (hv:v.ownBlock=vb.ownBlock) (ho:w'.ownsRow A.B 3 1 v ks.length (ks.map (ah .i64))):
 aQ A {S with back:=ks} vw v vr va vt (w'.setCell ⟨A.hb,8,none⟩ v)/\Fr A w (w'.setCell ⟨A.hb,8,none⟩ v):=by
 have J8:vt.ownBlock=none\/vt.ownBlock≠vb.ownBlock:=by
  rcases h.apart with e|e
  ·rw [e];exact oT _
  ·exact .inr (ru e)
 exact h.grown hg (fun g e=>pU h.back g e) (k:=8) (v:=v) (S':={S with back:=ks}) rfl rfl rfl rfl rfl (bU h.wait h.back (by decide) hg) ho (bU h.recs h.back (by decide) hg) (bU h.log h.back (by decide) hg) (h.cg.kept hg J8) (by rw [hv];exact h.apart)
theorem lX (S:Hs):gf S= -1\/∃l,∃hl:l<S.lines.length,gf S=(l:Nat)/\S.on S.lines[l]=none:=by
 unfold gf
 cases h:S.lines.findIdx? (fun x=>(S.on x).isNone) with
 |none=>exact .inl rfl
 |some l=>
  obtain ⟨hl,h1,_⟩:=List.findIdx?_eq_some_iff_getElem.1 h
  exact .inr ⟨l,hl,rfl,by simpa using h1⟩
def KQ:Bs:=[98,117,115,121]
theorem Ie (B:eh p_ C b 0 ae Fin h) (hL:Lay C wl) (H:aQ A S vw vb vr va vt wl) {c:Int} (hw:S.back=c::ks) (hn:S.lines.length<=1000) (jV:gf S= -1)
 (hc:ay p_ C b 0 ae Fin Post h (aY b N h L) wl (G (aI.at (aS.put ((av[aN]?).bind (·.dst)) (.string ⟨KQ.toArray⟩)) (.inRegion av sg::aV)) cs)):
 ay p_ C b 0 ae Fin Post h (aY b N h L) wl (G ((base 124).at ⟨sP A i 0,[]⟩ [.code (az 1 (ai 1 cy)),.code (az 2 cy)]) (aI.at aS (.inRegion av (aN::sg)::aV)::cs)):=by
 have hS:=aH b N h L
 refine B.p (fun T d Bh hB=> ?_)
 have hd:decide ((0:Int)≠0)=false:=by simp
 unfold sP
 rw [hd]
 have ir:=aa hc
 clear hc
 simp only [ai,az,cy,f124,A_]
 go_wp2_with fail
 refine bh hB ?_
 refine B.s ?_
 refine B.p (fun T d Bh hB=> ?_)
 obtain ⟨g,cap,_,ev,_⟩:=cz H.back (by rw [hw];simp)
 have hlen:S.back.length=ks.length+1:=by rw [hw];rfl
 have c8:∀T d,(wl.re T d).cell? ⟨A.hb,8,none⟩=some vb:=fun _ _=>H.c.2.2.2.2.2.1
 rw [ev,hlen] at c8
 have Dx:((ks.length:Int)+1=0)=False:=by simp;omega
 have CP:(0:Int)<(ks.length:Int)+1:=by omega
 go_wp2_with fail
 refine bh hB ?_
 refine B.s ?_
 refine B.p (fun T d Bh hB=> ?_)
 have dJ:=aa (kK (H.heap (w':=wl.re T d) rfl) hn)
 go_wp2_with fail
 refine dJ.out.mono ?_
 rintro e w2 ⟨rfl,rfl⟩
 rw [jV]
 go_wp2_with fail
 refine bh hB ?_
 refine B.s ?_
 refine B.p (fun T d Bh hB=> ?_)
 go_wp2_with fail
 subst hB
 intro hcut todo
 have jv:Lay C (wl.re T d):=⟨hcut,hL.no⟩
 refine ay.ctl B hS jv rfl (fun _=>aZ rfl rfl func124 rfl) ?_
 exact ir.out.re T d
variable {l:Nat}
theorem Ic (B:eh p_ C b 0 ae Fin h) (hL:Lay C wl) (H:aQ A S vw vb vr va vt wl) (K:bN C A N0 h us L wl) (hT:aU A wl) (hi:i<us.length) {c:Int} (hw:S.back=c::ks) (hn:S.lines.length<=1000) (wi:S.recs.length<=90000) (c0:0<=c) (c1:c<=1000000) (hl:l<S.lines.length) (jV:gf S=(l:Nat)) {S2:Hs} (KP:S2=conn {S with back:=ks} c l S.lines[l]) (L8:S.recs.length<S2.recs.length)
 (hc:∀aK qS qb,Lay C aK->aQ A (iZ S2 S.recs.length S2.recs[S.recs.length] ((i+1:Nat):Int)) vw qS qb va vt aK->bN C A N0 h (told us i 1 c) (upd L (N0+i) (.live ⟨us[i].bt,us[i].x,c⟩)) aK->aU A aK->
  ay p_ C b 0 ae Fin Post h (aY b N h (upd L (N0+i) (.live ⟨us[i].bt,us[i].x,c⟩))) aK (G (aI.at (aS.put ((av[aN]?).bind (·.dst)) (.string ⟨(dL++L_ c).toArray⟩)) (.inRegion av sg::aV)) cs)):
 ay p_ C b 0 ae Fin Post h (aY b N h L) wl (G ((base 124).at ⟨sP A i 0,[]⟩ [.code (az 1 (ai 1 cy)),.code (az 2 cy)]) (aI.at aS (.inRegion av (aN::sg)::aV)::cs)):=by
 have hS:=aH b N h L
 refine B.p (fun T d Bh hB=> ?_)
 have hd:decide ((0:Int)≠0)=false:=by simp
 unfold sP
 rw [hd]
 have ir:=aa hc
 clear hc
 simp only [ai,az,cy,f124,A_]
 go_wp2_with fail
 refine bh hB ?_
 refine B.s ?_
 refine B.p (fun T d Bh hB=> ?_)
 obtain ⟨g,cap,_,ev,_⟩:=cz H.back (by rw [hw];simp)
 have hlen:S.back.length=ks.length+1:=by rw [hw];rfl
 have c8:∀T d,(wl.re T d).cell? ⟨A.hb,8,none⟩=some vb:=fun _ _=>H.c.2.2.2.2.2.1
 rw [ev,hlen] at c8
 have Dx:((ks.length:Int)+1=0)=False:=by simp;omega
 have CP:(0:Int)<(ks.length:Int)+1:=by omega
 go_wp2_with fail
 refine bh hB ?_
 refine B.s ?_
 refine B.p (fun T d Bh hB=> ?_)
 have dJ:=aa (kK (H.heap (w':=wl.re T d) rfl) hn)
 go_wp2_with fail
 refine dJ.out.mono ?_
 rintro e w2 ⟨rfl,rfl⟩
 rw [jV]
 have uK:(0:Int)<=(l:Int):=by omega
 have Mb:((l:Int)<0)=False:=by simp
 go_wp2_with fail
 refine bh hB ?_
 refine B.s ?_
 refine B.p (fun T d Bh hB=> ?_)
 go_wp2_with fail
 refine bh hB ?_
 refine B.s ?_
 refine B.p (fun T d Bh hB=> ?_)
 have ho:=H.back
 rw [ev,hlen,hw] at ho
 have y1:∀T d,(wl.re T d).cell? ⟨g,0,none⟩=some (.int .i64 c):=fun _ _=>(ho.cellAt 0 (by omega)).trans rfl
 go_wp2_with fail
 refine bh hB ?_
 refine B.s ?_
 refine B.p (fun T d Bh hB=> ?_)
 have bR:(wl.re T d).ownsRow A.B 3 1 (.slice (some ⟨g,0,none⟩) (c::ks).length cap) (c::ks).length ((c::ks).map (ah .i64)):=ho
 have CU:=aa (Gt bR (i:=0) (by simp))
 have H0:=aa (H.heap (w':=wl.re T d) rfl)
 have K0:f_ (bN C A N0 h us L (wl.re T d)):=⟨K.len,K.small,K.live,K.n0,K.ap,K.fo,K.kM,K.cells⟩
 have T0:f_ (aU A (wl.re T d)):=hT
 have hno:=aa hL.no
 have VO:=c8 T d
 replace hS:=aa hS
 clear H K hT hL bR y1 c8 dJ ho
 generalize wl.re T d=w0 at *
 go_wp2_with fail
 refine CU.out.mono ?_
 rintro e w2 ⟨rfl,ho,hg⟩
 have Mf:vb.ownBlock=some g:=by rw [ev];rfl
 have hgB:=(H0.out.back.lt g Mf).1
 have Ba:=H0.out.ok.hb
 have hne:some A.hb≠some g:=fun e=>by injection e with e;omega
 have c8b:=hg.cell (a:=⟨A.hb,8,none⟩) VO hne
 have f8b:w2.frozen? ⟨A.hb,8,none⟩=false:=(m_ (hg.block A.hb (E_ Ba H0.out.big) hne)).trans (H0.out.z 8)
 have hp:=aa (H0.out.FG (v:=.slice (some ⟨g,0,none⟩) ks.length cap) (ks:=ks) (by rw [Mf];exact hg) (by rw [Mf];rfl) ho)
 clear hg ho CU VO
 go_wp2_with fail
 subst hB
 intro hcut
 generalize w2.setCell ⟨A.hb,8,none⟩ (.slice (some ⟨g,0,none⟩) ks.length cap)=w3 at *
 have gA:Lay C w3:=⟨hcut,hno.out⟩
 clear hcut
 refine B.s ?_ (hS:=hS.out)
 refine B.p (fun T d Bh hB=> ?_) (hS:=hS.out)
 have H3:=aa (hp.out.1.heap (w':=w3.re T d) rfl)
 have K3:f_ (bN C A N0 h us L (w3.re T d)):=by
  have k3:=K0.out.fr H0.out hp.out.2
  exact ⟨k3.len,k3.small,k3.live,k3.n0,k3.ap,k3.fo,k3.kM,k3.cells⟩
 have T3:f_ (aU A (w3.re T d)):=by
  have t3:=T0.out.fr H0.out hp.out.2
  exact t3
 have xG:=aa (oy H3.out (c:=c) (l:=l) hl hn (by show S.recs.length<=100000;omega) (by omega) (by omega) (Fr.refl A (w3.re T d)))
 clear hp K0 T0 H0 c8b f8b gA
 generalize w3.re T d=w4 at *
 go_wp2_with fail
 refine xG.out.mono ?_
 rintro e w5 ⟨rfl,⟨qb,H5⟩,F5⟩
 have H5:=aa H5
 have K5:=aa (K3.out.fr H3.out F5)
 have T5:=aa (T3.out.fr H3.out F5)
 clear F5 K3 T3 H3 xG
 go_wp2_with fail
 subst hB
 intro hcut
 have qu:Lay C w5:=⟨hcut,hno.out⟩
 have hS:=hS.out
 have mj:S2.rc c=some S.recs.length:=by rw [KP];show (if c=c then _ else _)=_;rw [if_pos rfl]
 have H6:aQ A S2 vw (.slice (some ⟨g,0,none⟩) ks.length cap) qb va vt w5:=by rw [KP];exact H5.out
 have YX:S2.recs.length<=100000:=by rw [KP];show (S.recs++[_]).length<=_;rw [K_];simp;omega
 generalize Mc:((i+1:Nat):Int)=iv at *
 iterate 3 refine B.n ?_
 refine B.o (.int .i64 iv) (fun T d=> ?_) ?_
 ·go_simp
  omega
 walk_nrm
 refine B.n ?_
 refine ay.ctl B hS qu rfl (fun _=>bY (vs:=#[.pointer (some ⟨A.hb,0,none⟩),.int .i64 iv,.int .i64 c]) rfl rfl (by k_ne) rfl func139 rfl rfl (by kernel_rfl)) ?_
 rw [Dg]
 subst Mc
 refine cg B qu H6 K5.out T5.out hi mj L8 YX c0 c1 fun aK fJ H' K' T'=> ?_
 have uh:=aH b N h (upd L (N0+i) (.live ⟨us[i].bt,us[i].x,c⟩))
 walk_nrm
 iterate 2 refine B.n ?_
 refine ay.ctl B uh fJ rfl (fun _=>ma) ?_
 refine ay.ctl B uh fJ rfl (fun _=>aZ rfl rfl func124 rfl) ?_
 exact ir.out aK _ _ fJ H' K' T'
def lY (S:Hs) (us:List Od) (i:Nat):Hs × List Od × Bs:=
 match us[i]? with
 |none=>(S,us,[])
 |some u=>if u.k≠0 then (S,us,l8) else match S.back with
  |[]=>(S,us,qB)
  |c::ks=>if gf S<0 then (S,us,KQ) else match S.lines[(gf S).toNat]? with
   |none=>(S,us,[])
   |some x=>(iZ (conn {S with back:=ks} c (gf S).toNat x) S.recs.length (kT {S with back:=ks} c (gf S).toNat) ((i+1:Nat):Int),told us i 1 c,dL++L_ c)
structure Ft (S:Hs):Prop where
 lines:S.lines.length<=1000
 recs:S.recs.length<=90000
 back:∀c∈S.back,0<=c/\c<=1000000
theorem Ly (B:eh p_ C b 0 ae Fin h) (hL:Lay C wl) (H:cQ A va vt S wl) (K:bN C A N0 h us L wl) (hT:aU A wl) (hi:i<us.length) (cK:Ft S)
 (hc:Behind C b N N0 h A va vt ae Fin Post aI aS av aN sg aV cs (lY S us i)):
 ay p_ C b 0 ae Fin Post h (aY b N h L) wl (G ((base 124).at ⟨#[.pointer (some ⟨A.hb,0,none⟩),.int .i64 ((i+1:Nat):Int)]++F_ 41 I',[]⟩ [.code cy]) (aI.at aS (.inRegion av (aN::sg)::aV)::cs)):=by
 obtain ⟨vw,vb,vr,H⟩:=H
 refine RS B hL H K hT hi fun aK fJ H' K' T'=> ?_
 have hu:us[i]?=some us[i]:=G_ hi
 by_cases hk:us[i].k≠0
 ·have hR:lY S us i=(S,us,l8):=by unfold lY;rw [hu];simp only [if_pos hk]
  rw [hR] at hc
  exact aBo B fJ hk (hc aK L fJ ⟨_,_,_,H'⟩ K' T')
 ·have vF:us[i].k=0:=j_ hk
  rw [vF]
  cases hw:S.back with
  |nil=>
   have hR:lY S us i=(S,us,qB):=by unfold lY;rw [hu];simp only [if_neg hk,hw]
   rw [hR] at hc
   exact Ib B fJ H' hw (hc aK L fJ ⟨_,_,_,H'⟩ K' T')
  |cons c ks=>
   have jX:=cK.back c (by rw [hw];simp)
   rcases lX S with hf|⟨l,hl,hf,_⟩
   ·have hR:lY S us i=(S,us,KQ):=by
     unfold lY
     rw [hu]
     simp only [if_neg hk,hw,hf]
     rfl
    rw [hR] at hc
    exact Ie B fJ H' hw cK.lines hf (hc aK L fJ ⟨_,_,_,H'⟩ K' T')
   ·have hn:¬(((l:Nat):Int)<0):=by omega
    have hx:(conn {S with back:=ks} c l S.lines[l]).recs[S.recs.length]'(by simp [conn])=kT {S with back:=ks} c l:=by simp [conn]
    have hR:lY S us i=(iZ (conn {S with back:=ks} c l S.lines[l]) S.recs.length (kT {S with back:=ks} c l) ((i+1:Nat):Int),told us i 1 c,dL++L_ c):=by
     unfold lY
     rw [hu]
     simp only [if_neg hk,hw,hf,if_neg hn,Int.toNat_natCast,G_ hl]
    rw [hR,<-hx] at hc
    exact Ic B fJ H' K' T' hi hw cK.lines cK.recs jX.1 jX.2 hl hf rfl (by simp [conn]) fun Pz qS qb Rt H'' K'' T''=>hc Pz _ Rt ⟨_,_,_,H''⟩ K'' T''
theorem PD (B:eh p_ C b 0 ae Fin h) (hL:Lay C wl) (H:cQ A va vt S wl) (K:bN C A N0 h us L wl) (hT:aU A wl) (cK:rC S) {n:Int} (n0:0<=n) (n1:n<=1000000) (k0:0<=S.clock) (k1:S.clock<=1000000)
 (hc:Behind C b N N0 h A va vt ae Fin Post aI aS av aN sg aV cs ((waited A.P S n).1,us,(waited A.P S n).2)):
 ay p_ C b 0 ae Fin Post h (aY b N h L) wl (G (fZ p_ 125 #[.pointer (some ⟨A.hb,0,none⟩),.int .i64 n] .normal) (aI.at aS (.inRegion av (aN::sg)::aV)::cs)):=by
 have hS:=aH b N h L
 obtain ⟨vw,vb,vr,H⟩:=H
 refine ay.call (ok:=il) B pA hS hL (by kernel_rfl) (by kernel_rfl) fun T d=> ?_
 have H0:=H.heap (w':=wl.re T d) rfl
 have K0:bN C A N0 h us L (wl.re T d):=⟨K.len,K.small,K.live,K.n0,K.ap,K.fo,K.kM,K.cells⟩
 have T0:aU A (wl.re T d):=hT
 refine (IP H0 cK n0 n1 k0 k1 (T0.PO H0) (Fr.refl A _)).mono ?_
 rintro e w' ⟨rfl,H',F'⟩
 refine ⟨_,rfl,fun hcut=> ?_⟩
 rw [Frame.finish_at]
 exact hc w' L ⟨hcut,hL.no⟩ H' (K0.fr H0 F') (T0.fr H0 F')
end
section
open Go Go.Conc Go.aC Go.Proofs
open Go.RowKit hiding Hid
variable {P:U'} {w:J'}
theorem mE (d:Nat) {t e:Q'} {dir:ChanDir} (h:P.underlying t=some (.chan dir e)) (a b:Option Nat):(Op.equalIn (d+1) t (.chan a) (.chan b)).run P w=.ok (a==b) w:=by
 rw [Op.equalIn];simp [run_underlying h]
theorem rY {t e:Q'} {dir:ChanDir} (h:P.underlying t=some (.chan dir e)) (a:Option Nat):(binOp .neq t (.chan a) (.chan none)).run P w=.ok (.bool a.isSome) w:=by
 simp only [binOp]
 simp [Op.equal,Op.maxDepth,mE 9999 h]
 try (cases a<;>rfl)
theorem De {t e:Q'} {dir:ChanDir} (h:P.underlying t=some (.chan dir e)) (a:Option Nat):(binOp .eql t (.chan a) (.chan none)).run P w=.ok (.bool a.isNone) w:=by
 simp only [binOp]
 simp [Op.equal,Op.maxDepth,mE 9999 h]
 try (cases a<;>rfl)
variable {B:Nat} {v:M'} {zs:List Int}
theorem ze (h:w.ownsRow B 3 1 v zs.length (zs.map (ah .i64))) {g cap:Nat} (hv:v=.slice (some ⟨g,0,none⟩) zs.length cap) (j:Nat) (hj:j<zs.length):w.cell? ⟨g,0+j,none⟩=some (.int .i64 (zs.getD j 0)):=by
 rw [hv] at h
 rw [Nat.zero_add,h.cellAt j (by omega)]
 simp [List.getElem?_map,G_ hj,List.getD_eq_getElem?_getD]
theorem KR (h:w.ownsRow B 3 1 v zs.length (zs.map (ah .i64))) (hb:zs.length<=1000000) (x:Int):d_ p_ 127 #[v,.int .i64 x] w fun e w'=>e=.returned (.bool (zs.contains x))/\w'=w:=by
 rcases h.2 with ⟨h0,h1⟩|⟨g,cap,cur,h1,_⟩
 ·have hz:zs=[]:=List.length_eq_zero_iff.1 h1
  subst hz
  rw [h0]
  exact Tryz.slices_Contains_int_empty none 0 x w
 ·have:=Tryz.slices_Contains_int g 0 zs.length cap zs x w (C_ _) (by omega) (fun j hj=>ze h h1 j hj)
  rw [List.take_length] at this
  rw [h1];exact this
theorem Hz (h:w.ownsRow B 3 1 v zs.length (zs.map (ah .i64))) (hb:zs.length<=1000000) (x:Int):d_ p_ 132 #[v,.int .i64 x] w fun e w'=>e=.returned (.int .i64 (Lib.idxOf zs x))/\w'=w:=by
 rcases h.2 with ⟨h0,h1⟩|⟨g,cap,cur,h1,_⟩
 ·have hz:zs=[]:=List.length_eq_zero_iff.1 h1
  subst hz
  rw [h0]
  exact Tryz.slices_Index_int_empty none 0 x w
 ·have:=Tryz.slices_Index_int g 0 zs.length cap zs x w (C_ _) (by omega) (fun j hj=>ze h h1 j hj)
  rw [List.take_length] at this
  rw [h1];exact this
end
section
open Go Go.Conc Go.Conc.Lib Go.ConcR Go.ConcR.Gen Go.aC Go.Proofs
open Go.RowKit hiding Hid
open Go.ConcN (upd upd_ne upd_same)
noncomputable def bF:Code:=f121.body.getD .skip
def tT:Bs:=[107,110,111,119,110]
variable {C:cS} {b N N0 h:Nat} {L:Nat->Of.Os} {us:List Od} {A:Ha} {S:Hs} {vw vb vr va vt:M'} {ae Fin:O'->J'->Prop} {Post:M'->J'->Prop} {wl:J'} {aI:Y'} {aS:Act} {av:Array y_} {aN:Nat} {sg:List Nat} {aV:List x_} {cs:List Y'}
variable {pt:Int}
theorem D9 (B:eh p_ C b 0 ae Fin h) (hL:Lay C wl) (H:aQ A S vw vb vr va vt wl) {c:Int} (lW:S.back.length<=1000000) (hk:(S.of c).isSome=true\/S.back.contains c=true)
 (hc:ay p_ C b 0 ae Fin Post h (aY b N h L) wl (G (aI.at (aS.put ((av[aN]?).bind (·.dst)) (.string ⟨tT.toArray⟩)) (.inRegion av sg::aV)) cs)):
 ay p_ C b 0 ae Fin Post h (aY b N h L) wl (G ((base 121).at ⟨#[.pointer (some ⟨A.hb,0,none⟩),.int .i64 c,.int .i64 pt]++F_ 77 I',[]⟩ [.code bF]) (aI.at aS (.inRegion av (aN::sg)::aV)::cs)):=by
 have hS:=aH b N h L
 have ea:(#[.pointer (some ⟨A.hb,0,none⟩),.int .i64 c,.int .i64 pt]++F_ 77 I':Array M')=#[.pointer (some ⟨A.hb,0,none⟩),.int .i64 c,.int .i64 pt,I',I',I',I',I',I',I',I',I',I',I',I',I',I',I',I',I',I',I',I',I',I',I',I',I',I',I',I',I',I',I',I',I',I',I',I',I',I',I',I',I',I',I',I',I',I',I',I',I',I',I',I',I',I',I',I',I',I',I',I',I',I',I',I',I',I',I',I',I',I',I',I',I',I',I',I',I']:=by kernel_rfl
 rw [ea]
 have e1:bF=.seq (ai 0 bF) (.seq (ai 1 bF) (az 2 bF)):=by kernel_rfl
 rw [e1]
 refine B.s ?_
 refine B.p (fun T d Bh hB=> ?_)
 simp only [ai,bF,f121,A_]
 go_wp2_with fail
 refine bh hB ?_
 refine B.s ?_
 refine B.p (fun T d Bh hB=> ?_)
 have ir:=aa hc
 have c5:(wl.re T d).cell? ⟨A.hb,5,none⟩=some (.map (some A.m2)):=H.c.2.2.1
 have c8:(wl.re T d).cell? ⟨A.hb,8,none⟩=some vb:=H.c.2.2.2.2.2.1
 have kE:=H.of.heap (w':=wl.re T d) rfl
 have sY:=aa (KR (w:=wl.re T d) (H.heap (w':=wl.re T d) rfl).back lW c)
 have hno:=aa hL.no
 obtain ⟨ab,cb,K8⟩:=aE H.back
 rw [K8] at c8 sY
 clear hc hL H
 simp only [ai,bF,f121,A_]
 cases hx:S.of c with
 |some x=>
  have nT:(binOp .neq 78 (.chan (some x)) (.chan none)).run p_ (wl.re T d)=.ok (.bool true) (wl.re T d):=rY Tryz.underlying78 (some x)
  go_wp2_with (at_lookup;refine cU _ rfl _ _ 72 false rfl pe Tryz.underlying72 A.m2 rfl kE c rfl qQ ?_;simp only [hx,Option.map_some,A_,qp,if_false])
  subst hB
  intro hcut todo
  have jv:Lay C (wl.re T d):=⟨hcut,hno.out⟩
  refine ay.ctl B hS jv rfl (fun _=>aZ rfl rfl func121 rfl) ?_
  exact ir.out.re T d
 |none=>
  have nT:(binOp .neq 78 (.chan none) (.chan none)).run p_ (wl.re T d)=.ok (.bool false) (wl.re T d):=rY Tryz.underlying78 none
  have yL:S.back.contains c=true:=by rcases hk with h|h;rw [hx] at h;cases h;exact h
  rw [yL] at sY
  go_wp2_with (at_lookup;refine cU _ rfl _ _ 72 false rfl pe Tryz.underlying72 A.m2 rfl kE c rfl qQ ?_;simp only [hx,Option.map_none,Option.getD_none,qp,if_false])
  refine sY.out.mono ?_
  rintro e w2 ⟨rfl,rfl⟩
  go_wp2_with fail
  subst hB
  intro hcut todo
  have jv:Lay C (wl.re T d):=⟨hcut,hno.out⟩
  refine ay.ctl B hS jv rfl (fun _=>aZ rfl rfl func121 rfl) ?_
  exact ir.out.re T d
end
end Go.aC.Of
namespace Go.aC
open Go Go.Conc Go.Conc.Lib Go.ConcR Go.ConcR.Gen Go.RowKit
section
variable {P:U'} {C:cS} {b o h:Nat} {ae Fin:O'->J'->Prop} {Post:M'->J'->Prop} {Rs:(Nat->Prop)->(Nat->aX)->Nat->Prop} {wl:J'}
variable {aI:Y'} {a:Act} {cs:List Y'} {ops:Array y_} {i:Nat}
theorem ay.look (B:eh P C b o ae Fin h) (hS:gh h Rs) (hL:Lay C wl) {K:List x_} {rest:List Nat} {x:y_} (ho:ops[i]?=some x) (hw:U_ x (yielded ops a.tmps)=true) (hk:aI.kind≠.early) {v:M'}
 (hx:∀w,bI wl w->(V' a.eval x).run P w=.ok (.value v) w/\∀fn,seen P fn ((V' a.eval x).events P w #[])=#[])
 (hc:ay P C b o ae Fin Post h Rs wl (G (aI.at (a.put x.dst v) (.inRegion ops rest::K)) cs)):
 ay P C b o ae Fin Post h Rs wl (G (aI.at a (.inRegion ops (i::rest)::K)) cs):=by
 refine .walk B hS hL fun w n U EE fI=>Walk.gU rfl fun w₁ h₁=> ?_
 have cv:=EE.outside hL.cut h₁
 obtain ⟨h5,h6⟩:=hx w₁ cv
 refine ⟨_,w₁,_,stepG_value ho hw hk h5, ?_,.stop fun DU xo=>⟨wl,cv.outside hL.cut xo,fI,hc⟩⟩
 unfold listed
 rw [h6]
 exact ⟨tN w₁,id⟩
end
variable {wl w:J'} {b:Nat}
theorem bI.plain (h:bI wl w) {c:Array M'} {e:Q'} (hb:wl.heap[b]?=some (.cells c e (0,0))):∃k,c.size<=k/\w.shape? b=some (e,k)/\∀j,w.frozen? ⟨b,j,none⟩=false:=by
 obtain ⟨o',h1,h2⟩:=h.get hb
 cases h2 with
 |blind hb=>have:=hb.cells.1;simp [vV] at this
 |same=>exact ⟨c.size,C_ _,by simp [t_,h1],fun j=>by simp [World.frozen?,h1]⟩
 |cut g1 g2 g3=>
  rename_i c' f'
  refine ⟨c'.size,g1,by simp [t_,h1],fun j=> ?_⟩
  rw [p8 h1]
  cases kj:gd f' j with
  |false=>rfl
  |true=>have:=g3 j kj;simp [gd] at this
end Go.aC
namespace Go.aC.Of
open Go Go.Conc Go.aC Go.Proofs
open Go.RowKit hiding Hid
variable {w:J'} {B i:Nat} {xs vs:List M'}
theorem Ai {e s n g cap:Nat} (h:w.ownsRow B e s (.slice (some ⟨g,0,none⟩) n cap) n xs) (hn:n+1<=cap) (hi:i<=n) (hv:vs.length=s):
 ((w.setCells g (i * s+s) (xs.drop (i * s))).setCells g (i * s) vs).ownsRow B e s (.slice (some ⟨g,0,none⟩) (n+1) cap) (n+1) (xs.take (i * s)++vs++xs.drop (i * s))/\w.grownBy ((w.setCells g (i * s+s) (xs.drop (i * s))).setCells g (i * s) vs) (some g):=by
 have Wj:=h.1
 have his:i * s<=n * s:=Nat.mul_le_mul_right _ hi
 have lu:n * s+s=(n+1) * s:=by rw [Nat.add_mul,Nat.one_mul]
 refine ⟨?_, ?_⟩
 ·refine ⟨by simp only [K_,Q_,List.length_drop];omega, ?_⟩
  rcases h.2 with ⟨h',_⟩|⟨g',cap',cur,h',hb,hg,hc,hm,hs,ht⟩
  ·simp at h'
  ·simp only [Value.slice.injEq,n_,Addr.mk.injEq,and_true,true_and] at h'
   obtain ⟨rfl,rfl⟩:=h'
   have hcs:(n+1) * s<=cap * s:=Nat.mul_le_mul_right _ hn
   obtain ⟨RR,h1,h2,h3⟩:=fv g (xs.drop (i * s)) (i * s+s) w cur hg (by simp only [List.length_drop];omega)
   obtain ⟨RQ,h4,h5,h6⟩:=fv g vs (i * s) _ RR h1 (by omega)
   refine .inr ⟨g,cap,RQ,rfl,hb,h4,hn,hm,by omega, ?_⟩
   have rq:cur.toList.length=cap * s:=by simpa using hs
   have hx:cur.toList.take (i * s)=xs.take (i * s):=by
    rw [<-ht,List.take_take,Nat.min_eq_left his]
   rw [h6,h3]
   have e1:(List.take (i * s+s) cur.toList++List.drop (i * s) xs++List.drop (i * s+s+(List.drop (i * s) xs).length) cur.toList).take (i * s)=xs.take (i * s):=by
    rw [List.append_assoc,List.take_append_of_le_length (by simp only [Q_];omega),List.take_take,Nat.min_eq_left (by omega),hx]
   have e2:(List.take (i * s+s) cur.toList++List.drop (i * s) xs++List.drop (i * s+s+(List.drop (i * s) xs).length) cur.toList).drop (i * s+vs.length)=xs.drop (i * s)++List.drop (i * s+s+(List.drop (i * s) xs).length) cur.toList:=by
    rw [hv,List.append_assoc,List.drop_append_of_le_length (by simp only [Q_];omega),List.drop_of_length_le (by simp only [Q_];omega),List.nil_append]
   rw [e1,e2,<-List.append_assoc,List.take_append_of_le_length (by simp only [K_,Q_,List.length_drop];omega),List.take_of_length_le (by simp only [K_,Q_,List.length_drop];omega)]
 ·refine ⟨by rw [(bL ..).1,(bL ..).1],by rw [(bL ..).2.1,(bL ..).2.1],by rw [(bL ..).2.2,(bL ..).2.2],by rw [fq,fq];exact C_ _,fun k _ hk=> ?_⟩
  have fS:k≠g:=fun e=>hk (by rw [e])
  rw [Gy g _ _ _ k fS,Gy g _ _ _ k fS]
theorem Eh {e s n cap:Nat} {row:Array M'} (hB:B<=w.heap.size) (hx:xs.length=n * s) (hc:n+1<=cap) (hm:cap<=maxLen) (hr:row.size=cap * s) (hi:i<=n) (hv:vs.length=s) (h0:row.toList.take (i * s)=xs.take (i * s)):
 (((w.alloc (.cells row e)).setCells w.heap.size (i * s) vs).setCells w.heap.size (i * s+s) (xs.drop (i * s))).ownsRow B e s (.slice (some ⟨w.heap.size,0,none⟩) (n+1) cap) (n+1) (xs.take (i * s)++vs++xs.drop (i * s))/\
   w.grownBy (((w.alloc (.cells row e)).setCells w.heap.size (i * s) vs).setCells w.heap.size (i * s+s) (xs.drop (i * s))) none:=by
 have his:i * s<=n * s:=Nat.mul_le_mul_right _ hi
 have lu:n * s+s=(n+1) * s:=by rw [Nat.add_mul,Nat.one_mul]
 have hcs:(n+1) * s<=cap * s:=Nat.mul_le_mul_right _ hc
 have lG:(w.alloc (.cells row e)).heap[w.heap.size]?=some (.cells row e (0,0)):=Go.heap_alloc_new w _
 refine ⟨?_, ?_⟩
 ·refine ⟨by simp only [K_,Q_,List.length_drop];omega, ?_⟩
  obtain ⟨RR,h1,h2,h3⟩:=fv w.heap.size vs (i * s) _ row lG (by omega)
  obtain ⟨RQ,h4,h5,h6⟩:=fv w.heap.size (xs.drop (i * s)) (i * s+s) _ RR h1 (by simp only [List.length_drop];omega)
  refine .inr ⟨w.heap.size,cap,RQ,rfl,hB,h4,hc,hm,by omega, ?_⟩
  have wi:row.toList.length=cap * s:=by simpa using hr
  rw [h6,h3,h0]
  have e1:(List.take (i * s) xs++vs++List.drop (i * s+vs.length) row.toList).take (i * s+s)=xs.take (i * s)++vs:=by
   rw [List.take_append_of_le_length (by simp only [K_,Q_];omega),List.take_of_length_le (by simp only [K_,Q_];omega)]
  rw [e1,List.take_append_of_le_length (by simp only [K_,Q_,List.length_drop];omega),List.take_of_length_le (by simp only [K_,Q_,List.length_drop];omega)]
 ·refine ⟨by rw [(bL ..).1,(bL ..).1];rfl,by rw [(bL ..).2.1,(bL ..).2.1];rfl,by rw [(bL ..).2.2,(bL ..).2.2];rfl,by rw [fq,fq,B_];omega,fun k hk _=> ?_⟩
  have fS:k≠w.heap.size:=by omega
  rw [Gy _ _ _ _ k fS,Gy _ _ _ _ k fS]
  exact (N_ w _ none).block k hk (by simp)
end Go.aC.Of
namespace Go.aC.Of
section
open Go Go.Conc Go.Conc.Lib Go.ConcR Go.ConcR.Gen Go.aC Go.Proofs
open Go.RowKit hiding Hid
open Go.ConcN (upd upd_ne upd_same)
variable {C:cS} {b N N0 h:Nat} {L:Nat->Of.Os} {us:List Od} {A:Ha} {S:Hs} {vw vb vr va vt:M'} {ae Fin:O'->J'->Prop} {Post:M'->J'->Prop} {wl:J'} {aI:Y'} {aS:Act} {av:Array y_} {aN:Nat} {sg:List Nat} {aV:List x_} {cs:List Y'}
variable {pt:Int}
theorem Hb (B:eh p_ C b 0 ae Fin h) (hL:Lay C wl) (H:aQ A S vw vb vr va vt wl) {c:Int} (lW:S.back.length<=1000000) (hn:S.lines.length<=1000) (xE:S.of c=none) (yL:S.back.contains c=false) (jV:gf S= -1)
 (K:bN C A N0 h us L wl) (hT:aU A wl)
 (hc:∀aK qS,Lay C aK->aQ A {S with back:=S.back++[c]} vw qS vr va vt aK->bN C A N0 h us L aK->aU A aK->
  ay p_ C b 0 ae Fin Post h (aY b N h L) aK (G (aI.at (aS.put ((av[aN]?).bind (·.dst)) (.string ⟨KQ.toArray⟩)) (.inRegion av sg::aV)) cs)):
 ay p_ C b 0 ae Fin Post h (aY b N h L) wl (G ((base 121).at ⟨#[.pointer (some ⟨A.hb,0,none⟩),.int .i64 c,.int .i64 pt]++F_ 77 I',[]⟩ [.code bF]) (aI.at aS (.inRegion av (aN::sg)::aV)::cs)):=by
 have hS:=aH b N h L
 have ea:(#[.pointer (some ⟨A.hb,0,none⟩),.int .i64 c,.int .i64 pt]++F_ 77 I':Array M')=#[.pointer (some ⟨A.hb,0,none⟩),.int .i64 c,.int .i64 pt,I',I',I',I',I',I',I',I',I',I',I',I',I',I',I',I',I',I',I',I',I',I',I',I',I',I',I',I',I',I',I',I',I',I',I',I',I',I',I',I',I',I',I',I',I',I',I',I',I',I',I',I',I',I',I',I',I',I',I',I',I',I',I',I',I',I',I',I',I',I',I',I',I',I',I',I',I']:=by kernel_rfl
 rw [ea]
 have e1:bF=.seq (ai 0 bF) (.seq (ai 1 bF) (.seq (ai 2 bF) (.seq (ai 3 bF) (az 4 bF)))):=by kernel_rfl
 rw [e1]
 refine B.s ?_
 refine B.p (fun T d Bh hB=> ?_)
 simp only [ai,bF,f121,A_]
 go_wp2_with fail
 refine bh hB ?_
 refine B.s ?_
 refine B.p (fun T d Bh hB=> ?_)
 have c5:(wl.re T d).cell? ⟨A.hb,5,none⟩=some (.map (some A.m2)):=H.c.2.2.1
 have c8:(wl.re T d).cell? ⟨A.hb,8,none⟩=some vb:=H.c.2.2.2.2.2.1
 have kE:=H.of.heap (w':=wl.re T d) rfl
 have sY:=aa (KR (w:=wl.re T d) (H.heap (w':=wl.re T d) rfl).back lW c)
 obtain ⟨ab,cb,K8⟩:=aE H.back
 subst K8
 have ir:=aa hc
 have HH:=aa H
 have qK:=aa hL
 have QN:=aa hn
 clear hc hL H hn
 simp only [ai,bF,f121,A_]
 have nT:(binOp .neq 78 (.chan none) (.chan none)).run p_ (wl.re T d)=.ok (.bool false) (wl.re T d):=rY Tryz.underlying78 none
 rw [yL] at sY
 go_wp2_with (at_lookup;refine cU _ rfl _ _ 72 false rfl pe Tryz.underlying72 A.m2 rfl kE c rfl qQ ?_;simp only [xE,Option.map_none,Option.getD_none,qp,if_false])
 refine sY.out.mono ?_
 rintro e w2 ⟨rfl,rfl⟩
 go_wp2_with fail
 clear kE sY c5 c8 nT
 have hL:=qK.out
 refine bh hB ?_
 refine B.s ?_
 refine B.p (fun T d Bh hB=> ?_)
 have dJ:=aa (kK (HH.out.heap (w':=wl.re T d) rfl) QN.out)
 clear hL
 simp only [ai,bF,f121,A_]
 go_wp2_with fail
 refine dJ.out.mono ?_
 rintro e w2 ⟨rfl,rfl⟩
 rw [jV]
 go_wp2_with fail
 have hL:=qK.out
 refine bh hB ?_
 refine B.s ?_
 refine B.p (fun T d Bh hB=> ?_)
 simp only [ai,bF,f121,A_]
 have hlt:((-1:Int)<0)=True:=by simp
 have K0:f_ (bN C A N0 h us L (wl.re T d)):=⟨K.len,K.small,K.live,K.n0,K.ap,K.fo,K.kM,K.cells⟩
 have T0:f_ (aU A (wl.re T d)):=hT
 have H0:=aa (HH.out.heap (w':=wl.re T d) rfl)
 have hno:=aa hL.no
 replace hS:=aa hS
 obtain ⟨i3,UN,J2,J1,J0⟩:=info_parts CF
 have c8:=H0.out.c.2.2.2.2.2.1
 have z8:=H0.out.z 8
 have ot:=aa H0.out.back
 have OV:=aa H0.out.big
 have vJ:=aa lW
 have uf:=aa H0.out.ok.hb
 have fz:f_ (∀g,(mN ab S.back.length cb).ownBlock=some g->A.B<=g):=fun g e=>(H0.out.back.lt g e).1
 clear hL HH qK QN lW xE yL jV dJ K hT
 generalize wl.re T d=w0 at *
 go_wp2_with (at_builtin;go_loud (refine wpList_append_lies _ rfl (.tmp 32) (.tmp 34) 26 rfl A.B 3 i3 _ 1 8 Tryz.underlying26 UN J2 J1 J0 rfl (by decide) _ _ _ rfl (ot.out.alloc _) ⟨w0.heap.size,0,none⟩ 1 1 [.int .i64 c] rfl rfl (fY w0 _ _ rfl) ?c1 (by omega) ?c3 ?c4 ?c5 _ rfl ?_))
 case c1=>intro u hu;simp at hu;subst hu;rfl
 case c3=>have:=vJ.out;unfold maxLen;omega
 case c4=>have:=vJ.out;omega
 case c5=>rw [B_];have:=OV.out;omega
 intro g cap w6 jl kh iP mR
 have Iw:=aa kh
 have Rf:w6.heap[A.hb]?=w0.heap[A.hb]?:=by
  have h1:=kh.block A.hb (by rw [B_];have:=uf.out;have:=OV.out;omega) (fun e=>by have:=fz.out _ e.symm;have:=uf.out;omega)
  rw [h1]
  exact (N_ w0 (.cells #[.int .i64 c] 3) none).block A.hb (E_ uf.out OV.out) (by simp)
 have c8b:w6.cell? ⟨A.hb,8,none⟩=some (.slice ab S.back.length cb):=(J_ Rf).trans c8
 have z8b:w6.frozen? ⟨A.hb,8,none⟩=false:=(m_ Rf).trans z8
 have hp:=aa ((H0.out.alloc (.cells #[.int .i64 c] 3)).Cg (c:=c) kh jl (iP.imp (fun e=>e.symm) (fun e=>by rw [e,B_];rfl)))
 have F0:=aa (Fr.alloc (w:=w0) OV.out (.cells #[.int .i64 c] 3))
 clear jl kh iP mR ot Rf
 go_wp2_with fail
 subst hB
 intro hcut todo
 have jv:Lay C (w6.setCell ⟨A.hb,8,none⟩ (.slice (some ⟨g,0,none⟩) (S.back.length+1) cap)):=⟨hcut,hno.out⟩
 refine ay.ctl B hS.out jv rfl (fun _=>aZ rfl rfl func121 rfl) ?_
 have FF:=F0.out.trans hp.out.2
 exact ir.out _ _ jv hp.out.1 (K0.out.fr H0.out FF) (T0.out.fr H0.out FF)
structure gD (w w':J') (row:Option Nat):Prop where
 os:w'.os=w.os
 output:w'.output=w.output
 size:w.heap.size<=w'.heap.size
 block:∀k,k<w.heap.size->some k≠row->w'.heap[k]?=w.heap[k]?
variable {w w':J'}
theorem gD.W6 {row:Option Nat} (h:gD w w' row):w.grownBy (w'.re w.tape w'.drawn) row:=⟨h.os,rfl,h.output,h.size,h.block⟩
variable {T:Nat->Question->Nat} {d:Nat}
theorem gD.of {row:Option Nat} (h:(w.re T d).grownBy w' row):gD w w' row:=⟨h.os,h.output,h.size,h.block⟩
def gY (ws:List (Int × Int)) (i:Nat) (x:Int × Int):List (Int × Int):=ws.take i++[x]++ws.drop i
theorem jb:∀(ws:List (Int × Int)) (i:Nat),ax (ws.take i)=(ax ws).take (i * 2)
 |_,0=>by simp [ax]
 |[],i+1=>by simp [ax]
 |a::l,i+1=>by
  show [ah .i64 a.1,ah .i64 a.2]++ax (l.take i)=([ah .i64 a.1,ah .i64 a.2]++ax l).take ((i+1) * 2)
  rw [jb l i,show (i+1) * 2=i * 2+2 by omega]
  simp [List.take_append]
theorem kU:∀(ws:List (Int × Int)) (i:Nat),ax (ws.drop i)=(ax ws).drop (i * 2)
 |_,0=>by simp [ax]
 |[],i+1=>by simp [ax]
 |a::l,i+1=>by
  show ax (l.drop i)=([ah .i64 a.1,ah .i64 a.2]++ax l).drop ((i+1) * 2)
  rw [kU l i,show (i+1) * 2=i * 2+2 by omega]
  simp [List.drop_append]
theorem mb (ws:List (Int × Int)) (i:Nat) (x:Int × Int):ax (gY ws i x)=(ax ws).take (i * 2)++[.int .i64 x.1,.int .i64 x.2]++(ax ws).drop (i * 2):=by
 unfold gY
 rw [me,me,jb,kU];rfl
variable {ws:List (Int × Int)} {i:Nat}
theorem JZ (hi:i<=ws.length) (x:Int × Int):(gY ws i x).length=ws.length+1:=by
 unfold gY;simp only [K_,Q_,List.length_drop,List.length_cons,List.length_nil];omega
variable {P:U'}
theorem pP (w:J') (dT sT ty elem:Q') (s n b o VM aCx:Nat) (a:z_) (Tc X6:Nat) (cs:List M')
 (hu:P.underlying dT=some (.slice elem)) (hs:(P.info? elem).map (·.size)=some s) (hn:n=Nat.min Tc VM) (hl:cs.length=n * s)
 (QB:∀j v,cs[j]?=some v->w.cell? (a.add j)=some v) (hc:∀j,j<cs.length->(w.cell? ⟨b,o+j,none⟩).isSome=true) (hf:∀j,j<cs.length->w.frozen? ⟨b,o+j,none⟩=false) (h1:∀v∈cs,v.oneCell'=true):
 (Builtin.copy_ #[dT,sT] ty #[.slice (some ⟨b,o,none⟩) VM aCx,.slice (some a) Tc X6]).run P w=.ok (goInt n) (w.setCells b o cs):=by
 have hld:=run_loadCells_list (P:=P) w a cs QB
 have hst:=run_storeCells_cells (P:=P) b o cs 0 w (by simpa using hc) (by simpa using hf) h1
 cases hq:P.info? elem with
 |none=>simp [hq] at hs
 |some i=>
  have hi:i.size=s:=by simpa [hq] using hs
  rw [hl] at hld
  simp [Builtin.copy_,run_underlying hu,Builtin.lenOf,Builtin.firstCells,sizeOf,typeInfo,hq,hi,<-hn,hld,hst]
variable {ops:Array y_} {a:Act} {Q:Exit->Act->J'->Prop} {v':M'}
theorem rK (w:J') {rest:List y_} {o:y_} (Q4:o.guard=none) (d s:Operand) (t t':Q')
 (ho:o.op=.call {callee:=.builtin .copy,args:=#[d,s],argTypes:=#[t,t']}) (v u:M') (hd:a.eval d=v) (hs:a.eval s=u)
 (hr:(Builtin.copy_ #[t,t'] o.type #[v,u]).run P w=.ok v' w') (h:wpList P ops Q rest (a.put o.dst v') w'):wpList P ops Q (o::rest) a w:=by
 refine wpList_plain Q4 fun _ hK=> ?_
 unfold Oper.wp V'
 simp only [ho,resolve,invoke,builtin,Sem.run_bind,Sem.run_pure,Result.andThen_ok,List.map_toArray,S_,List.map_nil,hd,hs,hr]
 exact hK _ _ h
variable {K:Act->J'->Prop} {E:Prop}
theorem wK {o:y_}
 (hg:o.guard=none) (d x:Operand) (dT sT:Q') (hop:o.op=Op.call {callee:=Callee.builtin Builtin.copy,args:=#[d,x],argTypes:=#[dT,sT]})
 (v u:M') (hd:a.eval d=v) (hx:a.eval x=u) (hr:(Builtin.copy_ #[dT,sT] o.type #[v,u]).run P w=.ok v' w') (hK:K (a.put o.dst v') w'):
 if U_ o (yielded ops a.tmps)=true then Oper.wp P o a w K Q else E:=by
 have hw:U_ o (yielded ops a.tmps)=true:=by simp [U_,hg]
 rw [if_pos hw]
 unfold Oper.wp
 simp [V',hop,resolve,invoke,builtin,hd,hx,hr,Result.andThen]
 exact hK
theorem Ao {g:Nat} {a c:M'} {e:Q'} (h:w.heap[g]?=some (.cells #[a,c] e (0,0))):∀j u,[a,c][j]?=some u->w.cell? ((⟨g,0,none⟩:z_).add j)=some u:=by
 intro j u hu
 rw [Addr.add_lit]
 rcases j with _|_|j
 ·simp only [World.cell?,h];simpa using hu
 ·simp only [World.cell?,h];simpa using hu
 ·simp at hu
theorem Mw:(Tryz.prog.info? 84).map (·.size)=some 2:=by kernel_rfl
abbrev aDf (X:Exit->Act->J'->Prop):Exit->Act->J'->Prop:=fun e a w=>match e with| .normal=>X .normal a w| .ret=>X .ret a w|_=>False
theorem Gq {o:Nat} {Rs:(Nat->Prop)->(Nat->aX)->Nat->Prop} {K:List x_}:
 iM P C b o ae Fin Post h Rs aI K cs=aDf (iM P C b o ae Fin Post h Rs aI K cs):=by
 funext e a w;cases e<;>rfl
noncomputable def wV:Code:=f130.body.getD .skip
variable {B0:Nat}
def Ez (v:M') (i g1:Nat) (z:M'):Array M':=#[v,.int .i64 (i:Nat),.slice (some ⟨g1,0,none⟩) 1 1,I',I',I',.slice none 0 0,I',I',I',v,.int .i64 (i:Nat),z,I',I',I',I',I',I',I',I',I',I',I',I',I',I',I',I',I',I',I',I',I',I',I',I',I',I',I',I',I',I',I',I',I',I',I',I',I',I',I',I',I',I',I',I',I',I',I',I',I',I',I',I',I',I',I',I',I',I',I',I',I',I',I',I',I',I',I',I',I',I',I',I',I',I',I',I',I',I',I',I',I',I']
variable {g1:Nat}
theorem JX (B:eh p_ C b 0 ae Fin h) (hL:Lay C wl) {n:Nat} {v:M'} (hv:(v=.slice none 0 0/\n=0)\/∃g cap,v=.slice (some ⟨g,0,none⟩) n cap/\n<=cap/\cap<=9223372036854775807) (hi:i<=n)
 (hc:∀z,ay p_ C b 0 ae Fin Post h (aY b N h L) wl (G ((base 130).at ⟨Ez v i g1 z,[]⟩ [.code (az 2 wV)]) (aI.at aS (.inRegion av (aN::sg)::aV)::cs))):
 ay p_ C b 0 ae Fin Post h (aY b N h L) wl (G ((base 130).at ⟨#[v,.int .i64 (i:Nat),.slice (some ⟨g1,0,none⟩) 1 1]++F_ 92 I',[]⟩ [.code wV]) (aI.at aS (.inRegion av (aN::sg)::aV)::cs)):=by
 have hS:=aH b N h L
 have ea:(#[v,.int .i64 (i:Nat),.slice (some ⟨g1,0,none⟩) 1 1]++F_ 92 I':Array M')=#[v,.int .i64 (i:Nat),.slice (some ⟨g1,0,none⟩) 1 1,I',I',I',I',I',I',I',I',I',I',I',I',I',I',I',I',I',I',I',I',I',I',I',I',I',I',I',I',I',I',I',I',I',I',I',I',I',I',I',I',I',I',I',I',I',I',I',I',I',I',I',I',I',I',I',I',I',I',I',I',I',I',I',I',I',I',I',I',I',I',I',I',I',I',I',I',I',I',I',I',I',I',I',I',I',I',I',I',I',I',I',I']:=by kernel_rfl
 rw [ea]
 have e1:wV=.seq (ai 0 wV) (.seq (ai 1 wV) (az 2 wV)):=by kernel_rfl
 rw [e1]
 have q1:(i:Int)<=(n:Int):=by omega
 have q2:(0:Int)<=(i:Int):=by omega
 have ir:=aa hc
 clear hc
 refine B.s ?_
 refine B.p (fun T d Bh hB=> ?_)
 simp only [ai,wV,f130,A_]
 go_wp2_with fail
 refine bh hB ?_
 refine B.s ?_
 refine B.p (fun T d Bh hB=> ?_)
 simp only [ai,wV,f130,A_]
 rcases hv with ⟨rfl,rfl⟩|⟨g,cap,rfl,hcp,aEd⟩
 ·have qJ:i=0:=by omega
  subst qJ
  go_wp2_with fail
  refine bh hB ?_
  exact ir.out _
 ·have q3:(i:Int)<=(cap:Int):=by omega
  have q4:i<=cap:=by omega
  have q5:(n:Int)<=(cap:Int):=by omega
  go_wp2_with fail
  all_goals
   refine bh hB ?_
   first
    |exact ir.out _
    |(have hh:cap=i:=by assumption
      rw [hh] at ir
      exact ir.out _)
theorem Ey (B:eh p_ C b 0 ae Fin h) (hL:Lay C wl) {v z:M'} (bR:wl.ownsRow B0 84 2 v ws.length (ax ws)) (Ba:B0<=wl.heap.size) (hi:i=ws.length) {x:Int × Int} (lG:wl.heap[g1]?=some (.cells #[.int .i64 x.1,.int .i64 x.2] 84 (0,0))) (hne:v.ownBlock≠some g1) (hsm:ws.length<=1000000)
 (hc:∀aK v',Lay C aK->gD wl aK v.ownBlock->aK.ownsRow B0 84 2 v' (ws.length+1) (ax (gY ws i x))->(v'.ownBlock=v.ownBlock\/∃g,v'.ownBlock=some g/\wl.heap.size<=g)->
  ay p_ C b 0 ae Fin Post h (aY b N h L) aK (G (aI.at (aS.put ((av[aN]?).bind (·.dst)) v') (.inRegion av sg::aV)) cs)):
 ay p_ C b 0 ae Fin Post h (aY b N h L) wl (G ((base 130).at ⟨Ez v i g1 z,[]⟩ [.code (az 2 wV)]) (aI.at aS (.inRegion av (aN::sg)::aV)::cs)):=by
 have hS:=aH b N h L
 unfold Ez
 have e1:az 2 wV=.seq (ai 2 wV) (.seq (ai 3 wV) (.seq (ai 4 wV) (.seq (ai 5 wV) (.seq (ai 6 wV) (.seq (ai 7 wV) (.seq (ai 8 wV) (az 9 wV))))))):=by kernel_rfl
 rw [e1]
 have q3:(1:Int)≠0:=by decide
 have ir:=aa hc
 clear hc
 obtain ⟨ab,cap,ev⟩:=aE bR
 subst ev
 subst hi
 refine B.s ?_
 refine B.p (fun T d Bh hB=> ?_)
 simp only [ai,wV,f130,A_]
 go_wp2_with fail
 refine bh hB ?_
 refine B.s ?_
 refine B.p (fun T d Bh hB=> ?_)
 simp only [ai,wV,f130,A_]
 go_wp2_with fail
 refine bh hB ?_
 refine B.s ?_
 refine B.p (fun T d Bh hB=> ?_)
 simp only [ai,wV,f130,A_]
 go_wp2_with fail
 refine bh hB ?_
 refine B.s ?_
 refine B.p (fun T d Bh hB=> ?_)
 simp only [ai,wV,f130,A_]
 obtain ⟨i3,UN,J2,J1,J0⟩:=info_parts xn
 have L0:f_ ((wl.re T d).ownsRow B0 84 2 (.slice ab ws.length cap) ws.length (ax ws)):=bR
 have Dx:(wl.re T d).heap[g1]?=some (.cells #[.int .i64 x.1,.int .i64 x.2] 84 (0,0)):=lG
 have BL:f_ (B0<=(wl.re T d).heap.size):=Ba
 replace hsm:=aa hsm
 have hno:=aa hL.no
 have Ng:f_ (∀w',(wl.re T d).grownBy w' (mN ab ws.length cap).ownBlock->gD wl w' (mN ab ws.length cap).ownBlock):=fun _ hg=>gD.of hg
 have hsz:f_ ((wl.re T d).heap.size=wl.heap.size):=rfl
 replace hS:=aa hS
 clear bR lG Ba hL
 generalize wl.re T d=w0 at *
 go_wp2_with (at_builtin;refine wpList_append_lies _ rfl (.tmp 23) (.tmp 24) 74 rfl B0 84 i3 _ 2 16 Tryz.underlying74 UN J2 J1 J0 rfl (by decide) _ _ _ rfl L0.out ⟨g1,0,none⟩ 1 1 [.int .i64 x.1,.int .i64 x.2] rfl rfl (Ao Dx) ?c1 (by omega) ?c3 ?c4 BL.out _ rfl ?_)
 case c1=>intro u hu;simp at hu;rcases hu with rfl|rfl<;>rfl
 case c3=>have:=hsm.out;unfold maxLen;omega
 case c4=>have:=hsm.out;omega
 intro g mW w6 jl kh iP mR
 have lI:=aa (ir.out w6 (.slice (some ⟨g,0,none⟩) (ws.length+1) mW))
 have hG:=aa (Ng.out _ kh)
 have hO:f_ (w6.ownsRow B0 84 2 (.slice (some ⟨g,0,none⟩) (ws.length+1) mW) (ws.length+1) (ax (gY ws ws.length x))):=by
  rw [mb,List.take_of_length_le (by rw [bV];exact C_ _),List.drop_of_length_le (by rw [bV];exact C_ _),List.append_nil]
  exact jl
 have hV:f_ ((mN (some ⟨g,0,none⟩) (ws.length+1) mW).ownBlock=(mN ab ws.length cap).ownBlock\/∃g',(mN (some ⟨g,0,none⟩) (ws.length+1) mW).ownBlock=some g'/\wl.heap.size<=g'):=iP.imp (fun e=>e.symm) (fun e=>⟨g,rfl,by rw [e,hsz.out];exact C_ _⟩)
 clear jl kh iP mR ir
 go_wp2_with fail
 subst hB
 intro hcut todo
 have jv:Lay C w6:=⟨hcut,hno.out⟩
 refine ay.ctl B hS.out jv rfl (fun _=>aZ rfl rfl func130 rfl) ?_
 exact lI.out jv hG.out hO.out hV.out
theorem Gs (b:Nat):∀(vs:List M') (o:Nat) (w:J'),(w.setCells b o vs).drew=w.drew.setCells b o vs
 |[],_,_=>rfl
 |v::r,o,w=>by rw [World.setCells,World.setCells,Gs b r];rfl
theorem vY (ws:List (Int × Int)):∀u∈ax ws,u.oneCell'=true:=by
 intro u hu
 simp [ax] at hu
 obtain ⟨a,b,_,rfl|rfl⟩:=hu<;>rfl
theorem FB (b:Nat) (vs:List M') (o:Nat) (w:J') (h:∀j,j<vs.length->(w.cell? ⟨b,o+j,none⟩).isSome=true) (k:Nat) (hk:(w.cell? ⟨b,k,none⟩).isSome=true):((w.setCells b o vs).cell? ⟨b,k,none⟩).isSome=true:=by
 by_cases Nq:o<=k/\k<o+vs.length
 ·have:=World.cell?_setCells_in b vs o w h (k - o) (by omega)
  rw [show o+(k - o)=k by omega] at this
  rw [this];rfl
 ·rw [World.cell?_setCells_out b vs o w ⟨b,k,none⟩ (fun _ _=>by show k<o\/o+vs.length<=k;omega)]
  exact hk
theorem CE (B:eh p_ C b 0 ae Fin h) (hL:Lay C wl) {v z:M'} (bR:wl.ownsRow B0 84 2 v ws.length (ax ws)) (Ba:B0<=wl.heap.size) (hi:i<ws.length) (OQ:∀a c,v=.slice a ws.length c->c=ws.length) {x:Int × Int} (lG:wl.heap[g1]?=some (.cells #[.int .i64 x.1,.int .i64 x.2] 84 (0,0))) (hne:v.ownBlock≠some g1) (hsm:ws.length<=1000000)
 (hc:∀aK v',Lay C aK->gD wl aK v.ownBlock->aK.ownsRow B0 84 2 v' (ws.length+1) (ax (gY ws i x))->(v'.ownBlock=v.ownBlock\/∃g,v'.ownBlock=some g/\wl.heap.size<=g)->
  ay p_ C b 0 ae Fin Post h (aY b N h L) aK (G (aI.at (aS.put ((av[aN]?).bind (·.dst)) v') (.inRegion av sg::aV)) cs)):
 ay p_ C b 0 ae Fin Post h (aY b N h L) wl (G ((base 130).at ⟨Ez v i g1 z,[]⟩ [.code (az 2 wV)]) (aI.at aS (.inRegion av (aN::sg)::aV)::cs)):=by
 have hS:=aH b N h L
 unfold Ez
 have e1:az 2 wV=.seq (ai 2 wV) (.seq (ai 3 wV) (.seq (ai 4 wV) (.seq (ai 5 wV) (.seq (ai 6 wV) (.seq (ai 7 wV) (.seq (ai 8 wV) (az 9 wV))))))):=by kernel_rfl
 rw [e1]
 have q3:(1:Int)≠0:=by decide
 have ir:=aa hc
 clear hc
 obtain ⟨ab,cap,ev⟩:=aE bR
 subst ev
 have lJ:cap=ws.length:=OQ _ _ rfl
 clear OQ
 subst lJ
 obtain ⟨g,KN⟩:∃g,ab=some ⟨g,0,none⟩:=by
  rcases bR.2 with ⟨h0,h1⟩|⟨g,cap',cur,h1,_⟩
  ·omega
  ·injection h1 with h1 h2 h3;exact ⟨g,h1⟩
 subst KN
 have q4:((i:Int)=(ws.length:Int))=False:=by simp;omega
 have q5:(ws.length:Int)<(ws.length:Int)+1:=by omega
 refine B.s ?_
 refine B.p (fun T d Bh hB=> ?_)
 simp only [ai,wV,f130,A_]
 go_wp2_with fail
 refine bh hB ?_
 refine B.s ?_
 refine B.p (fun T d Bh hB=> ?_)
 simp only [ai,wV,f130,A_]
 go_wp2_with fail
 refine bh hB ?_
 refine B.s ?_
 refine B.p (fun T d Bh hB=> ?_)
 simp only [ai,wV,f130,A_]
 go_wp2_with fail
 refine bh hB ?_
 refine B.s ?_
 refine B.p (fun T d Bh hB=> ?_)
 simp only [ai,wV,f130,A_]
 go_wp2_with fail
 refine bh hB ?_
 refine B.s ?_
 refine ay.code (ok:=il) B pA hS hL (AB (by kernel_rfl) rfl rfl ⟨_,func130⟩) ?_
 intro T d
 rw [Gq]
 generalize hB:iM p_ C b 0 ae Fin Post h (aY b N h L) _ _ _=Bh
 replace hB:=aa hB
 simp only [ai,wV,f130,A_]
 have L0:f_ ((wl.re T d).ownsRow B0 84 2 (.slice (some ⟨g,0,none⟩) ws.length ws.length) ws.length (ax ws)):=bR
 have Dx:f_ ((wl.re T d).heap[g1]?=some (.cells #[.int .i64 x.1,.int .i64 x.2] 84 (0,0))):=lG
 have BL:f_ (B0<=(wl.re T d).heap.size):=Ba
 replace hsm:=aa hsm
 have hno:=aa hL.no
 have Ng:f_ (∀w',(wl.re T d).grownBy w' none->gD wl w' (some g)):=fun w' hg=>⟨hg.os,hg.output,hg.size,fun k hk _=>hg.block k hk (by simp)⟩
 have hsz:f_ ((wl.re T d).heap.size=wl.heap.size):=rfl
 replace hS:=aa hS
 clear bR lG Ba hL
 generalize wl.re T d=w0 at *
 obtain ⟨i0,qJ,tX,rm,uF⟩:=info_parts xn
 obtain ⟨n,hn⟩:∃n,n=ws.length:=⟨_,rfl⟩
 obtain ⟨ps,FY⟩:∃ps,ps=ax ws:=⟨_,rfl⟩
 have yd:ps.length=n * 2:=by rw [FY,hn];exact bV ws
 have Iu:∀u∈ps,u.oneCell'=true:=by rw [FY];exact vY ws
 have hcell:∀j,j<n * 2->w0.cell? ⟨g,j,none⟩=ps[j]?:=fun j hj=>by rw [FY];exact L0.out.cellAt j (by rw [<-hn];exact hj)
 have YU:=hsm.out
 rw [<-hn] at YU hi q5 ⊢
 have hgs:g<w0.heap.size:=(L0.out.lt g rfl).2
 have BI:g1<w0.heap.size:=(cI Dx.out)
 have hold:(Builtin.firstCells i0.size i (.slice (some ⟨g,0,none⟩) i n)).run p_ w0.drew=.ok (ps.take (i * 2)).toArray w0.drew:=by
  rw [rm]
  exact run_firstCells_some w0.drew 2 i ⟨g,0,none⟩ i n (ps.take (i * 2)) (by rw [Q_];omega) (fun j u hj=>by
   rw [Addr.add_lit,Nat.zero_add]
   rw [List.getElem?_take] at hj
   split at hj
   ·exact (hcell j (by omega)).trans hj
   ·cases hj)
 obtain ⟨G,hG⟩:∃G,G=grownCap w0 (n+1) n 84:=⟨_,rfl⟩
 obtain ⟨ROW,Nz⟩:∃ROW:Array M',ROW=(ps.take (i * 2)).toArray++Builtin.zeroCells (Value.agg #[.int .i64 0,.int .i64 0]).cells (n+1 - i)++Builtin.zeroCells (Value.agg #[.int .i64 0,.int .i64 0]).cells (G - (n+1)):=⟨_,rfl⟩
 obtain ⟨W1,wq⟩:∃W1,W1=w0.drew.alloc (.cells ROW 84):=⟨_,rfl⟩
 have hGn:n+1<=G:=by rw [hG];exact grownCap_ge w0 _ _ _
 have hGm:G<=maxLen:=by
  rw [hG]
  exact grownCap_le_maxLen w0 (n+1) n 84 (by unfold maxLen;omega)
 have DC:ROW.size=G * 2:=by
  have e1:(Value.agg #[ah .i64 0,ah .i64 0]).cells.size=2:=rfl
  rw [Nz,Array.size_append,Array.size_append,List.size_toArray,Q_,size_zeroCells,size_zeroCells,e1]
  omega
 have hRt:ROW.toList.take (i * 2)=ps.take (i * 2):=by
  rw [Nz,Array.toList_append,Array.toList_append,List.append_assoc,List.take_append_of_le_length (by simp only [Q_];omega)]
  exact List.take_of_length_le (by simp only [Q_];omega)
 have hrz:∀ty,(Builtin.append_ #[74,3] ty #[.slice (some ⟨g,0,none⟩) i n,.int .i64 ((n:Int)+1 - (i:Int))]).run p_ w0=.ok (.slice (some ⟨w0.heap.size,0,none⟩) (n+1) G) W1:=fun ty=>by
  have h1:=Lib.run_append_grow_zeros w0 74 3 ty 84 i0 _ .i64 .i64 Tryz.underlying74 Tryz.underlying3 qJ tX (some ⟨g,0,none⟩) i n (ps.take (i * 2)) hold (n+1 - i) (by omega) (by rw [rm];decide) (by omega) (by omega) (by rw [uF];omega) (by rw [uF,show i+(n+1 - i)=n+1 by omega];exact growslice_fits (by omega) (by omega))
  rw [show i+(n+1 - i)=n+1 by omega,<-hG] at h1
  rw [show (n:Int)+1 - (i:Int)=((n+1 - i:Nat):Int) by omega,wq,Nz]
  exact h1
 have lr:W1.heap.size=w0.heap.size+1:=by rw [wq,B_];rfl
 have hN:∀j,j<(n+1) * 2->(W1.cell? ⟨w0.heap.size,j,none⟩).isSome=true:=fun j hj=>by
  rw [wq,World.cell?_alloc_at (w:=w0.drew) ROW _ w0.heap.size j rfl,H_ (by omega)];rfl
 have Z6:∀j,W1.frozen? ⟨w0.heap.size,j,none⟩=false:=fun j=>by rw [wq];exact World.frozen?_alloc_at (w:=w0.drew) ROW _ w0.heap.size j rfl
 obtain ⟨news,iU⟩:∃news:List M',news=[.int .i64 x.1,.int .i64 x.2]:=⟨_,rfl⟩
 have rp:news.length=2:=by rw [iU];rfl
 have CP:∀u∈news,u.oneCell'=true:=by rw [iU];intro u hu;simp at hu;rcases hu with rfl|rfl<;>rfl
 obtain ⟨W2,Dz⟩:∃W2,W2=W1.setCells w0.heap.size (i * 2) news:=⟨_,rfl⟩
 have Rb:∀ty dc,(Builtin.copy_ #[74,74] ty #[.slice (some ⟨w0.heap.size,i * 2,none⟩) (n+1 - i) dc,.slice (some ⟨g1,0,none⟩) 1 1]).run p_ W1=.ok (goInt 1) W2:=fun ty dc=>by
  rw [Dz]
  refine pP W1 _ _ ty 84 2 1 w0.heap.size (i * 2) (n+1 - i) dc ⟨g1,0,none⟩ 1 1 news Tryz.underlying74 Mw (by simp only [Nat.min_def];split<;>omega) (by rw [rp]) ?_ (fun j hj=>hN _ (by omega)) (fun j hj=>Z6 _) CP
  intro j u hu
  have h1:W1.heap[g1]?=some (.cells #[.int .i64 x.1,.int .i64 x.2] 84 (0,0)):=by rw [wq];exact ((N_ w0.drew (.cells ROW 84) none).block g1 BI (by simp)).trans Dx.out
  exact Ao h1 j u (by rw [<-iU];exact hu)
 obtain ⟨ds,Gj⟩:∃ds,ds=ps.drop (i * 2):=⟨_,rfl⟩
 have OT:ds.length=(n - i) * 2:=by rw [Gj,List.length_drop,yd];omega
 obtain ⟨W3,Ix⟩:∃W3,W3=W2.drew.setCells w0.heap.size ((i+1) * 2) ds:=⟨_,rfl⟩
 have Ra:∀ty dc sc,(Builtin.copy_ #[74,74] ty #[.slice (some ⟨w0.heap.size,(i+1) * 2,none⟩) (n+1 - (i+1)) dc,.slice (some ⟨g,i * 2,none⟩) (n - i) sc]).run p_ W2.drew=.ok (goInt ((n - i:Nat):Int)) W3:=fun ty dc sc=>by
  rw [Ix]
  refine pP W2.drew _ _ ty 84 2 (n - i) w0.heap.size ((i+1) * 2) (n+1 - (i+1)) dc ⟨g,i * 2,none⟩ (n - i) sc ds Tryz.underlying74 Mw (by simp only [Nat.min_def];split<;>omega) OT ?_ ?_ ?_ (fun u hu=>Iu u (by rw [Gj] at hu;exact List.mem_of_mem_drop hu))
  ·intro j u hu
   show W2.cell? _=_
   rw [Addr.add_lit,Dz,World.cell?_setCells_out _ _ _ _ _ (fun hh _=>by have:g=w0.heap.size:=hh;omega),wq]
   have hj:j<ds.length:=(List.getElem?_eq_some_iff.1 hu).1
   rw [J_ (w:=w0.drew) (a:=⟨g,i * 2+j,none⟩) ((N_ w0.drew (.cells ROW 84) none).block g hgs (by simp))]
   refine (hcell _ (by omega)).trans ?_
   rw [Gj,List.getElem?_drop] at hu
   exact hu
  ·intro j hj
   show (W2.cell? _).isSome=true
   rw [Dz]
   exact FB _ _ _ _ (fun t ht=>hN _ (by omega)) _ (hN _ (by omega))
  ·intro j hj
   show W2.frozen? _=false
   rw [Dz,World.frozen?_setCells]
   exact Z6 _
 have q6:(0:Int)<=(n:Int)+1 - (i:Int):=by omega
 have q7:(i:Int)<=(n:Int):=by omega
 have q8:(i:Int)<=(n:Int)+1:=by omega
 have q9:IntKind.i64.wrap ((n:Int)+1 - (i:Int))=(n:Int)+1 - (i:Int):=IntWalk.i64_in _ (by omega)
 have q10:IntKind.i64.wrap ((i:Int)+1)=(i:Int)+1:=IntWalk.i64_in _ (by omega)
 have q11:IntKind.i64.wrap ((n:Int)+1)=(n:Int)+1:=IntWalk.i64_in _ (by omega)
 have q12:((i:Int)+1).toNat=i+1:=by omega
 have q13:(0:Int)<=(i:Int)+1:=by omega
 have q14:¬(n=i):=by omega
 have Yr:¬(G=i):=by omega
 have q16:¬(G=i+1):=by omega
 have q17:(n:Int)+1<=(G:Int):=by omega
 have lI:=aa (ir.out W3 (.slice (some ⟨w0.heap.size,0,none⟩) (n+1) G))
 have iw:=Eh (w:=w0.drew.drew) (B:=B0) (e:=84) (s:=2) (n:=n) (cap:=G) (xs:=ps) (vs:=news) (row:=ROW) BL.out yd hGn hGm DC (i:=i) (by omega) rp hRt
 have Vr:((w0.drew.drew.alloc (.cells ROW 84)).setCells w0.heap.size (i * 2) news).setCells w0.heap.size (i * 2+2) (ps.drop (i * 2))=W3:=by
  rw [Ix,Dz,wq,Gj,Gs,show (i+1) * 2=i * 2+2 by omega];rfl
 have mQ:=aa (show W3.ownsRow B0 84 2 (.slice (some ⟨w0.heap.size,0,none⟩) (n+1) G) (n+1) (ps.take (i * 2)++news++ps.drop (i * 2))/\w0.drew.drew.grownBy W3 none by rw [<-Vr];exact iw)
 clear iw Vr Ix Dz wq Nz DC hRt hG hold hN Z6 hcell lr ir qJ tX rm uF Dx L0 OT Gj yd Iu rp CP
 replace FY:=aa FY
 replace hn:=aa hn
 replace iU:=aa iU
 go_wp2_with (first
  |(at_builtin;refine Lib.wpList_append_run _ rfl _ _ _ _ rfl _ _ rfl rfl _ _ (hrz _) ?_)
  |(at_builtin;refine rK _ rfl _ _ 74 74 rfl _ _ rfl rfl (Rb _ _) ?_))
 go_region_law (refine wK (by rfl) (.tmp 50) (.tmp 53) 74 74 (by rfl) (.slice (some ⟨w0.heap.size,(i+1) * 2,none⟩) (n+1 - (i+1)) (G - (i+1))) (.slice (some ⟨g,i * 2,none⟩) (n - i) (n - i)) (by simp [Act.eval,Act.put]) (by simp [Act.eval,Act.put]) (Ra 3 (G - (i+1)) (n - i)) ?_)
 go_wp2_with fail
 subst hB
 intro hcut todo
 have jv:Lay C W3:=⟨hcut,hno.out⟩
 refine ay.ctl B hS.out jv rfl (fun _=>aZ rfl rfl func130 rfl) ?_
 refine lI.out jv (Ng.out _ ⟨mQ.out.2.os,mQ.out.2.tape,mQ.out.2.output,mQ.out.2.size,mQ.out.2.block⟩) ?_ (.inr ⟨_,rfl,by rw [hsz.out];exact C_ _⟩)
 rw [mb,<-FY.out,<-iU.out,<-hn.out]
 exact mQ.out.1
end
section
open Go Go.Conc Go.Conc.Lib Go.ConcR Go.ConcR.Gen Go.aC Go.Proofs
open Go.RowKit hiding Hid
variable {P:U'} {lb cb:Nat}
theorem vK {tS tR e:Q'} (ht:P.underlying tS=some (.slice e)) {size:Nat} (hz:∀w,(sizeOf e).run P w=.ok size w) (w:J') (es:Array Event) {ab ao la ca:Nat} {b:z_} (hne:ab≠b.block) {tA tB:Q'} {kA kB:Nat} (YV:w.shape? ab=some (tA,kA)) (hsb:w.shape? b.block=some (tB,kB)) (hkB:0<kB) (hf:∀j,w.frozen? ⟨ab,j,none⟩=false):
 (Extern.SlicesOverlaps.overlaps #[tS,tS] #[tR] #[.slice (some ⟨ab,ao,none⟩) la ca,.slice (some b) lb cb]).events P w es=es:=by
 have BH:(ab !=b.block)=true:=by simpa using hne
 have Zb:(ab==b.block)=false:=by simpa using hne
 have Mh:=hf ao
 have nj:=hf kA
 obtain ⟨k,rfl⟩:∃k,kB=k+1:=⟨kB - 1,by omega⟩
 show Sem.events P (Bind.bind (m:=Sem) (underlying tS) _) w es=es
 by_cases h0:la=0\/lb=0\/size=0
 ·simp [run_underlying ht,hz,h0]
 ·simp [run_underlying ht,hz,h0,BH,Zb,noView,viewAt,mayBeOne,stringish,YV,hsb,Mh,nj]
end
section
open Go Go.Conc Go.Conc.Lib Go.ConcR Go.ConcR.Gen Go.aC Go.Proofs
open Go.RowKit hiding Hid
open Go.ConcN (upd upd_ne upd_same)
variable {C:cS} {b N N0 h:Nat} {L:Nat->Of.Os} {B0:Nat} {ae Fin:O'->J'->Prop} {Post:M'->J'->Prop} {wl:J'} {aI:Y'} {aS:Act} {av:Array y_} {aN:Nat} {sg:List Nat} {aV:List x_} {cs:List Y'}
theorem I4 (w:J'):(sizeOf 84).run p_ w=.ok 2 w:=by
 obtain ⟨i0,qJ,_,h1,_⟩:=info_parts xn
 simp [sizeOf,typeInfo,qJ,h1]
variable {P:U'}
theorem G4 {fn f:w_}:seen P fn #[⟨.mark (.extern f),false,true⟩]=#[]:=by simp [seen]
variable {a:Act} {g1 lb cb:Nat} {w:J'}
theorem wS {o:y_} {x y:Operand} (ho:o.op=.call {callee:=.value (.func 140),args:=#[x,y],argTypes:=#[74,74]}) {g off:Nat} (hx:a.eval x=.slice (some ⟨g1,0,none⟩) 1 1) (hy:a.eval y=.slice (some ⟨g,off,none⟩) lb cb) (hne:g1≠g) {cA cB:Array M'} (hA:wl.heap[g1]?=some (.cells cA 84 (0,0))) (hB:wl.heap[g]?=some (.cells cB 84 (0,0))) (hs:0<cB.size) (hw:bI wl w):
 (V' a.eval o).run p_ w=.ok (.value (.bool false)) w/\∀fn,seen p_ fn ((V' a.eval o).events p_ w #[])=#[]:=by
 obtain ⟨kA,_,sA,fA⟩:=hw.plain hA
 obtain ⟨kB,hkB,sB,_⟩:=hw.plain hB
 have h1:=Lib.run_overlaps_apart w 74 4 84 Tryz.underlying74 2 I4 ⟨g1,0,none⟩ ⟨g,off,none⟩ 1 1 lb cb hne 84 84 kA kB sA sB (by omega) (fA 0) (fA kA)
 have h2:=vK Tryz.underlying74 (tR:=4) I4 w (#[⟨.mark (.extern 140),false,true⟩]) (ab:=g1) (ao:=0) (la:=1) (ca:=1) (lb:=lb) (cb:=cb) (b:=⟨g,off,none⟩) hne sA sB (by omega) fA
 have hf:Tryz.prog.funcs[140]?=some f140:=func140
 have hn:(f140.name== "runtime.NumGoroutine")=false:=by kernel_rfl
 have hb:f140.body.isNone=true:=by kernel_rfl
 have hen:Extern.findNext f140=none:=by kernel_rfl
 have he:Extern.find f140=some (Extern.SlicesOverlaps.overlaps #[74,74] #[4]):=by kernel_rfl
 have U5:a.eval (.func 140)=Value.func (Fn.func 140) #[] #[]:=rfl
 have bH:f140.name≠ "runtime.NumGoroutine" :=by simpa using hn
 have A8:f140.body=none:=by simpa using hb
 refine ⟨?_,fun fn=> ?_⟩
 ·simp only [V',ho,resolve,invoke,Deferred.ofValue,U5,List.map_toArray,S_,List.map_nil,hx,hy,Sem.run_bind,Sem.run_pure,Result.andThen_ok,Array.append_empty,Array.empty_append]
  rw [run_callFunc_extern hf hn hb hen he,h1]
  rfl
 ·have uO:(V' a.eval o).events p_ w #[]=#[⟨.mark (.extern 140),false,true⟩]:=by
   simp only [V',ho,resolve,invoke,Deferred.ofValue,U5,List.map_toArray,S_,List.map_nil,hx,hy]
   simp [callFunc,hf,bH,A8,hen,he,h2]
  rw [uO,G4]
variable {ws:List (Int × Int)} {i:Nat}
theorem AL (B:eh p_ C b 0 ae Fin h) (hL:Lay C wl) {v z:M'} (bR:wl.ownsRow B0 84 2 v ws.length (ax ws)) (Ba:B0<=wl.heap.size) (hi:i<ws.length) (hroom:∀a c,v=.slice a ws.length c->ws.length<c) {x:Int × Int} (lG:wl.heap[g1]?=some (.cells #[.int .i64 x.1,.int .i64 x.2] 84 (0,0))) (hne:v.ownBlock≠some g1) (hsm:ws.length<=1000000)
 (hc:∀aK v',Lay C aK->gD wl aK v.ownBlock->aK.ownsRow B0 84 2 v' (ws.length+1) (ax (gY ws i x))->(v'.ownBlock=v.ownBlock\/∃g,v'.ownBlock=some g/\wl.heap.size<=g)->
  ay p_ C b 0 ae Fin Post h (aY b N h L) aK (G (aI.at (aS.put ((av[aN]?).bind (·.dst)) v') (.inRegion av sg::aV)) cs)):
 ay p_ C b 0 ae Fin Post h (aY b N h L) wl (G ((base 130).at ⟨Ez v i g1 z,[]⟩ [.code (az 2 wV)]) (aI.at aS (.inRegion av (aN::sg)::aV)::cs)):=by
 have hS:=aH b N h L
 unfold Ez
 have e1:az 2 wV=.seq (ai 2 wV) (.seq (ai 3 wV) (.seq (ai 4 wV) (.seq (ai 5 wV) (.seq (ai 6 wV) (.seq (ai 7 wV) (.seq (ai 8 wV) (az 9 wV))))))):=by kernel_rfl
 rw [e1]
 have q3:(1:Int)≠0:=by decide
 have ir:=aa hc
 clear hc
 obtain ⟨ab,cap,ev⟩:=aE bR
 subst ev
 have lJ:ws.length<cap:=hroom _ _ rfl
 clear hroom
 obtain ⟨g,cur,KN,Zv,hcs,Ve⟩:∃g cur,ab=some ⟨g,0,none⟩/\wl.heap[g]?=some (.cells cur 84 (0,0))/\cur.size=cap * 2/\cap<=maxLen:=by
  rcases bR.2 with ⟨h0,h1⟩|⟨g,cap',cur,h1,_,h2,_,h3,h4,_⟩
  ·omega
  ·injection h1 with h1 h5 h6;subst h6;exact ⟨g,cur,h1,h2,h4,h3⟩
 subst KN
 have q4:((i:Int)=(ws.length:Int))=False:=by simp;omega
 have q5:((cap:Int)<(ws.length:Int)+1)=False:=by simp;omega
 have q6:IntKind.i64.wrap ((ws.length:Int)+1)=(ws.length:Int)+1:=IntWalk.i64_in _ (by omega)
 have q7:(0:Int)<=(ws.length:Int)+1:=by omega
 have q8:(ws.length:Int)+1<=(cap:Int):=by omega
 have q9:((ws.length:Int)+1).toNat=ws.length+1:=by omega
 have q10:IntKind.i64.wrap ((i:Int)+1)=(i:Int)+1:=IntWalk.i64_in _ (by omega)
 have q12:((i:Int)+1).toNat=i+1:=by omega
 have q13:(0:Int)<=(i:Int)+1:=by omega
 have q14:(i:Int)<=(ws.length:Int):=by omega
 have Yr:(i:Int)<=(ws.length:Int)+1:=by omega
 have q16:¬(cap=i):=by omega
 have q17:¬(cap=i+1):=by omega
 have q18:(i:Int)<=(cap:Int):=by omega
 refine B.s ?_
 refine B.p (fun T d Bh hB=> ?_)
 simp only [ai,wV,f130,A_]
 go_wp2_with fail
 refine bh hB ?_
 refine B.s ?_
 refine B.p (fun T d Bh hB=> ?_)
 simp only [ai,wV,f130,A_]
 go_wp2_with fail
 refine bh hB ?_
 refine B.s ?_
 refine B.p (fun T d Bh hB=> ?_)
 simp only [ai,wV,f130,A_]
 go_wp2_with fail
 refine bh hB ?_
 refine B.s ?_
 refine B.p (fun T d Bh hB=> ?_)
 simp only [ai,wV,f130,A_]
 go_wp2_with fail
 refine bh hB ?_
 refine B.s ?_
 refine B.p (fun T d Bh hB=> ?_)
 simp only [ai,wV,f130,A_]
 go_wp2_with fail
 refine bh hB ?_
 refine B.s ?_
 refine B.p (fun T d Bh hB=> ?_)
 simp only [ai,wV,f130,A_]
 go_wp2_with fail
 refine bh hB ?_
 simp only [ai,az,wV,f130,A_]
 refine B.s ?_
 refine B.s ?_
 refine B.r ?_
 refine B.q (.slice (some ⟨g1,0,none⟩) 1 1) ?_
 walk_nrm
 refine B.q (.slice (some ⟨g,0,none⟩) (ws.length+1) cap) ?_
 walk_nrm
 refine B.q (.int .i64 (i:Nat)) ?_
 walk_nrm
 refine B.q (.int .i64 1) ?_
 walk_nrm
 refine B.q (.int .i64 ((i:Int)+1)) ?_
 walk_nrm
 refine B.q (.slice (some ⟨g,(i+1) * 2,none⟩) (ws.length+1 - (i+1)) (cap - (i+1))) ?_
 walk_nrm
 refine ay.look B hS hL rfl rfl (by k_ne) (v:=.bool false) (fun w hw=>wS (x:=.tmp 61) (y:=.tmp 66) (by rfl) (g1:=g1) (g:=g) (off:=(i+1) * 2) (lb:=ws.length+1 - (i+1)) (cb:=cap - (i+1)) (by rfl) (by rfl) (fun e=>hne (by rw [e];rfl)) lG Zv (by omega) hw) ?_
 walk_nrm
 refine B.q (.bool true) ?_
 walk_nrm
 refine B.e ?_
 refine ay.code (ok:=il) B pA hS hL (AB (by kernel_rfl) rfl rfl ⟨_,func130⟩) ?_
 intro T d
 rw [Gq]
 generalize hB:iM p_ C b 0 ae Fin Post h (aY b N h L) _ _ _=Bh
 replace hB:=aa hB
 have L0:f_ ((wl.re T d).ownsRow B0 84 2 (.slice (some ⟨g,0,none⟩) ws.length cap) ws.length (ax ws)):=bR
 have Dx:f_ ((wl.re T d).heap[g1]?=some (.cells #[.int .i64 x.1,.int .i64 x.2] 84 (0,0))):=lG
 replace hsm:=aa hsm
 have hno:=aa hL.no
 have Ng:f_ (∀w',(wl.re T d).grownBy w' (some g)->gD wl w' (some g)):=fun _ hg=>gD.of hg
 have Q5:(wl.re T d).heap[g]?=some (.cells cur 84 (0,0)):=Zv
 replace hS:=aa hS
 clear bR lG Ba hL Zv
 generalize wl.re T d=w0 at *
 obtain ⟨n,hn⟩:∃n,n=ws.length:=⟨_,rfl⟩
 obtain ⟨ps,FY⟩:∃ps,ps=ax ws:=⟨_,rfl⟩
 have yd:ps.length=n * 2:=by rw [FY,hn];exact bV ws
 have Iu:∀u∈ps,u.oneCell'=true:=by rw [FY];exact vY ws
 have hcell:∀j,j<n * 2->w0.cell? ⟨g,j,none⟩=ps[j]?:=fun j hj=>by rw [FY];exact L0.out.cellAt j (by rw [<-hn];exact hj)
 have hsp:∀j,j<cap * 2->(w0.cell? ⟨g,j,none⟩).isSome=true:=fun j hj=>by
  simp only [World.cell?,Q5]
  rw [H_ (by omega)];rfl
 have Zw:∀j,w0.frozen? ⟨g,j,none⟩=false:=fun j=>by simp [World.frozen?,Q5]
 rw [<-hn] at hi lJ q4 q5 q6 q7 q8 q9 q14 Yr ⊢
 obtain ⟨news,iU⟩:∃news:List M',news=[.int .i64 x.1,.int .i64 x.2]:=⟨_,rfl⟩
 have rp:news.length=2:=by rw [iU];rfl
 have CP:∀u∈news,u.oneCell'=true:=by rw [iU];intro u hu;simp at hu;rcases hu with rfl|rfl<;>rfl
 obtain ⟨ds,Gj⟩:∃ds,ds=ps.drop (i * 2):=⟨_,rfl⟩
 have OT:ds.length=(n - i) * 2:=by rw [Gj,List.length_drop,yd];omega
 obtain ⟨W1,wq⟩:∃W1,W1=w0.drew.setCells g ((i+1) * 2) ds:=⟨_,rfl⟩
 have Rb:∀ty dc sc,(Builtin.copy_ #[74,74] ty #[.slice (some ⟨g,(i+1) * 2,none⟩) (n+1 - (i+1)) dc,.slice (some ⟨g,i * 2,none⟩) (n+1 - i) sc]).run p_ w0.drew=.ok (goInt ((n - i:Nat):Int)) W1:=fun ty dc sc=>by
  rw [wq]
  refine pP w0.drew _ _ ty 84 2 (n - i) g ((i+1) * 2) (n+1 - (i+1)) dc ⟨g,i * 2,none⟩ (n+1 - i) sc ds Tryz.underlying74 Mw (by simp only [Nat.min_def];split<;>omega) OT ?_ (fun j hj=>hsp _ (by omega)) (fun j _=>Zw _) (fun u hu=>Iu u (by rw [Gj] at hu;exact List.mem_of_mem_drop hu))
  intro j u hu
  rw [Addr.add_lit]
  have hj:j<ds.length:=(List.getElem?_eq_some_iff.1 hu).1
  refine (hcell _ (by omega)).trans ?_
  rw [Gj,List.getElem?_drop] at hu
  exact hu
 have lr:∀j,j<cap * 2->(W1.cell? ⟨g,j,none⟩).isSome=true:=fun j hj=>by
  rw [wq];exact FB g ds ((i+1) * 2) w0.drew (fun t ht=>hsp _ (by omega)) j (hsp j hj)
 obtain ⟨W2,Dz⟩:∃W2,W2=W1.setCells g (i * 2) news:=⟨_,rfl⟩
 have Ra:∀ty dc,(Builtin.copy_ #[74,74] ty #[.slice (some ⟨g,i * 2,none⟩) (n+1 - i) dc,.slice (some ⟨g1,0,none⟩) 1 1]).run p_ W1=.ok (goInt 1) W2:=fun ty dc=>by
  rw [Dz]
  refine pP W1 _ _ ty 84 2 1 g (i * 2) (n+1 - i) dc ⟨g1,0,none⟩ 1 1 news Tryz.underlying74 Mw (by simp only [Nat.min_def];split<;>omega) (by rw [rp]) ?_ (fun j hj=>lr _ (by omega)) (fun j hj=>by rw [wq,World.frozen?_setCells];exact Zw _) CP
  intro j u hu
  have Iw:g1≠g:=fun e=>hne (by rw [e];rfl)
  have h1:W1.heap[g1]?=some (.cells #[.int .i64 x.1,.int .i64 x.2] 84 (0,0)):=by rw [wq,Gy _ _ _ _ _ Iw];exact Dx.out
  exact Ao h1 j u (by rw [<-iU];exact hu)
 have iw:=Ai (w:=w0.drew) (i:=i) (vs:=news) (by rw [<-FY,<-hn] at L0;exact L0.out) (by omega) (by omega) rp
 have Vr:(w0.drew.setCells g (i * 2+2) (ps.drop (i * 2))).setCells g (i * 2) news=W2:=by
  rw [Dz,wq,Gj,show (i+1) * 2=i * 2+2 by omega]
 rw [Vr] at iw
 have mQ:=aa iw
 have lI:=aa (ir.out W2 (.slice (some ⟨g,0,none⟩) (n+1) cap))
 clear iw Vr Dz wq hcell lr ir Dx L0 OT Gj yd Iu rp CP hsp Zw Q5 hcs
 replace FY:=aa FY
 replace hn:=aa hn
 replace iU:=aa iU
 go_wp2_with fail
 go_region_law (refine wK (by rfl) (.tmp 73) (.tmp 76) 74 74 (by rfl) (.slice (some ⟨g,(i+1) * 2,none⟩) (n+1 - (i+1)) (cap - (i+1))) (.slice (some ⟨g,i * 2,none⟩) (n+1 - i) (cap - i)) (by simp [Act.eval,Act.put]) (by simp [Act.eval,Act.put]) (Rb 3 (cap - (i+1)) (cap - i)) ?_)
 go_wp2_with (at_builtin;refine rK _ rfl _ _ 74 74 rfl _ _ rfl rfl (Ra _ _) ?_)
 subst hB
 intro hcut todo
 have jv:Lay C W2:=⟨hcut,hno.out⟩
 refine ay.ctl B hS.out jv rfl (fun _=>aZ rfl rfl func130 rfl) ?_
 refine lI.out jv (Ng.out _ ⟨mQ.out.2.os,mQ.out.2.tape,mQ.out.2.output,mQ.out.2.size,mQ.out.2.block⟩) ?_ (.inl rfl)
 rw [mb,<-FY.out,<-iU.out,<-hn.out]
 exact mQ.out.1
theorem Ld {v:M'}:fZ p_ 130 #[v,.int .i64 (i:Nat),.slice (some ⟨g1,0,none⟩) 1 1] .normal=(base 130).at ⟨#[v,.int .i64 (i:Nat),.slice (some ⟨g1,0,none⟩) 1 1]++F_ 92 I',[]⟩ [.code wV]:=by kernel_rfl
theorem nE (w:J') (a:z_) (v:M') (T:Nat->Question->Nat) (d:Nat):(w.re T d).setCell a v=(w.setCell a v).re T d:=by
 unfold World.setCell
 show (match w.heap[a.block]? with|_=>_)=_
 cases w.heap[a.block]? with
 |none=>rfl
 |some o=>cases o<;>rfl
def jj:Bs:=[108,105,110,101,32]
structure Im (A:Ha) (w w':J'):Prop where
 size:w.heap.size<=w'.heap.size
 block:∀i,i<A.B->i≠A.hb->i≠A.m1->i≠A.m2->i≠A.m3->w'.heap[i]?=w.heap[i]?
variable {A:Ha} {S:Hs} {vb vr va vt:M'} {w':J'} {us:List Od}
theorem bN.zt {vw:M'} {L:Nat->Os} (K:bN C A N0 h us L w) (H:aQ A S vw vb vr va vt w) (F:Im A w w'):bN C A N0 h us L w':=by
 have K1:bN C A N0 h us L {w with heap:=w'.heap}:=K.fr H ⟨rfl,rfl,rfl,F.size,F.block⟩
 exact ⟨K1.len,K1.small,K1.live,K1.n0,K1.ap,K1.fo,K1.kM,K1.cells⟩
theorem aU.zt {vw:M'} (h:aU A w) (H:aQ A S vw vb vr va vt w) (F:Im A w w'):aU A w':=
 (h.fr H (w':={w with heap:=w'.heap}) ⟨rfl,rfl,rfl,F.size,F.block⟩:)
variable {vw:M'}
theorem JY (B:eh p_ C b 0 ae Fin h) (hL:Lay C wl) {v:M'} (bR:wl.ownsRow B0 84 2 v ws.length (ax ws)) (Ba:B0<=wl.heap.size) (hi:i<=ws.length) {x:Int × Int} (lG:wl.heap[g1]?=some (.cells #[.int .i64 x.1,.int .i64 x.2] 84 (0,0))) (hne:v.ownBlock≠some g1) (hsm:ws.length<=1000000)
 (hc:∀aK v',Lay C aK->gD wl aK v.ownBlock->aK.ownsRow B0 84 2 v' (ws.length+1) (ax (gY ws i x))->(v'.ownBlock=v.ownBlock\/∃g,v'.ownBlock=some g/\wl.heap.size<=g)->
  ay p_ C b 0 ae Fin Post h (aY b N h L) aK (G (aI.at (aS.put ((av[aN]?).bind (·.dst)) v') (.inRegion av sg::aV)) cs)):
 ay p_ C b 0 ae Fin Post h (aY b N h L) wl (G ((base 130).at ⟨#[v,.int .i64 (i:Nat),.slice (some ⟨g1,0,none⟩) 1 1]++F_ 92 I',[]⟩ [.code wV]) (aI.at aS (.inRegion av (aN::sg)::aV)::cs)):=by
 have hv:(v=.slice none 0 0/\ws.length=0)\/∃g cap,v=.slice (some ⟨g,0,none⟩) ws.length cap/\ws.length<=cap/\cap<=9223372036854775807:=by
  rcases bR.2 with ⟨h0,h1⟩|⟨g,cap,cur,h1,_,_,h2,h3,_⟩
  ·exact .inl ⟨h0,h1⟩
  ·exact .inr ⟨g,cap,h1,h2,h3⟩
 refine JX B hL hv hi fun z=> ?_
 by_cases he:i=ws.length
 ·exact Ey B hL bR Ba he lG hne hsm hc
 ·rcases hv with ⟨_,h0⟩|⟨g,cap,h1,h2,_⟩
  ·omega
  ·by_cases hf:cap=ws.length
   ·exact CE B hL bR Ba (by omega) (fun a c e=>by rw [h1] at e;injection e with e1 e2 e3;omega) lG hne hsm hc
   ·exact AL B hL bR Ba (by omega) (fun a c e=>by rw [h1] at e;injection e with e1 e2 e3;omega) lG hne hsm hc
variable {pt:Int} {l k:Nat}
theorem ring_end (B:eh p_ C b 0 ae Fin h) (hL:Lay C wl) (H:aQ A S vw vb vr va vt wl) (K:bN C A N0 h us L wl) (hT:aU A wl) {c:Int} (hl:l<=1000) (hk:k<=S.wait.length) (AQ:S.wait.length<=1000000) {z3 z4 z5 z6 z9 dB cZ z12 de dn dm dk dj dA dz z20 z21 z22 z23 z24 z25 z26 dD z28 dC dM z31 dQ dK dP dO dV z37 ey ew z40 eu eK eJ eI eH z46 eQ eN z49 en z51 iu z53 iF iE iD iC iB z59 nv nu np nk sW sV rH rG rF uu z70 yb z72 HC EV z75 z76 Cd By AF:M'}
 (hc:∀aK jA,Lay C aK->aQ A {S with wait:=gY S.wait k (c,pt)} jA vb vr va vt aK->bN C A N0 h us L aK->aU A aK->
  ay p_ C b 0 ae Fin Post h (aY b N h L) aK (G (aI.at (aS.put ((av[aN]?).bind (·.dst)) (.string ⟨(jj++L_ ((l:Int)+1)).toArray⟩)) (.inRegion av sg::aV)) cs)):
 ay p_ C b 0 ae Fin Post h (aY b N h L) wl (G ((base 121).at ⟨#[.pointer (some ⟨A.hb,0,none⟩),.int .i64 c,.int .i64 pt,z3,z4,z5,z6,.int .i64 (l:Nat),.int .i64 (k:Nat),z9,dB,cZ,z12,de,dn,dm,dk,dj,dA,dz,z20,z21,z22,z23,z24,z25,z26,dD,z28,dC,dM,z31,dQ,dK,dP,dO,dV,z37,ey,ew,z40,eu,eK,eJ,eI,eH,z46,eQ,eN,z49,en,z51,iu,z53,iF,iE,iD,iC,iB,z59,nv,nu,np,nk,sW,sV,rH,rG,rF,uu,z70,yb,z72,HC,EV,z75,z76,Cd,By,AF],[]⟩ [.code (.seq (ai 7 bF) (az 8 bF))]) (aI.at aS (.inRegion av (aN::sg)::aV)::cs)):=by
 have hS:=aH b N h L
 have ir:=aa hc
 clear hc
 refine B.s ?_
 generalize hK:[lN (az 8 bF)]=K0 at *
 simp only [ai,bF,f121,A_]
 iterate 5 refine B.n ?_
 refine B.o vw (fun T d=> ?_) ?_
 ·have h0:(wl.re T d).cell? ⟨A.hb,7,none⟩=some vw:=H.c.2.2.2.2.1
  go_simp
 walk_nrm
 iterate 4 refine B.n ?_
 refine ay.op (ok:=il) B hS hL rfl rfl (by k_ne) (by kernel_rfl) (fun T d=>⟨.slice (some ⟨wl.heap.size,0,none⟩) 1 1,(wl.alloc (.cells #[.int .i64 c,.int .i64 pt] 84)).re T d, ?_,fun hcut=>ay.re ?_ T d⟩)
 ·go_simp
  exact ⟨rfl,rfl⟩
 have du:Lay C (wl.alloc (.cells #[.int .i64 c,.int .i64 pt] 84)):=⟨Cut.j8 hcut,hL.no⟩
 walk_nrm
 have H2:=H.alloc (.cells #[.int .i64 c,.int .i64 pt] 84)
 have F2:Im A wl (wl.alloc (.cells #[.int .i64 c,.int .i64 pt] 84)):=⟨(Fr.alloc (w:=wl) H.big _).size,(Fr.alloc (w:=wl) H.big _).block⟩
 refine ay.ctl B hS du rfl (fun _=>bY (vs:=#[vw,.int .i64 (k:Nat),.slice (some ⟨wl.heap.size,0,none⟩) 1 1]) rfl rfl (by k_ne) rfl func130 rfl rfl (by kernel_rfl)) ?_
 rw [Ld]
 have fz:∀g,vw.ownBlock=some g->A.B<=g/\g<wl.heap.size:=fun g e=>H.wait.lt g e
 refine JY B du (B0:=A.B) (ws:=S.wait) (v:=vw) (i:=k) (x:=(c,pt)) H2.wait H2.big hk (Z' wl _) (fun e=>Nat.lt_irrefl _ (fz _ e).2) AQ fun w3 v3 gA KV QK ZP=> ?_
 obtain ⟨a3,q3,WW⟩:=aE QK
 replace WW:=aa WW
 have hp:=H2.Af (w':=w3.re (wl.alloc (.cells #[.int .i64 c,.int .i64 pt] 84)).tape w3.drawn) (v:=v3) (ws:=gY S.wait k (c,pt)) KV.W6 (by rw [JZ hk];exact QK)
 have H4:=hp.1
 have F4:Im A wl (w3.setCell ⟨A.hb,7,none⟩ v3):=⟨D_ F2.size hp.2.size,fun i h1 h2 h3 h4 h5=>(hp.2.block i h1 h2 h3 h4 h5).trans (F2.block i h1 h2 h3 h4 h5)⟩
 have c7:∀T d,(w3.re T d).cell? ⟨A.hb,7,none⟩=some vw:=fun _ _=>(J_ (KV.block A.hb (E_ H2.ok.hb H2.big) (fun e=>by have:=(fz _ e.symm).1;have:=H2.ok.hb;omega))).trans H2.c.2.2.2.2.1
 have z7:∀T d,(w3.re T d).frozen? ⟨A.hb,7,none⟩=false:=fun _ _=>(m_ (KV.block A.hb (E_ H2.ok.hb H2.big) (fun e=>by have:=(fz _ e.symm).1;have:=H2.ok.hb;omega))).trans (H2.z 7)
 walk_nrm
 iterate 2 refine B.n ?_
 refine ay.Wh (ok:=il) B hS gA rfl rfl (by k_ne) (by kernel_rfl) (fun T d=>⟨(w3.setCell ⟨A.hb,7,none⟩ v3).re T d, ?_,fun hcut=>ay.re ?_ T d⟩)
 ·have h7:=c7 T d
  have f7:=z7 T d
  rw [WW.out]
  go_simp
  exact nE _ _ _ _ _
 have qv:Lay C (w3.setCell ⟨A.hb,7,none⟩ v3):=⟨Cut.j8 hcut,gA.no⟩
 walk_nrm
 refine B.e ?_
 have K4:bN C A N0 h us L (w3.setCell ⟨A.hb,7,none⟩ v3):=K.zt H F4
 have T4:aU A (w3.setCell ⟨A.hb,7,none⟩ v3):=aU.zt hT H F4
 have H5:aQ A {S with wait:=gY S.wait k (c,pt)} v3 vb vr va vt (w3.setCell ⟨A.hb,7,none⟩ v3):=H4.heap rfl
 clear WW H4 hp F4 c7 z7 KV QK ZP gA H2 F2 du K hT H hL fz
 generalize w3.setCell ⟨A.hb,7,none⟩ v3=w5 at *
 subst hK
 refine B.p (fun T d Bh hB=> ?_)
 have H6:=aa (H5.heap (w':=w5.re T d) rfl)
 have K6:f_ (bN C A N0 h us L (w5.re T d)):=⟨K4.len,K4.small,K4.live,K4.n0,K4.ap,K4.fo,K4.kM,K4.cells⟩
 have T6:f_ (aU A (w5.re T d)):=T4
 have hno:=aa qv.no
 replace hS:=aa hS
 clear H5 K4 T4 qv
 generalize w5.re T d=w6 at *
 have oJ:IntKind.i64.wrap ((l:Int)+1)=(l:Int)+1:=IntWalk.i64_in _ (by omega)
 have hlen:=Lib.itoa_length_le ((l:Int)+1) (by omega) (by omega)
 have nU:¬(9223372036854775807<5+(L_ ((l:Int)+1)).length):=by omega
 have HF:=aa (si (T6.out.PO H6.out) ((l:Int)+1) (by omega) (by omega))
 simp only [az,bF,f121,A_]
 go_wp2_with fail
 refine HF.out.mono ?_
 rintro e w7 ⟨rfl,hg⟩
 have F7:=Fr.kept H6.out.big hg (fun _ e=>by cases e)
 have H7:=aa (H6.out.more hg)
 have K7:=aa (K6.out.fr H6.out F7)
 have T7:=aa (T6.out.fr H6.out F7)
 clear hg F7 H6 K6 T6 HF
 go_wp2_with fail
 subst hB
 intro hcut todo
 have jv:Lay C w7:=⟨hcut,hno.out⟩
 refine ay.ctl B hS.out jv rfl (fun _=>aZ rfl rfl func121 rfl) ?_
 have:=ir.out w7 _ jv H7.out K7.out T7.out
 rw [<-vQ] at this
 exact this
end
end Go.aC.Of
