/-
  A function that a value names; slices.IndexFunc over the waiters, in company.
-/
import Derived.Test.YtnjkbffmmgckeaaGreatDoorPaa
import Derived.Test.YtnjkbffmmgckeaaGreatDoorPag
import Derived.Test.YtnjkbffmmgckeaaGreatDoorPam
set_option linter.all false
set_option maxRecDepth 100000
set_option maxHeartbeats 32000000
open Go renaming undef->I',World->J',Value->M',Goroutine->O',execOp->V',Frame->Y',Item->x_,Oper->y_
open Go.RowKit renaming Hid->f_
open Option renaming getD_some->A_
open Nat renaming lt_of_lt_of_le->E_
open Array renaming replicate->F_
open List renaming getElem?_eq_getElem->G_,length_append->K_,length_take->Q_
open Go.Proofs.Tryz renaming prog->p_
open Go.Proofs.Tryz
namespace Go.aC.Of
section
open Go Go.Conc Go.Conc.Lib Go.ConcR Go.ConcR.Gen Go.aC Go.Proofs
open Go.RowKit hiding Hid
open Go.ConcN (upd upd_ne upd_same)
section
variable {P:Program} {main:Bool} {b:Y'} {a:Act} {k:List x_} {cs:List Y'} {ops:Array y_} {i:Nat} {rest:List Nat} {o:y_} {w:J'} {f:FuncId} {fn:Func} {c:Code} {args:Array Operand} {ats:Array TypeId} {t:Operand} {caps vs:Array M'}
theorem zZ (hop:o.op=.call {callee:=.value t,args,argTypes:=ats}) (ht:a.eval t=.func (.func f) #[] caps) (hf:P.funcs[f]?=some fn) (lV:(fn.name== "runtime.NumGoroutine")=false) (hb:fn.body.isNone=false):(V' a.eval o).run P w=.ok (.enter f (args.map a.eval++caps)) w:=by
 have h1:¬fn.name= "runtime.NumGoroutine" :=by simpa using lV
 have h2:¬fn.body=none:=by cases hx:fn.body<;>simp_all
 unfold V'
 simp [hop,resolve,Deferred.ofValue,invoke,callFunc,hf,h1,h2,ht]
theorem vL (hop:o.op=.call {callee:=.value t,args,argTypes:=ats}) (ht:a.eval t=.func (.func f) #[] caps) (hf:P.funcs[f]?=some fn) (lV:(fn.name== "runtime.NumGoroutine")=false) (hb:fn.body.isNone=false) (es:Array Event):(V' a.eval o).events P w es=es:=by
 have h1:¬fn.name= "runtime.NumGoroutine" :=by simpa using lV
 have h2:¬fn.body=none:=by cases hx:fn.body<;>simp_all
 unfold V'
 simp [hop,resolve,Deferred.ofValue,invoke,callFunc,hf,h1,h2,ht]
theorem za (ho:ops[i]?=some o) (hw:Region.wanted o (yielded ops a.tmps)=true) (hk:b.kind≠.early) (hop:o.op=.call {callee:=.value t,args,argTypes:=ats}) (ht:a.eval t=.func (.func f) #[] caps)
 (hf:P.funcs[f]?=some fn) (lV:(fn.name== "runtime.NumGoroutine")=false) (hb:fn.body=some c) (ha:args.map a.eval++caps=vs):
 stepG P main (G (b.at a (.inRegion ops (i::rest)::k)) cs) w=.go (G (Frame.enter P f vs .normal) (b.at a (.inRegion ops (i::rest)::k)::cs)) w #[]:=by
 have A8:fn.body.isNone=false:=by rw [hb];rfl
 rw [<-ha,stepG_enter ho hw hk (zZ hop ht hf lV A8)]
 have:listed P b.fn a o w=#[]:=by unfold listed;rw [vL hop ht hf lV A8];exact seen_none P _
 rw [this]
end
variable {w:J'} {g:Nat}
theorem Gu {c1 p1 c:Int} (hg:w.cell? ⟨g,0,none⟩=some (.int .i64 c)):Calls p_ 137 #[.agg #[.int .i64 c1,.int .i64 p1],.pointer (some ⟨g,0,none⟩)] w fun e w'=>e=.returned (.bool (decide (c1=c)))/\w'=w.alloc (.cells #[.int .i64 c1,.int .i64 p1] 84):=by
 have h0:(w.alloc (.cells #[.int .i64 c1,.int .i64 p1] 84)).cell? ⟨g,0,none⟩=some (.int .i64 c):=(World.grownBy_alloc w _ none).cell (a:=⟨g,0,none⟩) hg (by simp)
 have h1:(w.alloc (.cells #[.int .i64 c1,.int .i64 p1] 84)).cell? ⟨w.heap.size,0,none⟩=some (.int .i64 c1):=bJ rfl
 go_enter func137,ntmps137
 go_wp2_with fail
 by_cases e:c1=c
 ·subst e
  go_wp2_with fail
  go_ret
  simp
 ·go_wp2_with fail
  go_ret
  simp [e]
noncomputable def eM:Code:=f143.body.getD .skip
noncomputable def sS:Code:=match ai 1 eM with| .seq _ (.block _ (.loop c))=>c|_=>.skip
theorem Lb {p q:M'}:Frame.enter p_ 143 #[p,q] .normal=(base 143).at ⟨#[p,q]++F_ 17 I',[]⟩ [.code eM]:=by kernel_rfl
theorem gD.refl (w:J') (r:Option Nat):gD w w r:=⟨rfl,rfl,Nat.le_refl _,fun _ _ _=>rfl⟩
variable {a b:J'}
theorem gD.trans {c:J'} {r:Option Nat} (h:gD a b r) (k:gD b c r):gD a c r:=⟨k.os.trans h.os,k.output.trans h.output,Nat.le_trans h.size k.size,fun i hi hr=>(k.block i (E_ hi h.size) hr).trans (h.block i hi hr)⟩
theorem gD.alloc (w:J') (o:Obj) (r:Option Nat):gD w (w.alloc o) r:=by
 have:=World.grownBy_alloc w o none
 exact ⟨this.os,this.output,this.size,fun i hi _=>this.block i hi (by simp)⟩
theorem gD.re {r:Option Nat} (h:gD a b r) (T:Nat->Question->Nat) (d:Nat):gD a (b.re T d) r:=⟨h.os,h.output,h.size,h.block⟩
theorem gD.weaken {r:Option Nat} (h:gD a b none):gD a b r:=⟨h.os,h.output,h.size,fun i hi _=>h.block i hi (by simp)⟩
theorem gD.cell {r:Option Nat} (h:gD a b r) {x:Addr} {v:M'} (hx:a.cell? x=some v) (hv:x=⟨x.block,x.off,none⟩) (hr:some x.block≠r):b.cell? x=some v:=by
 obtain ⟨blk,off,vw⟩:=x
 injection hv with _ _ hv
 subst hv
 have hlt:blk<a.heap.size:=by
  cases hb:a.heap[blk]? with
  |none=>simp [World.cell?,hb] at hx
  |some o=>exact (cI hb)
 rw [World.cell?_of_block (h.block blk hlt hr)];exact hx
def AO (ws:List (Int × Int)) (c:Int):Int:=match ws.findIdx? (fun p=>decide (p.1=c)) with|some i=>(i:Nat)|none=> -1
section
variable {C:cS} {b N N0 h:Nat} {L:Nat->Of.Os} {B0:Nat} {ae Fin:O'->J'->Prop} {Post:M'->J'->Prop} {wl:J'} {aI:Y'} {aS:Act} {av:Array y_} {aN:Nat} {ak:List Nat} {aV:List x_} {cs:List Y'}
variable {w0:J'} {ws:List (Int × Int)} {g3:Nat}
theorem HA (B:eh p_ C b 0 ae Fin h) {v:M'} {c:Int} (bR:w0.ownsRow B0 84 2 v ws.length (ax ws)) (mS:w0.cell? ⟨g3,0,none⟩=some (.int .i64 c)) (hsm:ws.length<=1000000)
 (hc:∀aK,Lay C aK->gD w0 aK none->ay p_ C b 0 ae Fin Post h (aY b N h L) aK (G (aI.at (aS.put ((av[aN]?).bind (·.dst)) (.int .i64 (AO ws c))) (.inRegion av ak::aV)) cs)):
 ∀m i,ws.length - i=m->i<=ws.length->(∀j (hj:j<ws.length),j<i->(ws[j]).1≠c)->∀(y5 y9 Px Pu Pt Ps Pr Pq Pp Pm Pk:M') (wl:J'),Lay C wl->gD w0 wl none->
 ay p_ C b 0 ae Fin Post h (aY b N h L) wl (G ((base 143).at ⟨#[v,.func (.func 137) #[] #[.pointer (some ⟨g3,0,none⟩)],I',I',.int .i64 0,y5,v,.int .i64 (ws.length:Nat),.int .i64 (i:Nat),y9,Px,Pu,Pt,Ps,Pr,Pq,Pp,Pm,Pk],[]⟩ [.code sS,.inLoop sS,.inBlock 0,.code (az 2 eM)]) (aI.at aS (.inRegion av (aN::ak)::aV)::cs)):=by
 have hS:=aH b N h L
 obtain ⟨ab,cap,ev⟩:=aE bR
 have rq:∀i,i<ws.length->∃g,ab=some ⟨g,0,none⟩:=fun i hi=>by
  obtain ⟨g,cp,_,e,_⟩:=cz bR (by omega)
  rw [ev] at e;injection e with e;exact ⟨g,e⟩
 subst ev
 intro m
 induction m with
 |zero=>
  intro i hm hi hno y5 y9 Px Pu Pt Ps Pr Pq Pp Pm Pk wl hL hG
  obtain rfl:i=ws.length:=by omega
  have hlt:((ws.length:Int)<(ws.length:Int))=False:=by simp
  generalize hK:[Item.inLoop sS,.inBlock 0,.code (az 2 eM)]=K0
  simp only [sS,ai,eM,f143,A_]
  refine B.s ?_
  refine B.r ?_
  refine B.q (.bool false) ?_
  walk_nrm
  refine B.e ?_
  refine B.s ?_
  refine B.c rfl ?_
  subst hK
  refine ay.ctl B hS hL rfl (fun _=>stepG_exit rfl) ?_
  refine B.p (aF (by kernel_rfl) rfl rfl ⟨_,func143⟩) (fun T d Bh hB=> ?_)
  have ir:=aa hc
  have qK:=aa hL
  have hGH:=aa hG
  clear hc hL hG
  simp only [az,eM,f143,A_]
  go_wp2_with fail
  subst hB
  intro hcut todo
  have jv:Lay C (wl.re T d):=⟨hcut,qK.out.no⟩
  refine ay.ctl B hS jv rfl (fun _=>aZ rfl rfl func143 rfl) ?_
  have hi:AO ws c= -1:=by
   unfold AO
   have:ws.findIdx? (fun p=>decide (p.1=c))=none:=by
    rw [List.findIdx?_eq_none_iff]
    intro x hx
    obtain ⟨j,hj,rfl⟩:=List.getElem_of_mem hx
    simpa using hno j hj hj
   rw [this]
  have:=ir.out _ jv (hGH.out.re T d)
  rw [hi] at this
  exact this
 |succ m ih=>
  intro i hm hi hno y5 y9 Px Pu Pt Ps Pr Pq Pp Pm Pk wl hL hG
  have hlt:i<ws.length:=by omega
  have gJ:(i:Int)<(ws.length:Int):=by omega
  obtain ⟨g,rfl⟩:=rq i hlt
  have oJ:IntKind.i64.wrap ((i:Int)+1)=((i+1:Nat):Int):=by rw [IntWalk.i64_in _ (by omega)];rfl
  have k1:∀T d,(wl.re T d).cell? ⟨g,i * 2,none⟩=some (.int .i64 (ws[i]).1):=fun T d=>hG.cell ((bR.cellAt _ (by omega)).trans (jr tw 2 (fun _=>rfl) _ i 0 hlt (by decide))) rfl (by simp)
  have k2:∀T d,(wl.re T d).cell? ⟨g,i * 2+1,none⟩=some (.int .i64 (ws[i]).2):=fun T d=>hG.cell ((bR.cellAt _ (by omega)).trans (jr tw 2 (fun _=>rfl) _ i 1 hlt (by decide))) rfl (by simp)
  generalize hK:[Item.inLoop sS,.inBlock 0,.code (az 2 eM)]=K0
  simp only [sS,ai,eM,f143,A_]
  refine B.s ?_
  refine B.r ?_
  refine B.q (.bool true) ?_
  walk_nrm
  refine B.e ?_
  refine B.s ?_
  refine B.c rfl ?_
  refine ay.ctl B hS hL rfl (fun _=>stepG_skip) ?_
  refine B.s ?_
  refine ay.ctl B hS hL rfl (fun _=>stepG_block) ?_
  refine B.s ?_
  refine B.r ?_
  refine B.q (.int .i64 (i:Nat)) ?_
  walk_nrm
  refine B.q (.int .i64 (i:Nat)) ?_
  walk_nrm
  refine B.e ?_
  refine B.s ?_
  refine B.r ?_
  refine B.q (.func (.func 137) #[] #[.pointer (some ⟨g3,0,none⟩)]) ?_
  walk_nrm
  refine B.q (.slice (some ⟨g,0,none⟩) ws.length cap) ?_
  walk_nrm
  refine B.q (.int .i64 (i:Nat)) ?_
  walk_nrm
  refine B.q (.pointer (some ⟨g,i * 2,none⟩)) ?_
  walk_nrm
  refine B.o (.agg #[.int .i64 (ws[i]).1,.int .i64 (ws[i]).2]) (fun T d=> ?_) ?_
  ·have h1:=k1 T d
   have h2:=k2 T d
   go_simp
  walk_nrm
  refine ay.ctl B hS hL rfl (fun _=>za (b:=base 143) (f:=137) (caps:=#[.pointer (some ⟨g3,0,none⟩)]) (vs:=#[.agg #[.int .i64 (ws[i]).1,.int .i64 (ws[i]).2],.pointer (some ⟨g3,0,none⟩)]) rfl rfl (by k_ne) rfl rfl func137 rfl rfl (by kernel_rfl)) ?_
  refine ay.call (ok:=il) B pA hS hL (by kernel_rfl) (by kernel_rfl) fun T d=> ?_
  refine (Gu (w:=wl.re T d) (c:=c) (hG.cell (b:=wl) mS rfl (by simp))).mono ?_
  rintro e w2 ⟨rfl,rfl⟩
  refine ⟨_,rfl,fun hcut=> ?_⟩
  rw [Frame.finish_at]
  have du:Lay C ((wl.re T d).alloc (.cells #[.int .i64 (ws[i]).1,.int .i64 (ws[i]).2] 84)):=⟨hcut,hL.no⟩
  have Rv:gD w0 ((wl.re T d).alloc (.cells #[.int .i64 (ws[i]).1,.int .i64 (ws[i]).2] 84)) none:=(hG.re T d).trans (gD.alloc _ _ _)
  generalize (wl.re T d).alloc (.cells #[.int .i64 (ws[i]).1,.int .i64 (ws[i]).2] 84)=w2 at *
  walk_nrm
  refine B.e ?_
  by_cases e:(ws[i]).1=c
  ·have hd:decide ((ws[i]).1=c)=true:=by simp [e]
   rw [hd]
   refine B.c rfl ?_
   refine B.s ?_
   refine B.r ?_
   refine B.q (.int .i64 (i:Nat)) ?_
   walk_nrm
   refine B.q (.int .i64 (i:Nat)) ?_
   walk_nrm
   refine B.e ?_
   refine ay.ctl B hS du rfl (fun _=>ma) ?_
   refine ay.ctl B hS du rfl (fun _=>aZ rfl rfl func143 rfl) ?_
   have hx:AO ws c=(i:Nat):=by
    unfold AO
    have:ws.findIdx? (fun p=>decide (p.1=c))=some i:=by
     rw [List.findIdx?_eq_some_iff_getElem]
     exact ⟨hlt,by simp [e],fun j hj=>by simpa using hno j (by omega) hj⟩
    rw [this]
   have:=hc w2 du Rv
   rw [hx] at this
   exact this
  ·have hd:decide ((ws[i]).1=c)=false:=by simp [e]
   rw [hd]
   refine B.c rfl ?_
   refine ay.ctl B hS du rfl (fun _=>stepG_skip) ?_
   refine ay.ctl B hS du rfl (fun _=>stepG_inBlock) ?_
   refine B.r ?_
   refine B.q (.int .i64 ((i+1:Nat):Int)) ?_
   walk_nrm
   refine B.q (.int .i64 ((i+1:Nat):Int)) ?_
   walk_nrm
   refine B.e ?_
   subst hK
   refine ay.ctl B hS du rfl (fun _=>stepG_inLoop) ?_
   exact ih (i+1) (by omega) (by omega) (fun j hj SA=>by by_cases e1:j=i;subst e1;exact e;exact hno j hj (by omega)) _ _ _ _ _ _ _ _ _ _ _ w2 du Rv
theorem Qn (B:eh p_ C b 0 ae Fin h) (hL:Lay C wl) {v:M'} {c:Int} (bR:wl.ownsRow B0 84 2 v ws.length (ax ws)) (mS:wl.cell? ⟨g3,0,none⟩=some (.int .i64 c)) (hsm:ws.length<=1000000)
 (hc:∀aK,Lay C aK->gD wl aK none->ay p_ C b 0 ae Fin Post h (aY b N h L) aK (G (aI.at (aS.put ((av[aN]?).bind (·.dst)) (.int .i64 (AO ws c))) (.inRegion av ak::aV)) cs)):
 ay p_ C b 0 ae Fin Post h (aY b N h L) wl (G ((base 143).at ⟨#[v,.func (.func 137) #[] #[.pointer (some ⟨g3,0,none⟩)]]++F_ 17 I',[]⟩ [.code eM]) (aI.at aS (.inRegion av (aN::ak)::aV)::cs)):=by
 have hS:=aH b N h L
 obtain ⟨ab,cap,ev⟩:=aE bR
 have ea:(#[v,.func (.func 137) #[] #[.pointer (some ⟨g3,0,none⟩)]]++F_ 17 I':Array M')=#[v,.func (.func 137) #[] #[.pointer (some ⟨g3,0,none⟩)],I',I',I',I',I',I',I',I',I',I',I',I',I',I',I',I',I']:=by kernel_rfl
 rw [ea]
 have e1:eM=.seq (ai 0 eM) (.seq (.seq (ai 0 (ai 1 eM)) (.block 0 (.loop sS))) (az 2 eM)):=by kernel_rfl
 rw [e1]
 refine B.s ?_
 generalize hX:[Item.code (.seq (.seq (ai 0 (ai 1 eM)) (.block 0 (.loop sS))) (az 2 eM))]=X0
 simp only [ai,eM,f143,A_]
 refine B.r ?_
 refine B.q (.int .i64 0) ?_
 walk_nrm
 refine B.e ?_
 subst hX
 refine B.s ?_
 refine B.s ?_
 generalize hX:[Item.code (Code.block 0 (.loop sS)),Item.code (az 2 eM)]=X0
 simp only [ai,eM,f143,A_]
 have evH:=aa ev
 refine B.r ?_
 refine B.q v ?_
 walk_nrm
 refine B.o (.int .i64 (ws.length:Nat)) (fun T d=> ?_) ?_
 ·rw [evH.out]
  go_simp
 walk_nrm
 refine B.q (.int .i64 ((0:Nat):Int)) ?_
 walk_nrm
 refine B.e ?_
 subst hX
 refine ay.ctl B hS hL rfl (fun _=>stepG_block) ?_
 refine ay.ctl B hS hL rfl (fun _=>stepG_loop) ?_
 exact HA B bR mS hsm hc ws.length 0 (by omega) (by omega) (fun j hj h0=>by omega) _ _ _ _ _ _ _ _ _ _ _ wl hL (gD.refl _ _)
end
variable {B:Nat}
theorem MM {e s n n' cap:Nat} {xs vs:List M'} (h:w.ownsRow B e s (.slice (some ⟨g,0,none⟩) n cap) n xs) (hn:n'<=n) (hv:n' * s+vs.length<=n * s):
 (w.setCells g (n' * s) vs).ownsRow B e s (.slice (some ⟨g,0,none⟩) n' cap) n' (xs.take (n' * s))/\w.grownBy (w.setCells g (n' * s) vs) (some g):=by
 refine ⟨?_,(bL g vs _ w).1,(bL g vs _ w).2.1,(bL g vs _ w).2.2,Nat.le_of_eq (fq g vs _ w).symm,fun k _ hk=>cW g vs _ w k (fun e=>hk (by rw [e]))⟩
 have hle:n' * s<=n * s:=Nat.mul_le_mul_right _ hn
 have Wj:=h.1
 refine ⟨by rw [Q_];omega, ?_⟩
 rcases h.2 with ⟨h',_⟩|⟨g',cap',cur,h',hb,hg,hc,hm,hs,ht⟩
 ·simp at h'
 ·simp only [Value.slice.injEq,Option.some.injEq,Addr.mk.injEq,and_true,true_and] at h'
  obtain ⟨rfl,rfl⟩:=h'
  have hcs:n * s<=cap * s:=Nat.mul_le_mul_right _ hc
  obtain ⟨yR,h1,h2,h3⟩:=fv g vs (n' * s) w cur hg (by omega)
  refine .inr ⟨g,cap,yR,rfl,hb,h1,by omega,hm,by omega, ?_⟩
  have rq:cur.toList.length=cap * s:=by simpa using hs
  rw [h3,List.append_assoc,List.take_append_of_le_length (by rw [Q_];omega),List.take_take,Nat.min_self,<-ht,List.take_take,Nat.min_eq_left hle]
variable {xs:List (Int × Int)} {i:Nat}
theorem Ci {n cap:Nat} (h:w.ownsRow B 84 2 (.slice (some ⟨g,0,none⟩) n cap) n (ax xs)) (hi:i<xs.length) (p:Int × Int):
 ((w.setCell ⟨g,i * 2,none⟩ (.int .i64 p.1)).setCell ⟨g,i * 2+1,none⟩ (.int .i64 p.2)).ownsRow B 84 2 (.slice (some ⟨g,0,none⟩) n cap) n (ax (xs.set i p))/\w.grownBy ((w.setCell ⟨g,i * 2,none⟩ (.int .i64 p.1)).setCell ⟨g,i * 2+1,none⟩ (.int .i64 p.2)) (some g):=by
 have h1:=h.stored (i * 2) (.int .i64 p.1)
 have h2:=h1.1.stored (i * 2+1) (.int .i64 p.2)
 have e1:ax (xs.set i (p.1,(xs[i]).2))=(ax xs).set (i * 2) (.int .i64 p.1):=sK (fun p:Int × Int=>[Value.int .i64 p.1,.int .i64 p.2]) 2 (fun _=>rfl) xs i 0 hi (by decide) _ _ rfl
 have e2:ax ((xs.set i (p.1,(xs[i]).2)).set i p)=(ax (xs.set i (p.1,(xs[i]).2))).set (i * 2+1) (.int .i64 p.2):=sK (fun p:Int × Int=>[Value.int .i64 p.1,.int .i64 p.2]) 2 (fun _=>rfl) _ i 1 (by simpa using hi) (by decide) _ _ (by simp)
 rw [List.set_set] at e2
 rw [e2,e1]
 exact ⟨h2.1,h1.2.os▸h2.2.os,h1.2.tape▸h2.2.tape,h1.2.output▸h2.2.output,Nat.le_trans h1.2.size h2.2.size,fun k hk hn=>(h2.2.block k (E_ hk h1.2.size) hn).trans (h1.2.block k hk hn)⟩
noncomputable def bQ:Code:=f136.body.getD .skip
noncomputable def pJ:Code:=match ai 3 bQ with| .seq _ (.block _ (.loop c))=>c|_=>.skip
theorem Lc {p q:M'}:Frame.enter p_ 136 #[p,q] .normal=(base 136).at ⟨#[p,q]++F_ 40 I',[]⟩ [.code bQ]:=by kernel_rfl
def aJ (ws:List (Int × Int)) (c:Int):List (Int × Int):=ws.filter fun p=>decide (p.1≠c)
variable {ws:List (Int × Int)} {j:Nat}
theorem uC {c:Int} (hj:j<ws.length):aJ (ws.take (j+1)) c=aJ (ws.take j) c++(if (ws[j]).1=c then [] else [ws[j]]):=by
 unfold aJ
 rw [List.take_succ_eq_append_getElem hj,List.filter_append]
 congr 1
 by_cases e:(ws[j]).1=c
 ·simp [e]
 ·simp [e]
structure LQ (B0:Nat) (ws xs:List (Int × Int)) (c:Int) (g cap j:Nat) (w:J'):Prop where
 len:xs.length=ws.length
 take:xs.take (aJ (ws.take j) c).length=aJ (ws.take j) c
 rest:∀k (h1:j<=k) (h2:k<ws.length),xs[k]?=some ws[k]
 less:(aJ (ws.take j) c).length<j
 row:w.ownsRow B0 84 2 (.slice (some ⟨g,0,none⟩) ws.length cap) ws.length (ax xs)
theorem LQ.none {B0:Nat} {c:Int} {cap:Nat} {w':J'} (h:LQ B0 ws xs c g cap j w) (hg:gD w w' none):LQ B0 ws xs c g cap j w':=
 ⟨h.len,h.take,h.rest,h.less,cH h.row fun k _ hk=>hg.block k hk (by simp)⟩
section
variable {C:cS} {b N N0 h:Nat} {L:Nat->Of.Os} {B0:Nat} {ae Fin:O'->J'->Prop} {Post:M'->J'->Prop} {wl:J'} {aI:Y'} {aS:Act} {av:Array y_} {aN:Nat} {ak:List Nat} {aV:List x_} {cs:List Y'}
variable {w0:J'} {g3:Nat}
theorem HX (B:eh p_ C b 0 ae Fin h) {c:Int} {cap:Nat} (mS:w0.cell? ⟨g3,0,none⟩=some (.int .i64 c)) (hg:g3≠g) (hsm:ws.length<=1000000) (hcp:ws.length<=cap)
 (hc:∀aK,Lay C aK->gD w0 aK (some g)->aK.ownsRow B0 84 2 (.slice (some ⟨g,0,none⟩) (aJ ws c).length cap) (aJ ws c).length (ax (aJ ws c))->ay p_ C b 0 ae Fin Post h (aY b N h L) aK (G (aI.at (aS.put ((av[aN]?).bind (·.dst)) (.slice (some ⟨g,0,none⟩) (aJ ws c).length cap)) (.inRegion av ak::aV)) cs)):
 ∀m j,ws.length - j=m->j<=ws.length->∀(i:Nat) (xs:List (Int × Int)) (y7 y8 y9 Px Pu Pt Ps Pr Pq Pp Pm Pk XG XE XD XC XB XA Xz Xy Xx Xw Xv Xu Xt Xs Xr Xq Xp Xo Xn Xm Xl Xk Xj:M') (wl:J'),Lay C wl->gD w0 wl (some g)->f_ (i=(aJ (ws.take j) c).length)->LQ B0 ws xs c g cap j wl->
 ay p_ C b 0 ae Fin Post h (aY b N h L) wl (G ((base 136).at ⟨#[.slice (some ⟨g,0,none⟩) ws.length cap,.func (.func 137) #[] #[.pointer (some ⟨g3,0,none⟩)],I',I',.slice none 0 0,.int .i64 (i:Nat),.int .i64 (j:Nat),y7,y8,y9,Px,Pu,Pt,Ps,Pr,Pq,Pp,Pm,Pk,XG,XE,XD,XC,XB,XA,Xz,Xy,Xx,Xw,Xv,Xu,Xt,Xs,Xr,Xq,Xp,Xo,Xn,Xm,Xl,Xk,Xj],[]⟩ [.code pJ,.inLoop pJ,.inBlock 0,.code (az 4 bQ)]) (aI.at aS (.inRegion av (aN::ak)::aV)::cs)):=by
 have hS:=aH b N h L
 intro m
 induction m with
 |zero=>
  intro j hm hj i xs y7 y8 y9 Px Pu Pt Ps Pr Pq Pp Pm Pk XG XE XD XC XB XA Xz Xy Xx Xw Xv Xu Xt Xs Xr Xq Xp Xo Xn Xm Xl Xk Xj wl hL hG hi hD
  obtain rfl:j=ws.length:=by omega
  have hlt:((ws.length:Int)<(ws.length:Int))=False:=by simp
  generalize hK:[Item.inLoop pJ,.inBlock 0,.code (az 4 bQ)]=K0
  simp only [pJ,ai,bQ,f136,A_]
  iterate 9 refine B.n ?_
  subst hK
  refine ay.ctl B hS hL rfl (fun _=>stepG_exit rfl) ?_
  have wo:ws.take ws.length=ws:=List.take_length
  have ht:=hD.take
  have QU:=hD.less
  have hi:=hi.out
  rw [wo] at ht QU hi
  obtain ⟨W1,wq⟩:∃W1:(Nat->Question->Nat)->Nat->J',W1=fun T d=>(wl.re T d).setCells g (i * 2) (List.replicate ((ws.length - i) * 2) (.int .i64 0)):=⟨_,rfl⟩
  have hcut:∀T d,(W1 T d).ownsRow B0 84 2 (.slice (some ⟨g,0,none⟩) i cap) i (ax (aJ ws c))/\gD w0 (W1 T d) (some g):=fun T d=>by
   have hr:(wl.re T d).ownsRow B0 84 2 (.slice (some ⟨g,0,none⟩) ws.length cap) ws.length (ax xs):=hD.row
   have h1:=MM (n':=i) hr (by omega) (vs:=List.replicate ((ws.length - i) * 2) (.int .i64 0)) (by rw [List.length_replicate];omega)
   rw [<-jb,hi,ht,<-hi] at h1
   rw [wq]
   exact ⟨h1.1,(hG.re T d).trans ⟨h1.2.os,h1.2.output,h1.2.size,h1.2.block⟩⟩
  have hcell:∀T d ty,(Builtin.clear_ #[74] ty #[.slice (some ⟨g,i * 2,none⟩) (ws.length - i:Nat) (cap - i)]).run p_ (wl.re T d)=.ok (.tuple #[]) (W1 T d):=fun T d ty=>by
   have hr:(wl.re T d).ownsRow B0 84 2 (.slice (some ⟨g,0,none⟩) ws.length cap) ws.length (ax xs):=hD.row
   rw [wq]
   refine wN (wl.re T d) _ _ ty _ Tryz.underlying74 IG rfl g (i * 2) (ws.length - i) _ (by omega) (fun t Wn=> ?_) (fun t Wn=>hr.frozenAt _)
   rw [hr.cellAt _ (by omega),G_ (by rw [bV,hD.len];omega)];rfl
  have q1:(i:Int)<=(ws.length:Int):=by omega
  have q2:(i:Int)<=(cap:Int):=by omega
  have q3:(ws.length:Int)<=(cap:Int):=by omega
  have q4:¬cap=i:=by omega
  have q5:i<=cap:=by omega
  have bR:=aa hi
  have ir:=aa hc
  have hno:=aa hL.no
  clear hc hi ht QU wo hm hD
  refine B.p (aF (by kernel_rfl) rfl rfl ⟨_,func136⟩) (fun T d Bh hB=> ?_)
  have rq:=hcell T d
  have Q9:=aa (hcut T d)
  clear hcell hcut hL hG
  generalize W1 T d=W2 at *
  generalize wl.re T d=w1 at *
  clear wq
  simp only [az,bQ,f136,A_]
  go_wp2_with fail
  subst hB
  intro hcut todo
  have jv:Lay C W2:=⟨hcut,hno.out⟩
  refine ay.ctl B hS jv rfl (fun _=>aZ rfl rfl func136 rfl) ?_
  have:=ir.out W2 jv Q9.out.2 (by rw [<-bR.out];exact Q9.out.1)
  rw [<-bR.out] at this
  exact this
 |succ m ih=>
  intro j hm hj i xs y7 y8 y9 Px Pu Pt Ps Pr Pq Pp Pm Pk XG XE XD XC XB XA Xz Xy Xx Xw Xv Xu Xt Xs Xr Xq Xp Xo Xn Xm Xl Xk Xj wl hL hG hi hD
  have hlt:j<ws.length:=by omega
  have gJ:(j:Int)<(ws.length:Int):=by omega
  have vG:i<j:=by rw [hi.out];exact hD.less
  have oJ:IntKind.i64.wrap ((j:Int)+1)=((j+1:Nat):Int):=by rw [IntWalk.i64_in _ (by omega)];rfl
  have YJ:IntKind.i64.wrap ((i:Int)+1)=((i+1:Nat):Int):=by rw [IntWalk.i64_in _ (by omega)];rfl
  have hxj:xs[j]?=some ws[j]:=hD.rest j (Nat.le_refl _) hlt
  have Zo:j<xs.length:=by rw [hD.len];exact hlt
  have hxe:xs[j]=ws[j]:=by rw [G_ Zo] at hxj;exact Option.some.inj hxj
  have k1:∀T d,(wl.re T d).cell? ⟨g,j * 2,none⟩=some (.int .i64 (ws[j]).1):=fun T d=>by rw [<-hxe];exact (hD.row.cellAt (w:=wl.re T d) _ (by omega)).trans (jr tw 2 (fun _=>rfl) _ j 0 Zo (by decide))
  have k2:∀T d,(wl.re T d).cell? ⟨g,j * 2+1,none⟩=some (.int .i64 (ws[j]).2):=fun T d=>by rw [<-hxe];exact (hD.row.cellAt (w:=wl.re T d) _ (by omega)).trans (jr tw 2 (fun _=>rfl) _ j 1 Zo (by decide))
  generalize hK:[Item.inLoop pJ,.inBlock 0,.code (az 4 bQ)]=K0
  simp only [pJ,ai,bQ,f136,A_]
  iterate 9 refine B.n ?_
  refine ay.ctl B hS hL rfl (fun _=>stepG_skip) ?_
  refine B.s ?_
  refine ay.ctl B hS hL rfl (fun _=>stepG_block) ?_
  refine B.s ?_
  have ir:=aa hc
  have hDH:=aa hD
  have qK:=aa hL
  have hGH:=aa hG
  have TQ:=aa ih
  clear hc hD ih
  refine B.p (aF (by kernel_rfl) rfl rfl ⟨_,func136⟩) (fun T d Bh hB=> ?_)
  have j1:=k1 T d
  have j2:=k2 T d
  clear hL hG k1 k2
  go_wp2_with fail
  subst hB
  intro hcut
  have hL:=qK.out
  have hD:LQ B0 ws xs c g cap j ((wl.re T d).alloc (.cells #[.int .i64 (ws[j]).1,.int .i64 (ws[j]).2] 84)):=(hDH.out.none ((gD.refl wl none).re T d)).none (gD.alloc _ _ _)
  have hG:gD w0 ((wl.re T d).alloc (.cells #[.int .i64 (ws[j]).1,.int .i64 (ws[j]).2] 84)) (some g):=(hGH.out.re T d).trans (gD.alloc _ _ _)
  have n1:∀T' d',(((wl.re T d).alloc (.cells #[.int .i64 (ws[j]).1,.int .i64 (ws[j]).2] 84)).re T' d').cell? ⟨(wl.re T d).heap.size,0,none⟩=some (.int .i64 (ws[j]).1):=fun _ _=>bJ (w:=wl.re T d) rfl
  have n2:∀T' d',(((wl.re T d).alloc (.cells #[.int .i64 (ws[j]).1,.int .i64 (ws[j]).2] 84)).re T' d').cell? ⟨(wl.re T d).heap.size,1,none⟩=some (.int .i64 (ws[j]).2):=fun _ _=>bJ (w:=wl.re T d) rfl
  have du:Lay C ((wl.re T d).alloc (.cells #[.int .i64 (ws[j]).1,.int .i64 (ws[j]).2] 84)):=⟨hcut,hL.no⟩
  have WB:(wl.re T d).heap.size≠g:=by
   intro e
   have e:wl.heap.size=g:=e
   obtain ⟨g',cap',cur,h',_,hb,_⟩:=cz hDH.out.row (by omega)
   simp only [Value.slice.injEq,Option.some.injEq,Addr.mk.injEq,and_true,true_and] at h'
   have:=(cI hb)
   have:=h'.1
   omega
  generalize (wl.re T d).alloc (.cells #[.int .i64 (ws[j]).1,.int .i64 (ws[j]).2] 84)=w1 at *
  generalize (wl.re T d).heap.size=g7 at *
  iterate 3 refine B.n ?_
  refine B.o (.agg #[.int .i64 (ws[j]).1,.int .i64 (ws[j]).2]) (fun T d=> ?_) ?_
  ·have h1:=n1 T d
   have h2:=n2 T d
   go_simp
  walk_nrm
  refine ay.ctl B hS du rfl (fun _=>za (b:=base 136) (f:=137) (caps:=#[.pointer (some ⟨g3,0,none⟩)]) (vs:=#[.agg #[.int .i64 (ws[j]).1,.int .i64 (ws[j]).2],.pointer (some ⟨g3,0,none⟩)]) rfl rfl (by k_ne) rfl rfl func137 rfl rfl (by kernel_rfl)) ?_
  refine ay.call (ok:=il) B pA hS du (by kernel_rfl) (by kernel_rfl) fun T d=> ?_
  refine (Gu (w:=w1.re T d) (c:=c) (hG.cell (b:=w1) mS rfl (by simpa using hg))).mono ?_
  rintro e w2 ⟨rfl,rfl⟩
  refine ⟨_,rfl,fun Va=> ?_⟩
  rw [Frame.finish_at]
  have gA:Lay C ((w1.re T d).alloc (.cells #[.int .i64 (ws[j]).1,.int .i64 (ws[j]).2] 84)):=⟨Va,hL.no⟩
  have wu:gD w1 ((w1.re T d).alloc (.cells #[.int .i64 (ws[j]).1,.int .i64 (ws[j]).2] 84)) none:=((gD.refl w1 none).re T d).trans (gD.alloc _ _ _)
  have KV:=hG.trans (wu.weaken (r:=some g))
  have NC:=hD.none wu
  have n3:∀T' d',(((w1.re T d).alloc (.cells #[.int .i64 (ws[j]).1,.int .i64 (ws[j]).2] 84)).re T' d').cell? ⟨g7,0,none⟩=some (.int .i64 (ws[j]).1):=fun _ _=>wu.cell (n1 w1.tape w1.drawn) rfl (by simp)
  have n4:∀T' d',(((w1.re T d).alloc (.cells #[.int .i64 (ws[j]).1,.int .i64 (ws[j]).2] 84)).re T' d').cell? ⟨g7,1,none⟩=some (.int .i64 (ws[j]).2):=fun _ _=>wu.cell (n2 w1.tape w1.drawn) rfl (by simp)
  generalize (w1.re T d).alloc (.cells #[.int .i64 (ws[j]).1,.int .i64 (ws[j]).2] 84)=w2 at *
  walk_nrm
  have ih:=TQ.out
  have AZ:=uC (c:=c) hlt
  by_cases e:(ws[j]).1=c
  ·have hd:decide ((ws[j]).1=c)=true:=by simp [e]
   rw [hd]
   rw [if_pos e,List.append_nil] at AZ
   iterate 3 refine B.n ?_
   refine ay.ctl B hS gA rfl (fun _=>stepG_skip) ?_
   refine ay.ctl B hS gA rfl (fun _=>stepG_inBlock) ?_
   iterate 5 refine B.n ?_
   subst hK
   refine ay.ctl B hS gA rfl (fun _=>stepG_inLoop) ?_
   exact ih (j+1) (by omega) (by omega) i xs _ _ _ _ _ _ _ _ _ _ _ _ _ _ _ _ _ _ _ _ _ _ _ _ _ _ _ _ _ _ _ _ _ _ _ w2 gA KV (by rw [AZ];exact hi) ⟨NC.len,by rw [AZ];exact NC.take,fun k h1 h2=>NC.rest k (by omega) h2,by rw [AZ];have:=NC.less;omega,NC.row⟩
  ·have hd:decide ((ws[j]).1=c)=false:=by simp [e]
   rw [hd]
   iterate 3 refine B.n ?_
   have hix:i<xs.length:=by omega
   have vD:∀T d,(((w2.re T d).setCell ⟨g,i * 2,none⟩ (.int .i64 (ws[j]).1)).setCell ⟨g,i * 2+1,none⟩ (.int .i64 (ws[j]).2)).ownsRow B0 84 2 (.slice (some ⟨g,0,none⟩) ws.length cap) ws.length (ax (xs.set i ws[j]))/\gD w0 (((w2.re T d).setCell ⟨g,i * 2,none⟩ (.int .i64 (ws[j]).1)).setCell ⟨g,i * 2+1,none⟩ (.int .i64 (ws[j]).2)) (some g):=fun T d=>by
    have hr:(w2.re T d).ownsRow B0 84 2 (.slice (some ⟨g,0,none⟩) ws.length cap) ws.length (ax xs):=NC.row
    have h1:=Ci hr hix ws[j]
    exact ⟨h1.1,(KV.re T d).trans ⟨h1.2.os,h1.2.output,h1.2.size,h1.2.block⟩⟩
   have m1:∀T d,((w2.re T d).cell? ⟨g,i * 2,none⟩).isSome=true/\(w2.re T d).frozen? ⟨g,i * 2,none⟩=false/\((w2.re T d).cell? ⟨g,i * 2+1,none⟩).isSome=true/\(w2.re T d).frozen? ⟨g,i * 2+1,none⟩=false:=fun T d=>by
    have hr:(w2.re T d).ownsRow B0 84 2 (.slice (some ⟨g,0,none⟩) ws.length cap) ws.length (ax xs):=NC.row
    refine ⟨?_,hr.frozenAt _, ?_,hr.frozenAt _⟩
    ·rw [hr.cellAt _ (by omega),G_ (by rw [bV];omega)];rfl
    ·rw [hr.cellAt _ (by omega),G_ (by rw [bV];omega)];rfl
   have ml:(i:Int)<(ws.length:Int):=by omega
   have QY:i<ws.length:=by omega
   have Cu:=aa gA
   have Rw:=aa NC
   have hG3H:=aa KV
   clear gA NC KV
   refine B.p (aF (by kernel_rfl) rfl rfl ⟨_,func136⟩) (fun T d Bh hB=> ?_) (hL:=Cu.out)
   have hst:=aa (vD T d)
   obtain ⟨f1,f2,f3,f4⟩:=m1 T d
   have n5:=n3 T d
   have n6:=n4 T d
   obtain ⟨u1,Wm⟩:=Option.isSome_iff_exists.1 f1
   obtain ⟨u2,Su⟩:=Option.isSome_iff_exists.1 f3
   clear vD m1 n3 n4 f1 f3 hG hD n1 n2 du
   go_wp2_with fail
   subst hB
   intro U9
   have qu:=aa (Lay.mk U9 hL.no)
   generalize ((w2.re T d).setCell ⟨g,i * 2,none⟩ (.int .i64 (ws[j]).1)).setCell ⟨g,i * 2+1,none⟩ (.int .i64 (ws[j]).2)=w4 at *
   refine ay.ctl B hS qu.out rfl (fun _=>stepG_inBlock) ?_
   refine B.r ?_ (hL:=qu.out)
   refine B.q (.int .i64 (j:Nat)) ?_ (hL:=qu.out)
   walk_nrm
   refine B.q (.int .i64 ((j+1:Nat):Int)) ?_ (hL:=qu.out)
   walk_nrm
   refine B.q (.int .i64 ((j+1:Nat):Int)) ?_ (hL:=qu.out)
   walk_nrm
   refine B.e ?_ (hL:=qu.out)
   subst hK
   refine ay.ctl B hS qu.out rfl (fun _=>stepG_inLoop) ?_
   rw [if_neg e] at AZ
   refine ih (j+1) (by omega) (by omega) (i+1) (xs.set i ws[j]) _ _ _ _ _ _ _ _ _ _ _ _ _ _ _ _ _ _ _ _ _ _ _ _ _ _ _ _ _ _ _ _ _ _ _ w4 qu.out hst.out.2 (aa (by rw [AZ,K_,<-hi.out];rfl)) ⟨by rw [List.length_set];exact Rw.out.len, ?_,fun k h1 h2=> ?_,by rw [AZ,K_,<-hi.out];simp;omega,hst.out.1⟩
   ·rw [AZ,K_,<-hi.out]
    have ht:=Rw.out.take
    rw [<-hi.out] at ht
    rw [List.length_singleton,List.take_succ_eq_append_getElem (by rw [List.length_set];exact hix),List.getElem_set_self]
    rw [List.take_set_of_le (Nat.le_refl i),ht]
   ·rw [List.getElem?_set_ne (by omega)]
    exact Rw.out.rest k (by omega) h2
end
theorem EB (ws:List (Int × Int)) (c:Int):(AO ws c= -1/\aJ ws c=ws)\/∃m,∃hm:m<ws.length,AO ws c=(m:Nat)/\aJ (ws.take (m+1)) c=ws.take m/\(ws[m]).1=c:=by
 unfold AO
 cases hx:ws.findIdx? (fun p=>decide (p.1=c)) with
 |none=>
  refine .inl ⟨rfl, ?_⟩
  rw [List.findIdx?_eq_none_iff] at hx
  unfold aJ
  rw [List.filter_eq_self]
  intro a ha
  have:=hx a ha
  simpa using this
 |some m=>
  obtain ⟨hm,h1,h2⟩:=List.findIdx?_eq_some_iff_getElem.1 hx
  refine .inr ⟨m,hm,rfl, ?_,by simpa using h1⟩
  rw [uC hm,if_pos (by simpa using h1),List.append_nil]
  unfold aJ
  rw [List.filter_eq_self]
  intro a ha
  obtain ⟨j,hj,rfl⟩:=List.getElem_of_mem ha
  simp only [Q_] at hj
  have:=h2 j (by omega)
  rw [List.getElem_take]
  simpa using this
section
variable {C:cS} {b N N0 h:Nat} {L:Nat->Of.Os} {B0:Nat} {ae Fin:O'->J'->Prop} {Post:M'->J'->Prop} {wl:J'} {aI:Y'} {aS:Act} {av:Array y_} {aN:Nat} {ak:List Nat} {aV:List x_} {cs:List Y'}
variable {g3:Nat}
theorem NP (B:eh p_ C b 0 ae Fin h) (hL:Lay C wl) {v:M'} {c:Int} (bR:wl.ownsRow B0 84 2 v ws.length (ax ws)) (mS:wl.cell? ⟨g3,0,none⟩=some (.int .i64 c)) (hne:v.ownBlock≠some g3) (hsm:ws.length<=1000000)
 (hc:∀aK v',Lay C aK->gD wl aK v.ownBlock->aK.ownsRow B0 84 2 v' (aJ ws c).length (ax (aJ ws c))->ay p_ C b 0 ae Fin Post h (aY b N h L) aK (G (aI.at (aS.put ((av[aN]?).bind (·.dst)) v') (.inRegion av ak::aV)) cs)):
 ay p_ C b 0 ae Fin Post h (aY b N h L) wl (G ((base 136).at ⟨#[v,.func (.func 137) #[] #[.pointer (some ⟨g3,0,none⟩)]]++F_ 40 I',[]⟩ [.code bQ]) (aI.at aS (.inRegion av (aN::ak)::aV)::cs)):=by
 have hS:=aH b N h L
 have ea:(#[v,.func (.func 137) #[] #[.pointer (some ⟨g3,0,none⟩)]]++F_ 40 I':Array M')=#[v,.func (.func 137) #[] #[.pointer (some ⟨g3,0,none⟩)],I',I',I',I',I',I',I',I',I',I',I',I',I',I',I',I',I',I',I',I',I',I',I',I',I',I',I',I',I',I',I',I',I',I',I',I',I',I',I',I']:=by kernel_rfl
 rw [ea]
 have e1:bQ=.seq (ai 0 bQ) (.seq (ai 1 bQ) (.seq (.seq (ai 0 (ai 2 bQ)) (az 1 (ai 2 bQ))) (.seq (.seq (ai 0 (ai 3 bQ)) (.block 0 (.loop pJ))) (az 4 bQ)))):=by kernel_rfl
 rw [e1]
 refine B.s ?_
 generalize hX:[Item.code (Code.seq (ai 1 bQ) (.seq (.seq (ai 0 (ai 2 bQ)) (az 1 (ai 2 bQ))) (.seq (.seq (ai 0 (ai 3 bQ)) (.block 0 (.loop pJ))) (az 4 bQ))))]=X0
 simp only [ai,bQ,f136,A_]
 iterate 3 refine B.n ?_
 subst hX
 refine B.s ?_
 generalize hX:[Item.code (Code.seq (.seq (ai 0 (ai 2 bQ)) (az 1 (ai 2 bQ))) (.seq (.seq (ai 0 (ai 3 bQ)) (.block 0 (.loop pJ))) (az 4 bQ)))]=X0
 simp only [ai,bQ,f136,A_]
 iterate 3 refine B.n ?_
 refine ay.ctl B hS hL rfl (fun _=>bY (vs:=#[v,.func (.func 137) #[] #[.pointer (some ⟨g3,0,none⟩)]]) rfl rfl (by k_ne) rfl func143 rfl rfl (by kernel_rfl)) ?_
 rw [Lb]
 refine Qn B hL bR mS hsm fun w2 du Rv=> ?_
 walk_nrm
 iterate 2 refine B.n ?_
 subst hX
 iterate 2 refine B.n ?_
 generalize hX:[Item.code (az 1 (ai 2 bQ)),Item.code (.seq (.seq (ai 0 (ai 3 bQ)) (.block 0 (.loop pJ))) (az 4 bQ))]=X0
 simp only [ai,bQ,f136,A_]
 iterate 2 refine B.n ?_
 have uJ:w2.ownsRow B0 84 2 v ws.length (ax ws):=cH bR fun k _ hk=>Rv.block k hk (by simp)
 rcases EB ws c with ⟨hi,hk⟩|⟨m,hm,hi,hk,hmc⟩
 ·rw [hi]
  iterate 2 refine B.n ?_
  subst hX
  simp only [az,ai,bQ,f136,A_]
  iterate 6 refine B.n ?_
  refine ay.ctl B hS du rfl (fun _=>ma) ?_
  refine ay.ctl B hS du rfl (fun _=>aZ rfl rfl func136 rfl) ?_
  exact hc w2 v du Rv.weaken (by rw [hk];exact uJ)
 ·rw [hi]
  have Nh:(((m:Nat):Int)= -1)=False:=by simp
  have oJ:IntKind.i64.wrap ((m:Int)+1)=((m+1:Nat):Int):=by rw [IntWalk.i64_in _ (by omega)];rfl
  iterate 2 refine B.n ?_
  subst hX
  have e2:az 1 (ai 2 bQ)=.cond (.tmp 12) (match az 1 (ai 2 bQ) with| .cond _ a _=>a|_=>.skip) .skip:=by kernel_rfl
  rw [e2]
  refine B.c rfl ?_
  refine ay.ctl B hS du rfl (fun _=>stepG_skip) ?_
  iterate 2 refine B.n ?_
  generalize hX:[Item.code (Code.block 0 (.loop pJ)),Item.code (az 4 bQ)]=X0
  simp only [ai,bQ,f136,A_]
  iterate 5 refine B.n ?_
  subst hX
  refine ay.ctl B hS du rfl (fun _=>stepG_block) ?_
  refine ay.ctl B hS du rfl (fun _=>stepG_loop) ?_
  obtain ⟨g,cap,cur,ev,_,_,lJ,_⟩:=cz uJ (by omega)
  subst ev
  have hlen:(ws.take m).length=m:=by rw [Q_];omega
  exact HX B (w0:=w2) (B0:=B0) (ws:=ws) (c:=c) (g3:=g3) (g:=g) (cap:=cap) (Rv.cell mS rfl (by simp)) (fun e=>hne (by rw [e];rfl)) hsm lJ (fun w3 gA KV QK=>hc w3 _ gA (Rv.weaken.trans KV) QK)
   (ws.length - (m+1)) (m+1) rfl hm m ws _ _ _ _ _ _ _ _ _ _ _ _ _ _ _ _ _ _ _ _ _ _ _ _ _ _ _ _ _ _ _ _ _ _ _ w2 du (gD.refl _ _) (aa (by rw [hk,hlen])) ⟨rfl,by rw [hk,hlen],fun k _ h2=>G_ h2,by rw [hk,hlen];omega,uJ⟩
end
noncomputable def bC:Code:=f122.body.getD .skip
def Da:Bs:=[103,111,110,101]
def JC:Bs:=[111,102,102]
def iy:Bs:=[100,111,110,101]
def ie:Bs:=[108,101,102,116]
theorem qF (x:Int):∀(zs:List Int) (i:Nat),(Lib.idxFrom zs x i= -1/\zs.contains x=false)\/∃k,∃hk:k<zs.length,Lib.idxFrom zs x i=((i+k:Nat):Int)/\zs[k]=x/\∀j (hj:j<k),zs[j]≠x
 |[],i=>.inl ⟨rfl,rfl⟩
 |z::zs,i=>by
  by_cases hz:z=x
  ·refine .inr ⟨0,by simp, ?_,by simpa using hz,fun j hj=>absurd hj (Nat.not_lt_zero _)⟩
   rw [Lib.idxFrom];simp [hz]
  ·have hstep:Lib.idxFrom (z::zs) x i=Lib.idxFrom zs x (i+1):=by rw [Lib.idxFrom];simp [hz]
   rcases qF x zs (i+1) with ⟨h1,h2⟩|⟨k,hk,h1,h2,h3⟩
   ·refine .inl ⟨hstep.trans h1, ?_⟩
    rw [List.contains_cons,h2,Bool.or_false]
    simpa using fun e:x=z=>hz e.symm
   ·refine .inr ⟨k+1,by simpa using hk,by rw [hstep,h1,show i+1+k=i+(k+1) by omega],by simpa using h2,fun j hj=> ?_⟩
    cases j with
    |zero=>simpa using hz
    |succ j=>simpa using h3 j (by omega)
theorem uE (zs:List Int) (x:Int):(Lib.idxOf zs x= -1/\zs.contains x=false)\/∃k,∃hk:k<zs.length,Lib.idxOf zs x=(k:Nat)/\zs[k]=x/\∀j (hj:j<k),zs[j]≠x:=by
 rcases qF x zs 0 with h|⟨k,hk,h1,h2⟩
 ·exact .inl h
 ·exact .inr ⟨k,hk,by rw [show Lib.idxOf zs x=Lib.idxFrom zs x 0 from rfl,h1,Nat.zero_add],h2⟩
section
variable {C:cS} {b N N0 h:Nat} {L:Nat->Of.Os} {us:List Od} {A:Ha} {S:Hs} {vw vb vr va vt:M'} {ae Fin:O'->J'->Prop} {Post:M'->J'->Prop} {wl:J'} {aI:Y'} {aS:Act} {av:Array y_} {aN:Nat} {ak:List Nat} {aV:List x_} {cs:List Y'}
theorem Rl (B:eh p_ C b 0 ae Fin h) (hL:Lay C wl) (H:aQ A S vw vb vr va vt wl) (K:bN C A N0 h us L wl) (hT:aU A wl) {c:Int}
 (hc:∀aK g3,Lay C aK->aQ A S vw vb vr va vt aK->bN C A N0 h us L aK->aU A aK->aK.heap[g3]?=some (.cells #[.int .i64 c] 3 (0,0))->A.B<=g3->(∀v:M',v=vw\/v=vb\/v=vr\/v=va\/v=vt->v.ownBlock≠some g3)->
  ay p_ C b 0 ae Fin Post h (aY b N h L) aK (G ((base 122).at ⟨#[.pointer (some ⟨A.hb,0,none⟩),.int .i64 c,I',.pointer (some ⟨g3,0,none⟩),.string ⟨#[]⟩,I',I',I',I',I',I',I',I',I',I',I',I',I',I',I',I',I',I',I',I',I',I',I',I',I',I',I',I',I',I',I',I',I',I',I',I',I',I',I',I',I',I',I',I',I',I',I',I',I',I',I',I',I',I'],[]⟩ [.code (az 1 bC)]) (aI.at aS (.inRegion av (aN::ak)::aV)::cs))):
 ay p_ C b 0 ae Fin Post h (aY b N h L) wl (G ((base 122).at ⟨#[.pointer (some ⟨A.hb,0,none⟩),.int .i64 c]++F_ 57 I',[]⟩ [.code bC]) (aI.at aS (.inRegion av (aN::ak)::aV)::cs)):=by
 have hS:=aH b N h L
 have ea:(#[.pointer (some ⟨A.hb,0,none⟩),.int .i64 c]++F_ 57 I':Array M')=#[.pointer (some ⟨A.hb,0,none⟩),.int .i64 c,I',I',I',I',I',I',I',I',I',I',I',I',I',I',I',I',I',I',I',I',I',I',I',I',I',I',I',I',I',I',I',I',I',I',I',I',I',I',I',I',I',I',I',I',I',I',I',I',I',I',I',I',I',I',I',I',I']:=by kernel_rfl
 rw [ea]
 have e1:bC=.seq (ai 0 bC) (az 1 bC):=by kernel_rfl
 rw [e1]
 refine B.s ?_
 generalize hX:[Item.code (az 1 bC)]=X0
 simp only [ai,bC,f122,A_]
 refine B.r ?_
 refine ay.op (ok:=il) B hS hL rfl rfl (by k_ne) (by kernel_rfl) (fun T d=>⟨.pointer (some ⟨wl.heap.size,0,none⟩),(wl.alloc (.cells #[.int .i64 c] 3)).re T d, ?_,fun hcut=>ay.re ?_ T d⟩)
 ·go_simp
  exact ⟨rfl,rfl⟩
 have du:Lay C (wl.alloc (.cells #[.int .i64 c] 3)):=⟨Cut.j8 hcut,hL.no⟩
 walk_nrm
 have H2:=H.alloc (.cells #[.int .i64 c] 3)
 have F2:Im A wl (wl.alloc (.cells #[.int .i64 c] 3)):=⟨(Fr.alloc (w:=wl) H.big _).size,(Fr.alloc (w:=wl) H.big _).block⟩
 have K2:=K.zt H F2
 have T2:=aU.zt hT H F2
 have hn:∀v:M',v=vw\/v=vb\/v=vr\/v=va\/v=vt->v.ownBlock≠some wl.heap.size:=by
  rintro v (rfl|rfl|rfl|rfl|rfl) e
  ·exact Nat.lt_irrefl _ (H.wait.lt _ e).2
  ·exact Nat.lt_irrefl _ (H.back.lt _ e).2
  ·exact Nat.lt_irrefl _ (H.recs.lt _ e).2
  ·exact Nat.lt_irrefl _ (H.log.lt _ e).2
  ·exact Nat.lt_irrefl _ (H.cg.lt _ e).2
 refine ay.op (ok:=il) B hS du rfl rfl (by k_ne) (by kernel_rfl) (fun T d=>⟨.string ⟨#[]⟩,(wl.alloc (.cells #[.int .i64 c] 3)).re T d, ?_,fun _=>ay.re ?_ T d⟩)
 ·go_simp
 walk_nrm
 refine B.e ?_
 subst hX
 exact hc _ _ du H2 K2 T2 (heap_alloc_new wl _) H.big hn
variable {g3:Nat}
theorem HK (B:eh p_ C b 0 ae Fin h) (hL:Lay C wl) (H:aQ A S vw vb vr va vt wl) (K:bN C A N0 h us L wl) (hT:aU A wl) {c:Int} (mS:wl.heap[g3]?=some (.cells #[.int .i64 c] 3 (0,0))) (oG:A.B<=g3) (kE:S.of c=none) (lW:S.back.length<=1000000)
 (hc:∀aK qS,Lay C aK->aQ A {S with back:=if Lib.idxOf S.back c<0 then S.back else S.back.eraseIdx (Lib.idxOf S.back c).toNat} vw qS vr va vt aK->bN C A N0 h us L aK->aU A aK->
  ay p_ C b 0 ae Fin Post h (aY b N h L) aK (G (aI.at (aS.put ((av[aN]?).bind (·.dst)) (.string ⟨(if Lib.idxOf S.back c<0 then Da else JC).toArray⟩)) (.inRegion av ak::aV)) cs)):
 ay p_ C b 0 ae Fin Post h (aY b N h L) wl (G ((base 122).at ⟨#[.pointer (some ⟨A.hb,0,none⟩),.int .i64 c,I',.pointer (some ⟨g3,0,none⟩),.string ⟨#[]⟩,I',I',I',I',I',I',I',I',I',I',I',I',I',I',I',I',I',I',I',I',I',I',I',I',I',I',I',I',I',I',I',I',I',I',I',I',I',I',I',I',I',I',I',I',I',I',I',I',I',I',I',I',I',I'],[]⟩ [.code (az 1 bC)]) (aI.at aS (.inRegion av (aN::ak)::aV)::cs)):=by
 have hS:=aH b N h L
 have e1:az 1 bC=.seq (ai 1 bC) (az 2 bC):=by kernel_rfl
 rw [e1]
 refine B.s ?_
 refine B.p (aF (by kernel_rfl) rfl rfl ⟨_,func122⟩) (fun T d Bh hB=> ?_)
 obtain ⟨W,hW⟩:∃W,f_ (W=wl.re T d):=⟨_,aa rfl⟩
 rw [<-hW.out]
 have H0:=aa (H.heap (w':=W) (by rw [hW.out];rfl))
 have K0:f_ (bN C A N0 h us L W):=by rw [hW.out];exact ⟨K.len,K.small,K.live,K.n0,K.ap,K.fo,K.kM,K.cells⟩
 have T0:f_ (aU A W):=by rw [hW.out];exact hT
 have ir:=aa hc
 have hno:=aa hL.no
 obtain ⟨ab,cb,K8⟩:=aE H.back
 have c5:W.drew.cell? ⟨A.hb,5,none⟩=some (.map (some A.m2)):=H0.out.c.2.2.1
 have c3:W.drew.cell? ⟨g3,0,none⟩=some (.int .i64 c):=by rw [hW.out];show wl.cell? _=_;rw [aB mS];rfl
 have Sy:Sem.run p_ (Instr.lookup 72 (Value.map (some A.m2)) (Value.int IntKind.i64 c) false) W.drew=.ok (.chan none) W.drew:=by
  have:=(H0.out.of.heap (w':=W.drew) rfl).lookup pe Tryz.underlying72 c (z:=.chan none) (fun w=>qQ w) false
  rw [kE] at this;exact this
 have hq:(binOp .eql 78 (.chan none) (.chan none)).run p_ W.drew=.ok (.bool true) W.drew:=De Tryz.underlying78 none
 clear hL H K hT hc mS
 simp only [ai,bC,f122,A_]
 go_wp2_with fail
 go_region
 go_wp2_with fail
 obtain ⟨V,hV⟩:∃V,f_ (V=W.drew):=⟨_,aa rfl⟩
 have H1:=aa (H0.out.heap (w':=V.drew) (by rw [hV.out];rfl))
 have K1:f_ (bN C A N0 h us L V.drew):=by rw [hV.out];exact ⟨K0.out.len,K0.out.small,K0.out.live,K0.out.n0,K0.out.ap,K0.out.fo,K0.out.kM,K0.out.cells⟩
 have T1:f_ (aU A V.drew):=by rw [hV.out];exact T0.out
 have c3':V.drew.cell? ⟨g3,0,none⟩=some (.int .i64 c):=by rw [hV.out];exact c3
 have c8:V.drew.cell? ⟨A.hb,8,none⟩=some vb:=H1.out.c.2.2.2.2.2.1
 have sY:=aa (Hz (w:=V.drew) H1.out.back lW c)
 clear c5 c3 Sy hq H0 K0 T0
 rw [K8] at c8 sY
 have Z0:V.drew.cell? ⟨A.hb,8,none⟩=some (.slice ab S.back.length cb)/\V.drew.cell? ⟨g3,0,none⟩=some (.int .i64 c):=⟨c8,c3'⟩
 rw [<-hV.out]
 go_region_held3 (fun w₁=>w₁.cell? ⟨A.hb,8,none⟩=some (.slice ab S.back.length cb)/\w₁.cell? ⟨g3,0,none⟩=some (.int .i64 c))
  (first|with_reducible exact Z0|go_keep)
  ((go_at_call 132;(with_reducible refine sY.out.mono ?_);rintro e w5 ⟨rfl,rfl⟩))
 rcases uE S.back c with ⟨hi,_⟩|⟨k,hk,hi,_,_⟩
 ·rw [hi] at ir ⊢
  have hlt:((-1:Int)<0)=True:=by simp
  rw [if_pos (by decide:(-1:Int)<0)] at ir
  go_wp2_with fail
  subst hB
  intro hcut todo
  have jv:Lay C V.drew:=⟨hcut,hno.out⟩
  refine ay.ctl B hS jv rfl (fun _=>aZ rfl rfl func122 rfl) ?_
  exact ir.out V.drew _ jv (H1.out) K1.out T1.out
 ·rw [hi] at ir ⊢
  have hnn:¬((k:Int)<0):=by omega
  rw [if_neg hnn,if_neg hnn,Int.toNat_natCast] at ir
  have hlt:((k:Int)<0)=False:=by simp
  obtain ⟨g,cap,cur,ev,_⟩:=cz H1.out.back (by omega)
  have bR:=H1.out.back
  rw [ev] at bR
  have KN:ab=some ⟨g,0,none⟩/\cb=cap:=by rw [K8] at ev;injection ev with e1 e2 e3;exact ⟨e1,e3⟩
  obtain ⟨rfl,rfl⟩:=KN
  have oJ:IntKind.i64.wrap ((k:Int)+1)=((k+1:Nat):Int):=by rw [IntWalk.i64_in _ (by omega)];rfl
  have CU:=aa (Gt bR (i:=k) hk)
  have VO:=c8
  clear bR sY Z0 c3'
  replace hS:=aa hS
  generalize V.drew=V2 at *
  go_wp2_with fail
  refine CU.out.mono ?_
  rintro e w2 ⟨rfl,ho,hg⟩
  have Mf:vb.ownBlock=some g:=by rw [ev];rfl
  have hgB:=(H1.out.back.lt g Mf).1
  have Ba:=H1.out.ok.hb
  have hne:some A.hb≠some g:=fun e=>by injection e with e;omega
  have c8b:=hg.cell (a:=⟨A.hb,8,none⟩) VO hne
  have f8b:w2.frozen? ⟨A.hb,8,none⟩=false:=(World.frozen?_of_block (hg.block A.hb (E_ Ba H1.out.big) hne)).trans (H1.out.z 8)
  have Nv:(S.back.eraseIdx k).length=S.back.length - 1:=by rw [List.length_eraseIdx];simp [hk]
  rw [Nv] at ho
  have hp:=aa (H1.out.FG (v:=.slice (some ⟨g,0,none⟩) (S.back.length - 1) cb) (ks:=S.back.eraseIdx k) (by rw [Mf];exact hg) (by rw [Mf];rfl) (by rw [Nv];exact ho))
  clear hg ho CU VO c8
  go_wp2_with fail
  subst hB
  intro hcut todo
  generalize w2.setCell ⟨A.hb,8,none⟩ (.slice (some ⟨g,0,none⟩) (S.back.length - 1) cb)=w3 at *
  have gA:Lay C w3:=⟨hcut,hno.out⟩
  refine ay.ctl B hS.out gA rfl (fun _=>aZ rfl rfl func122 rfl) ?_
  exact ir.out w3 _ gA hp.out.1 (K1.out.fr H1.out hp.out.2) (T1.out.fr H1.out hp.out.2)
end
noncomputable def X9:Code:=match az 2 (ai 2 bC) with| .cond _ a _=>a|_=>.skip
section
variable {C:cS} {b N N0 h:Nat} {L:Nat->Of.Os} {us:List Od} {A:Ha} {S:Hs} {vw vb vr va vt:M'} {ae Fin:O'->J'->Prop} {Post:M'->J'->Prop} {wl:J'} {aI:Y'} {aS:Act} {av:Array y_} {aN:Nat} {ak:List Nat} {aV:List x_} {cs:List Y'}
variable {g3 x:Nat}
theorem KJ (B:eh p_ C b 0 ae Fin h) (hL:Lay C wl) (H:aQ A S vw vb vr va vt wl) (K:bN C A N0 h us L wl) (hT:aU A wl) {c:Int} (mS:wl.heap[g3]?=some (.cells #[.int .i64 c] 3 (0,0))) {r:Nat} (kE:S.of c=some x) (mj:S.rc c=some r) (hr:r<S.recs.length) (wi:S.recs.length<=100000) {op:Int} (hop:(S.recs[r]).op=op) {q:Bool} (hq:(op !=0)=q)
 (hc:∀aK (z2 z5 z7 z8 z9 dB cZ z12 de dn dm dk dj dA dz z20 z21 z22 z23 z24 z25 z26 dD z28 dC dM z31 dQ dK dP dO dV z37 ey ew eu eK eJ eI eH z46 eQ eN z49 en z51 iu z53 iF iE iD iC iB:M'),Lay C aK->aQ A S vw vb vr va vt aK->bN C A N0 h us L aK->aU A aK->aK.heap[g3]?=some (.cells #[.int .i64 c] 3 (0,0))->
  ay p_ C b 0 ae Fin Post h (aY b N h L) aK (G ((base 122).at ⟨#[.pointer (some ⟨A.hb,0,none⟩),.int .i64 c,z2,.pointer (some ⟨g3,0,none⟩),.string ⟨#[]⟩,z5,.int .i64 op,z7,z8,z9,dB,cZ,z12,de,dn,dm,dk,dj,dA,dz,z20,z21,z22,z23,z24,z25,z26,dD,z28,dC,dM,z31,dQ,dK,dP,dO,dV,z37,ey,ew,.bool q,eu,eK,eJ,eI,eH,z46,eQ,eN,z49,en,z51,iu,z53,iF,iE,iD,iC,iB],[]⟩ [.code (az 2 (ai 2 bC)),.code (az 3 bC)]) (aI.at aS (.inRegion av (aN::ak)::aV)::cs))):
 ay p_ C b 0 ae Fin Post h (aY b N h L) wl (G ((base 122).at ⟨#[.pointer (some ⟨A.hb,0,none⟩),.int .i64 c,I',.pointer (some ⟨g3,0,none⟩),.string ⟨#[]⟩,I',I',I',I',I',I',I',I',I',I',I',I',I',I',I',I',I',I',I',I',I',I',I',I',I',I',I',I',I',I',I',I',I',I',I',I',I',I',I',I',I',I',I',I',I',I',I',I',I',I',I',I',I',I'],[]⟩ [.code (az 1 bC)]) (aI.at aS (.inRegion av (aN::ak)::aV)::cs)):=by
 have hS:=aH b N h L
 have e1:az 1 bC=.seq (ai 1 bC) (.seq (.seq (ai 0 (ai 2 bC)) (.seq (ai 1 (ai 2 bC)) (az 2 (ai 2 bC)))) (az 3 bC)):=by kernel_rfl
 rw [e1]
 refine B.s ?_
 refine B.p (aF (by kernel_rfl) rfl rfl ⟨_,func122⟩) (fun T d Bh hB=> ?_)
 obtain ⟨W,hW⟩:∃W,f_ (W=wl.re T d):=⟨_,aa rfl⟩
 rw [<-hW.out]
 have H0:=aa (H.heap (w':=W) (by rw [hW.out];rfl))
 have K0:f_ (bN C A N0 h us L W):=by rw [hW.out];exact ⟨K.len,K.small,K.live,K.n0,K.ap,K.fo,K.kM,K.cells⟩
 have T0:f_ (aU A W):=by rw [hW.out];exact hT
 have ir:=aa hc
 have hno:=aa hL.no
 have c5:W.drew.cell? ⟨A.hb,5,none⟩=some (.map (some A.m2)):=H0.out.c.2.2.1
 have mS:f_ (W.heap[g3]?=some (.cells #[.int .i64 c] 3 (0,0))):=by rw [hW.out];exact mS
 have c3:W.drew.cell? ⟨g3,0,none⟩=some (.int .i64 c):=by show W.cell? _=_;rw [aB mS.out];rfl
 have Sy:Sem.run p_ (Instr.lookup 72 (Value.map (some A.m2)) (Value.int IntKind.i64 c) false) W.drew=.ok (.chan (some x)) W.drew:=by
  have:=(H0.out.of.heap (w':=W.drew) rfl).lookup pe Tryz.underlying72 c (z:=.chan none) (fun w=>qQ w) false
  rw [kE] at this;exact this
 have Uf:(binOp .eql 78 (.chan (some x)) (.chan none)).run p_ W.drew=.ok (.bool false) W.drew:=De Tryz.underlying78 (some x)
 clear hL H K hT hc
 simp only [ai,bC,f122,A_]
 go_wp2_with fail
 go_region
 go_wp2_with fail
 have H1:=aa (H0.out.heap (w':=W.drew) rfl)
 have K1:f_ (bN C A N0 h us L W.drew):=⟨K0.out.len,K0.out.small,K0.out.live,K0.out.n0,K0.out.ap,K0.out.fo,K0.out.kM,K0.out.cells⟩
 have T1:f_ (aU A W.drew):=T0.out
 have mS:f_ (W.drew.heap[g3]?=some (.cells #[.int .i64 c] 3 (0,0))):=mS
 clear c5 Sy Uf H0 K0 T0
 subst hB
 intro hcut
 generalize W.drew=V at *
 have nU:Lay C V:=⟨hcut,hno.out⟩
 clear hcut c3
 iterate 2 refine B.n ?_
 refine B.p (aF (by kernel_rfl) rfl rfl ⟨_,func122⟩) (fun T d Bh hB=> ?_)
 obtain ⟨W2,Dz⟩:∃W2,f_ (W2=V.re T d):=⟨_,aa rfl⟩
 rw [<-Dz.out]
 have H0:=aa (H1.out.heap (w':=W2) (by rw [Dz.out];rfl))
 have K0:f_ (bN C A N0 h us L W2):=by rw [Dz.out];exact ⟨K1.out.len,K1.out.small,K1.out.live,K1.out.n0,K1.out.ap,K1.out.fo,K1.out.kM,K1.out.cells⟩
 have T0:f_ (aU A W2):=by rw [Dz.out];exact T1.out
 have mS:f_ (W2.heap[g3]?=some (.cells #[.int .i64 c] 3 (0,0))):=by rw [Dz.out];exact mS.out
 have c3:W2.cell? ⟨g3,0,none⟩=some (.int .i64 c):=by rw [aB mS.out];rfl
 obtain ⟨g,cap,cur,ev,_⟩:=cz H0.out.recs (Nat.lt_of_le_of_lt (Nat.zero_le _) hr)
 have Ws:=aa (jL H0.out mj hr ev wi)
 have ev:=aa ev
 clear nU H1 K1 T1
 simp only [ai,bC,f122,A_]
 go_wp2_with fail
 refine Ws.out.mono ?_
 rintro e w3 ⟨rfl,hh,F3⟩
 have H3:=aa (H0.out.heap hh)
 have K3:=aa (K0.out.fr H0.out F3)
 have T3:=aa (T0.out.fr H0.out F3)
 have mS:f_ (w3.heap[g3]?=some (.cells #[.int .i64 c] 3 (0,0))):=by rw [hh];exact mS.out
 obtain ⟨x1,x2⟩:=H3.out.pQ ev.out hr (k:=2) (by decide)
 replace x1:w3.cell? ⟨g,r * 7+2,none⟩=some (.int .i64 op):=by rw [<-hop];exact x1
 clear hh F3 H0 K0 T0 Ws c3
 go_wp2_with fail
 subst hB
 intro hcut
 have gA:Lay C w3:=⟨hcut,hno.out⟩
 clear hcut x1 x2
 refine B.s ?_
 refine B.p (aF (by kernel_rfl) rfl rfl ⟨_,func122⟩) (fun T d Bh hB=> ?_)
 simp only [ai,bC,f122,A_]
 subst hq
 go_wp2_with fail
 subst hB
 intro hcut
 clear hcut
 refine ay.re (wl:=w3) ?_ T d
 exact ir.out w3 _ _ _ _ _ _ _ _ _ _ _ _ _ _ _ _ _ _ _ _ _ _ _ _ _ _ _ _ _ _ _ _ _ _ _ _ _ _ _ _ _ _ _ _ _ _ _ _ _ _ _ _ _ gA H3.out K3.out T3.out mS.out
variable {z2 z5 z7 z8 z9 dB cZ de dn dm dk dj dA dz dD dC dM dQ dK dP dO dV ey ew eu eK eJ eI eH eQ eN en iu iF iE iD iC iB:M'}
theorem HM (B:eh p_ C b 0 ae Fin h) (hL:Lay C wl) (H:aQ A S vw vb vr va vt wl) (K:bN C A N0 h us L wl) (hT:aU A wl) {c:Int} (mS:wl.heap[g3]?=some (.cells #[.int .i64 c] 3 (0,0))) {r:Nat} (kE:S.of c=some x) (mj:S.rc c=some r) (hr:r<S.recs.length) (wi:S.recs.length<=100000) (hi:i<us.length) {op:Int} (hop:((i+1:Nat):Int)=op) {q:Bool} (hq:q=true) {z12 z20 z21 z22 z23 z24 z25 z26 z28 z31 z37 z46 z49 z51 z53:M'}
 (hc:∀aK L',Lay C aK->aQ A (uk S c x r S.recs[r] iy) vw vb vr va vt aK->bN C A N0 h (told us i 1 0) L' aK->aU A aK->
  ay p_ C b 0 ae Fin Post h (aY b N h L') aK (G (aI.at (aS.put ((av[aN]?).bind (·.dst)) (.string ⟨iy.toArray⟩)) (.inRegion av ak::aV)) cs)):
 ay p_ C b 0 ae Fin Post h (aY b N h L) wl (G ((base 122).at ⟨#[.pointer (some ⟨A.hb,0,none⟩),.int .i64 c,z2,.pointer (some ⟨g3,0,none⟩),.string ⟨#[]⟩,z5,.int .i64 op,z7,z8,z9,dB,cZ,z12,de,dn,dm,dk,dj,dA,dz,z20,z21,z22,z23,z24,z25,z26,dD,z28,dC,dM,z31,dQ,dK,dP,dO,dV,z37,ey,ew,.bool q,eu,eK,eJ,eI,eH,z46,eQ,eN,z49,en,z51,iu,z53,iF,iE,iD,iC,iB],[]⟩ [.code (az 2 (ai 2 bC)),.code (az 3 bC)]) (aI.at aS (.inRegion av (aN::ak)::aV)::cs)):=by
 have hS:=aH b N h L
 subst hq
 have e1:az 2 (ai 2 bC)=.cond (.tmp 40) X9 .skip:=by kernel_rfl
 have e2:X9=.seq (ai 0 X9) (az 1 X9):=by kernel_rfl
 rw [e1]
 refine B.c rfl ?_
 rw [e2]
 refine B.s ?_
 generalize hY:[Item.code (az 1 X9),Item.code (az 3 bC)]=Y0
 simp only [X9,ai,az,bC,f122,A_]
 iterate 3 refine B.n ?_
 refine ay.ctl B hS hL rfl (fun _=>bY (vs:=#[.pointer (some ⟨A.hb,0,none⟩),.int .i64 op,.int .i64 1,.int .i64 0]) rfl rfl (by k_ne) rfl func101 rfl rfl (by kernel_rfl)) ?_
 rw [pB]
 subst hop
 refine RZ B hL H K hi fun w2 du H2 K2 yL=> ?_
 have T2:=hT.pf yL (K.kM (N0+i) us[i] (K.n0 i hi).1 (by rw [K.live i hi];rfl)).1
 have g2:w2.heap[g3]?=some (.cells #[.int .i64 c] 3 (0,0)):=by
  have hx:=(K.kM (N0+i) us[i] (K.n0 i hi).1 (by rw [K.live i hi];rfl)).1
  obtain ⟨kk,hx⟩:=hx
  exact yL.blk _ _ mS (fun e=>by rw [e,hx] at mS;cases mS)
 simp only [if_true] at K2 ⊢
 have uh:=aH b N h (upd L (N0+i) (.live ⟨us[i].bt,us[i].x,0⟩))
 walk_nrm
 refine B.e ?_
 subst hY
 generalize Mc:((i+1:Nat):Int)=iv at *
 refine ay.code (ok:=il) B pA uh du (aF (by kernel_rfl) rfl rfl ⟨_,func122⟩) ?_
 intro T d
 generalize hB:iM p_ C b 0 ae Fin Post h (aY b N h (upd L (N0+i) (.live ⟨us[i].bt,us[i].x,0⟩))) _ _ _=Bh
 replace hB:=aa hB
 have H0:=aa (H2.heap (w':=w2.re T d) rfl)
 have K0:f_ (bN C A N0 h (told us i 1 0) (upd L (N0+i) (.live ⟨us[i].bt,us[i].x,0⟩)) (w2.re T d)):=⟨K2.len,K2.small,K2.live,K2.n0,K2.ap,K2.fo,K2.kM,K2.cells⟩
 have T0:f_ (aU A (w2.re T d)):=T2
 have c3:(w2.re T d).cell? ⟨g3,0,none⟩=some (.int .i64 c):=by show w2.cell? _=_;rw [aB g2];rfl
 have rq:=aa (um H0.out kE mj hr wi (q:=iy) (Fr.refl A (w2.re T d)))
 have hno:=aa hL.no
 replace uh:=aa uh
 have ir:=aa hc
 clear hL du H H2 K K2 hT T2 yL hS hc
 generalize w2.re T d=w3 at *
 simp only [X9,ai,az,bC,f122,A_]
 go_wp2_with fail
 refine rq.out.mono ?_
 rintro e w4 ⟨rfl,H4,F4,_⟩
 have K4:=aa (K0.out.fr H0.out F4)
 have T4:=aa (T0.out.fr H0.out F4)
 have H4:=aa H4
 clear F4 rq c3
 go_wp2_with fail
 subst hB
 intro hcut todo
 have jv:Lay C w4:=⟨hcut,hno.out⟩
 refine ay.ctl B uh.out jv rfl (fun _=>aZ rfl rfl func122 rfl) ?_
 exact ir.out w4 _ jv H4.out K4.out T4.out
end
section
variable {C:cS} {b N N0 h:Nat} {L:Nat->Of.Os} {us:List Od} {A:Ha} {S:Hs} {vw vb vr va vt:M'} {ae Fin:O'->J'->Prop} {Post:M'->J'->Prop} {wl:J'} {aI:Y'} {aS:Act} {av:Array y_} {aN:Nat} {ak:List Nat} {aV:List x_} {cs:List Y'}
variable {g3 x:Nat} {z2 z5 z7 z8 z9 dB cZ de dn dm dk dj dA dz dD dC dM dQ dK dP dO dV ey ew eu eK eJ eI eH eQ eN en iu iF iE iD iC iB:M'}
theorem HL (B:eh p_ C b 0 ae Fin h) (hL:Lay C wl) (H:aQ A S vw vb vr va vt wl) (K:bN C A N0 h us L wl) (hT:aU A wl) {c:Int} (mS:wl.heap[g3]?=some (.cells #[.int .i64 c] 3 (0,0))) (oG:A.B<=g3) (OM:vw.ownBlock≠some g3) (hnr:vr.ownBlock≠some g3) {r:Nat} (kE:S.of c=some x) (mj:S.rc c=some r) (hr:r<S.recs.length) (wi:S.recs.length<=100000) (AQ:S.wait.length<=1000000) {op:Int} {q:Bool} (hq:q=false) {z12 z20 z21 z22 z23 z24 z25 z26 z28 z31 z37 z46 z49 z51 z53:M'}
 (hc:∀aK jA,Lay C aK->aQ A {uk S c x r S.recs[r] ie with wait:=aJ S.wait c} jA vb vr va vt aK->bN C A N0 h us L aK->aU A aK->
  ay p_ C b 0 ae Fin Post h (aY b N h L) aK (G (aI.at (aS.put ((av[aN]?).bind (·.dst)) (.string ⟨ie.toArray⟩)) (.inRegion av ak::aV)) cs)):
 ay p_ C b 0 ae Fin Post h (aY b N h L) wl (G ((base 122).at ⟨#[.pointer (some ⟨A.hb,0,none⟩),.int .i64 c,z2,.pointer (some ⟨g3,0,none⟩),.string ⟨#[]⟩,z5,.int .i64 op,z7,z8,z9,dB,cZ,z12,de,dn,dm,dk,dj,dA,dz,z20,z21,z22,z23,z24,z25,z26,dD,z28,dC,dM,z31,dQ,dK,dP,dO,dV,z37,ey,ew,.bool q,eu,eK,eJ,eI,eH,z46,eQ,eN,z49,en,z51,iu,z53,iF,iE,iD,iC,iB],[]⟩ [.code (az 2 (ai 2 bC)),.code (az 3 bC)]) (aI.at aS (.inRegion av (aN::ak)::aV)::cs)):=by
 have hS:=aH b N h L
 subst hq
 have e1:az 2 (ai 2 bC)=.cond (.tmp 40) X9 .skip:=by kernel_rfl
 have e2:az 3 bC=.seq (ai 3 bC) (.seq (ai 4 bC) (az 5 bC)):=by kernel_rfl
 rw [e1]
 refine B.c rfl ?_
 refine ay.ctl B hS hL rfl (fun _=>stepG_skip) ?_
 rw [e2]
 refine B.s ?_
 refine B.p (aF (by kernel_rfl) rfl rfl ⟨_,func122⟩) (fun T d Bh hB=> ?_)
 have H0:=aa (H.heap (w':=wl.re T d) rfl)
 have K0:f_ (bN C A N0 h us L (wl.re T d)):=⟨K.len,K.small,K.live,K.n0,K.ap,K.fo,K.kM,K.cells⟩
 have T0:f_ (aU A (wl.re T d)):=hT
 have c3:(wl.re T d).cell? ⟨g3,0,none⟩=some (.int .i64 c):=by show wl.cell? _=_;rw [aB mS];rfl
 have g0:f_ ((wl.re T d).heap[g3]?=some (.cells #[.int .i64 c] 3 (0,0))):=mS
 have rq:=aa (um H0.out kE mj hr wi (q:=ie) (Fr.refl A (wl.re T d)))
 have hno:=aa hL.no
 have ir:=aa hc
 clear hL H K hT hc mS
 generalize wl.re T d=w3 at *
 simp only [ai,bC,f122,A_]
 go_wp2_with fail
 refine rq.out.mono ?_
 rintro e w4 ⟨rfl,H4,F4,A4⟩
 have K4:=K0.out.fr H0.out F4
 have T4:=T0.out.fr H0.out F4
 have g4:w4.heap[g3]?=some (.cells #[.int .i64 c] 3 (0,0)):=by
  have o1:=H4.ok.hb
  have o2:=H4.ok.m1
  have o3:=H4.ok.m2
  have o4:=H4.ok.m3
  rw [A4.block g3 (cI g0.out) (by omega) (by omega) (by omega) (by omega) (fun e=>hnr e.symm)];exact g0.out
 have H4H:=aa H4
 have K4H:=aa K4
 have T4H:=aa T4
 have g4H:=aa g4
 clear F4 A4 rq c3 H4 K4 T4 g4 H0 K0 T0 g0
 go_wp2_with fail
 subst hB
 intro hcut
 have qv:Lay C w4:=⟨hcut,hno.out⟩
 have H4:=H4H.out
 have K4:=K4H.out
 have T4:=T4H.out
 have g4:=g4H.out
 refine B.s ?_
 generalize hY:[Item.code (az 5 bC)]=Y0
 simp only [ai,bC,f122,A_]
 iterate 5 refine B.n ?_
 refine B.o vw (fun T d=> ?_) ?_
 ·have h0:(w4.re T d).cell? ⟨A.hb,7,none⟩=some vw:=H4.c.2.2.2.2.1
  go_simp
 walk_nrm
 refine B.n ?_
 refine ay.ctl B hS qv rfl (fun _=>bY (vs:=#[vw,.func (.func 137) #[] #[.pointer (some ⟨g3,0,none⟩)]]) rfl rfl (by k_ne) rfl func136 rfl rfl (by kernel_rfl)) ?_
 rw [Lc]
 have fz:∀g,vw.ownBlock=some g->A.B<=g/\g<w4.heap.size:=fun g e=>H4.wait.lt g e
 refine NP B qv (B0:=A.B) (ws:=S.wait) (v:=vw) (c:=c) (g3:=g3) H4.wait (by rw [aB g4];rfl) OM AQ fun w5 v5 qu WO Nd=> ?_
 obtain ⟨a5,q5,zA⟩:=aE Nd
 replace zA:=aa zA
 have hp:=H4.Af (w':=w5.re w4.tape w5.drawn) (v:=v5) (ws:=aJ S.wait c) WO.W6 Nd
 have F6:Im A w4 (w5.setCell ⟨A.hb,7,none⟩ v5):=⟨hp.2.size,fun i h1 h2 h3 h4 h5=>hp.2.block i h1 h2 h3 h4 h5⟩
 have c7:∀T d,(w5.re T d).cell? ⟨A.hb,7,none⟩=some vw:=fun _ _=>(World.cell?_of_block (WO.block A.hb (E_ H4.ok.hb H4.big) (fun e=>by have:=(fz _ e.symm).1;have:=H4.ok.hb;omega))).trans H4.c.2.2.2.2.1
 have z7:∀T d,(w5.re T d).frozen? ⟨A.hb,7,none⟩=false:=fun _ _=>(World.frozen?_of_block (WO.block A.hb (E_ H4.ok.hb H4.big) (fun e=>by have:=(fz _ e.symm).1;have:=H4.ok.hb;omega))).trans (H4.z 7)
 walk_nrm
 iterate 2 refine B.n ?_
 refine ay.Wh (ok:=il) B hS qu rfl rfl (by k_ne) (by kernel_rfl) (fun T d=>⟨(w5.setCell ⟨A.hb,7,none⟩ v5).re T d, ?_,fun hcut=>ay.re ?_ T d⟩)
 ·have h7:=c7 T d
  have f7:=z7 T d
  rw [zA.out]
  go_simp
  exact nE _ _ _ _ _
 have Iz:Lay C (w5.setCell ⟨A.hb,7,none⟩ v5):=⟨Cut.j8 hcut,qu.no⟩
 walk_nrm
 refine B.e ?_
 have K6:bN C A N0 h us L (w5.setCell ⟨A.hb,7,none⟩ v5):=K4.zt H4 F6
 have T6:aU A (w5.setCell ⟨A.hb,7,none⟩ v5):=aU.zt T4 H4 F6
 have H6:aQ A {uk S c x r S.recs[r] ie with wait:=aJ S.wait c} v5 vb vr va vt (w5.setCell ⟨A.hb,7,none⟩ v5):=hp.1.heap rfl
 clear zA hp F6 c7 z7 WO Nd qu qv H4 K4 T4 g4 fz H4H K4H T4H g4H hcut
 generalize w5.setCell ⟨A.hb,7,none⟩ v5=w6 at *
 subst hY
 refine B.p (aF (by kernel_rfl) rfl rfl ⟨_,func122⟩) (fun T d Bh hB=> ?_)
 have ZH:=ir
 have Pe:=aa K6
 have T6H:=aa T6
 have H6H:=aa H6
 clear K6 T6 H6 ir
 simp only [az,bC,f122,A_]
 go_wp2_with fail
 subst hB
 intro hcut todo
 have jv:Lay C (w6.re T d):=⟨hcut,hno.out⟩
 refine ay.ctl B hS jv rfl (fun _=>aZ rfl rfl func122 rfl) ?_
 exact ZH.out _ _ jv (H6H.out.heap rfl) ⟨Pe.out.len,Pe.out.small,Pe.out.live,Pe.out.n0,Pe.out.ap,Pe.out.fo,Pe.out.kM,Pe.out.cells⟩ T6H.out
end
def ou (S:Hs) (us:List Od) (c:Int):Hs × List Od × Bs:=
 match S.of c with
 |none=>({S with back:=if Lib.idxOf S.back c<0 then S.back else S.back.eraseIdx (Lib.idxOf S.back c).toNat},us,if Lib.idxOf S.back c<0 then Da else JC)
 |some x=>match S.rc c with
  |none=>(S,us,[])
  |some r=>match S.recs[r]? with
   |none=>(S,us,[])
   |some R=>if R.op≠0 then (uk S c x r R iy,told us (R.op.toNat - 1) 1 0,iy) else ({uk S c x r R ie with wait:=aJ S.wait c},us,ie)
structure Fq (S:Hs) (us:List Od):Prop where
 recs:S.recs.length<=90000
 back:S.back.length<=1000000
 wait:S.wait.length<=1000000
 has:∀c x,S.of c=some x->∃r,∃hr:r<S.recs.length,S.rc c=some r/\((S.recs[r]).op=0\/∃i,i<us.length/\(S.recs[r]).op=((i+1:Nat):Int))
section
variable {C:cS} {b N N0 h:Nat} {L:Nat->Of.Os} {us:List Od} {A:Ha} {S:Hs} {va vt:M'} {ae Fin:O'->J'->Prop} {Post:M'->J'->Prop} {wl:J'} {aI:Y'} {aS:Act} {av:Array y_} {aN:Nat} {ak:List Nat} {aV:List x_} {cs:List Y'}
theorem hang (B:eh p_ C b 0 ae Fin h) (hL:Lay C wl) (H:cQ A va vt S wl) (K:bN C A N0 h us L wl) (hT:aU A wl) {c:Int} (cK:Fq S us)
 (hc:Behind C b N N0 h A va vt ae Fin Post aI aS av aN ak aV cs (ou S us c)):
 ay p_ C b 0 ae Fin Post h (aY b N h L) wl (G ((base 122).at ⟨#[.pointer (some ⟨A.hb,0,none⟩),.int .i64 c]++F_ 57 I',[]⟩ [.code bC]) (aI.at aS (.inRegion av (aN::ak)::aV)::cs)):=by
 obtain ⟨vw,vb,vr,H⟩:=H
 refine Rl B hL H K hT fun w2 g3 du H2 K2 T2 mS oG hn=> ?_
 cases kE:S.of c with
 |none=>
  have hR:ou S us c=({S with back:=if Lib.idxOf S.back c<0 then S.back else S.back.eraseIdx (Lib.idxOf S.back c).toNat},us,if Lib.idxOf S.back c<0 then Da else JC):=by unfold ou;rw [kE]
  rw [hR] at hc
  exact HK B du H2 K2 T2 mS oG kE cK.back fun aK qS fJ H' K' T'=>hc aK L fJ ⟨_,_,_,H'⟩ K' T'
 |some x=>
  obtain ⟨r,hr,mj,hop⟩:=cK.has c x kE
  have wi:S.recs.length<=100000:=by have:=cK.recs;omega
  by_cases h0:(S.recs[r]).op=0
  ·have hR:ou S us c=({uk S c x r S.recs[r] ie with wait:=aJ S.wait c},us,ie):=by
    unfold ou
    simp only [kE,mj,G_ hr,h0,ne_eq,not_true_eq_false,if_false]
   rw [hR] at hc
   exact KJ B du H2 K2 T2 mS kE mj hr wi rfl rfl fun w3 z2 z5 z7 z8 z9 dB cZ z12 de dn dm dk dj dA dz z20 z21 z22 z23 z24 z25 z26 dD z28 dC dM z31 dQ dK dP dO dV z37 ey ew eu eK eJ eI eH z46 eQ eN z49 en z51 iu z53 iF iE iD iC iB gA H3 K3 T3 g4=>HL B gA H3 K3 T3 g4 oG (hn vw (.inl rfl)) (hn vr (.inr (.inr (.inl rfl)))) kE mj hr wi cK.wait (by rw [h0];rfl) fun aK jA fJ H' K' T'=>hc aK L fJ ⟨_,_,_,H'⟩ K' T'
  ·obtain ⟨i,hi,hop⟩:=hop.resolve_left h0
   have hR:ou S us c=(uk S c x r S.recs[r] iy,told us i 1 0,iy):=by
    unfold ou
    simp only [kE,mj,G_ hr,ne_eq,h0,not_false_eq_true,if_true]
    rw [hop,Int.toNat_natCast,Nat.add_sub_cancel]
   rw [hR] at hc
   exact KJ B du H2 K2 T2 mS kE mj hr wi rfl rfl fun w3 z2 z5 z7 z8 z9 dB cZ z12 de dn dm dk dj dA dz z20 z21 z22 z23 z24 z25 z26 dD z28 dC dM z31 dQ dK dP dO dV z37 ey ew eu eK eJ eI eH z46 eQ eN z49 en z51 iu z53 iF iE iD iC iB gA H3 K3 T3 g4=>HM B gA H3 K3 T3 g4 kE mj hr wi hi hop.symm (by simp [h0]) fun aK L' fJ H' K' T'=>hc aK L' fJ ⟨_,_,_,H'⟩ K' T'
end
end
end Go.aC.Of
