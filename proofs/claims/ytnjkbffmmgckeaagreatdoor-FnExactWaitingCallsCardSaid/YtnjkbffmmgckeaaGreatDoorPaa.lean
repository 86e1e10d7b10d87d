/-
  The trace's side of a company in which one goroutine holds the memory, others sit or walk to their s
-/
import Derived.Conc.TokenTrace
import Derived.Calls
import Derived.Conc.Events
import Derived.Below
set_option linter.all false
set_option maxRecDepth 100000
set_option maxHeartbeats 32000000
open Go renaming World->J',Value->M',TypeId->Q',Program->U',FuncId->w_,Addr->z_
open Nat renaming le_refl->C_,le_trans->D_,lt_of_lt_of_le->E_
open Array renaming getElem?_eq_getElem->H_,getElem?_setIfInBounds_ne->I_,size_setIfInBounds->X_,getElem?_setIfInBounds->Y_,mem_of_getElem?->l_
open List renaming mem_cons->R_
namespace Go.aC
section
open Go Go.Conc
theorem vw {a:Act} {t:Nat} {v:M'} (h:a.eval (.tmp t)=v):a.eval (.tmp t)=v/\a.tmps[t]?.getD undef=v:=⟨h,by rw [<-Array.getD_eq_getD_getElem?];exact h⟩
variable {α:Type} {x:α}
theorem so {a:Option α} {y:α} (h:a=some y) (e:a=some x):y=x:=Option.some.inj (h.symm.trans e)
variable {i:Nat}
theorem cI {a:Array α} (h:a[i]?=some x):i<a.size:=(Array.getElem?_eq_some_iff.1 h).1
structure cS where
 St:Nat->Loc->Prop
 Pv:Nat->Loc->Prop
 Sh:Loc->Prop
 Gr:Loc->Prop
 Dd:Nat->Prop
 on:Prop
 ad:z_
structure cS.Ok (C:cS):Prop where
 apart:∀g g' l,C.Pv g l->g≠g'->¬C.Pv g' l/\¬C.St g' l
 off:∀g l,C.Sh l->¬C.Pv g l/\¬C.St g l
 gr:∀l,C.Gr l->¬C.Sh l/\∀g,¬C.Pv g l/\¬C.St g l
structure Tr (C:cS) (dU rel:Nat->Prop) (n:Nat) (dd:Nat->Nat) (K:Nat->Prop) (t:Trace):Prop where
 clean:∀said,¬Race said t
 known:∀i a,touchAt t i=some a->a.loc.isMemory=true->¬C.Sh a.loc->¬C.Gr a.loc->K i\/∃g,t.g? i=some g/\(C.Pv g a.loc\/a.write=false/\C.St g a.loc)/\(dU g\/∃p,rel p/\Before t i p)
 sh:∀i a,touchAt t i=some a->C.Sh a.loc->(∀g,g<n->¬C.Dd g->Knows t g i)\/(a.kind=.atomic/\(t.g? i=some 0\/¬t.heard i))\/(a.kind=.said/\t.g? i=some 0)
 gr:∀i a,touchAt t i=some a->C.Gr a.loc->Knows t 0 i\/(a.kind=.atomic/\(t.g? i=some 0\/¬t.heard i))\/(a.kind=.said/\t.g? i=some 0)
 wrote:∀i a g,touchAt t i=some a->a.write=true->C.St g a.loc->g<n->Knows t g i
 Hg:∀i a g,touchAt t i=some a->C.Pv g a.loc->g<n->Knows t g i
 deaf:∀g,Deaf t g=dd g
 Hc:∀p,rel p->t.act? p=some (.mark (.releaseMerge C.ad))/\t.heard p
 norel:∀op∈t,∀x,op.act≠.mark (.release x)
inductive qP (C:cS) (dU:Nat->Prop) (n g:Nat) (H heard:Prop) (op:MemOp):Prop
 |mute:op.act.touch?=none->qP C dU n g H heard op
 |hold {b:Touch}:op.act.touch?=some b->H->¬C.Sh b.loc->¬C.Gr b.loc->(∀g',¬C.Pv g' b.loc)->(∀g',C.St g' b.loc->b.write=false)->qP C dU n g H heard op
 |own {b:Touch}:op.act.touch?=some b->dU g->g<n->¬C.Sh b.loc->(C.Pv g b.loc\/b.write=false/\C.St g b.loc)->qP C dU n g H heard op
 |book {b:Touch}:op.act.touch?=some b->g<n->¬C.Dd g->C.Sh b.loc->(b.kind=.atomic/\(g=0\/¬heard)\/b.kind=.said/\g=0)->qP C dU n g H heard op
theorem some_inj {y:α} (h:some x=some y):x=y:=by cases h;rfl
theorem mX {t u:Trace} {x:MemOp} (h:(t++u)[i]?=some x):(i<t.size/\t[i]?=some x)\/∃k,i=t.size+k/\u[k]?=some x:=by
 by_cases hi:i<t.size
 ·exact .inl ⟨hi,by rw [<-getElem?_append_old (u:=u) hi];exact h⟩
 ·refine .inr ⟨i - t.size,by omega, ?_⟩
  rw [Array.getElem?_append_right (by omega)] at h
  exact h
theorem fQ {t:Trace} {g:Nat} (h:t.g? i=some g):Knows t g i:=by
 obtain ⟨op,ho,hg⟩:=Option.map_eq_some_iff.1 h
 exact hg▸knows_own ho
section
variable {C:cS} {dU rel:Nat->Prop} {n:Nat} {dd dd':Nat->Nat} {K K':Nat->Prop} {t u:Trace} {g:Nat} {H:Prop}
theorem Tr.one (X:C.Ok) (T:Tr C dU rel n dd K t) (hu:∀op∈u,op.g=g) (hm:∀(k:Nat) op,u[k]?=some op->qP C dU n g H ((t++u).heard (t.size+k)) op) (hK:∀i,K i->K' i)
 (hH:H->(∀i,K i->Knows t g i)/\∀k,k<u.size->K' (t.size+k)) (hd:∀g',Deaf (t++u) g'=dd' g') (hn:∀op∈u,∀x,op.act≠.mark (.release x)):Tr C dU rel n dd' K' (t++u):=by
 have hlt:∀{p:Nat} {a:MemAct},t.act? p=some a->p<t.size:=fun h=>lt_of_act? h
 have JG:∀(k:Nat) op,u[k]?=some op->(t++u).g? (t.size+k)=some g:=fun k op hk=>by
  rw [g?_of (op:=op) (by rw [at_new];exact hk),hu op (l_ hk)]
 refine ⟨fun said=> ?_,fun i a ha yJ fI lH=> ?_,fun i a ha fI=> ?_,fun i a ha lH=> ?_,fun i a g' ha hw hs iJ=> ?_,fun i a g' ha hs iJ=> ?_,hd,fun p hp=> ?_,fun op hop=>(Array.mem_append.1 hop).elim (T.norel op) (hn op)⟩
 ·refine noRace_append (T.clean said) hu fun i a ha op hop b hb hc=> ?_
  obtain ⟨k,hk⟩:=Array.mem_iff_getElem?.1 hop
  cases hm k op hk with
  |mute h=>rw [h] at hb;cases hb
  |hold h h0 h1 HQ h2 h3=>
   rw [h] at hb;cases hb
   rcases T.known i a ha hc.2.1 (hc.1▸h1) (hc.1▸HQ) with fS|⟨g',_,hp|⟨hw,hs⟩,_⟩
   ·exact (hH h0).1 i fS
   ·exact absurd (hc.1▸hp) (h2 g')
   ·have CV:=h3 g' (hc.1▸hs)
    rcases hc.2.2.1 with x|x
    ·rw [hw] at x;cases x
    ·rw [CV] at x;cases x
  |own h h0 h1 h2 h3=>
   rw [h] at hb;cases hb
   rcases h3 with hp|⟨hw,hs⟩
   ·exact T.Hg i a g ha (hc.1▸hp) h1
   ·rcases hc.2.2.1 with x|x
    ·exact T.wrote i a g ha x (hc.1▸hs) h1
    ·rw [hw] at x;cases x
  |book h h0 ND h1 h2=>
   rw [h] at hb;cases hb
   rcases T.sh i a ha (hc.1▸h1) with fS|⟨ka,_⟩|⟨ka,g0⟩
   ·exact fS g h0 ND
   ·exfalso
    have hcc:=hc.2.2.2
    rw [ka] at hcc
    rcases h2 with ⟨h2,_⟩|⟨h2,_⟩<;>rw [h2] at hcc<;>simp at hcc
   ·rcases h2 with ⟨h2,_⟩|⟨h2,rfl⟩
    ·exfalso
     have hcc:=hc.2.2.2
     rw [ka,h2] at hcc
     simp at hcc
    ·exact fQ g0
 ·obtain ⟨x,hx,iI⟩:=touch_of ha
  rcases mX hx with ⟨hi,yE⟩|⟨k,rfl,hk⟩
  ·rcases T.known i a (by rw [touchAt_of yE];exact iI) yJ fI lH with h|⟨g',h1,h2,h3⟩
   ·exact .inl (hK i h)
   ·exact .inr ⟨g',by rw [g?_old hi];exact h1,h2,h3.imp id fun ⟨p,hp,hb⟩=>⟨p,hp,hb.app u⟩⟩
  ·cases hm k x hk with
   |mute h=>rw [h] at iI;cases iI
   |hold h h0=>exact .inl ((hH h0).2 k (cI hk))
   |own h h0 h1 h2 h3=>rw [h] at iI;cases iI;exact .inr ⟨g,JG k x hk,h3,.inl h0⟩
   |book h h0 ND h1=>rw [h] at iI;cases iI;exact absurd h1 fI
 ·obtain ⟨x,hx,iI⟩:=touch_of ha
  rcases mX hx with ⟨hi,yE⟩|⟨k,rfl,hk⟩
  ·rcases T.sh i a (by rw [touchAt_of yE];exact iI) fI with h|h|h
   ·exact .inl fun g' iJ HG=>(h g' iJ HG).app u
   ·exact .inr (.inl ⟨h.1,h.2.imp (fun q=>by rw [g?_old hi];exact q) (fun q=>by rw [heard_old hi];exact q)⟩)
   ·exact .inr (.inr ⟨h.1,by rw [g?_old hi];exact h.2⟩)
  ·cases hm k x hk with
   |mute h=>rw [h] at iI;cases iI
   |hold h h0 h1=>rw [h] at iI;cases iI;exact absurd fI h1
   |own h h0 h1 h2=>rw [h] at iI;cases iI;exact absurd fI h2
   |book h h0 ND h1 h2=>
    rw [h] at iI;cases iI
    rcases h2 with ⟨h2,h3⟩|⟨h2,h3⟩
    ·exact .inr (.inl ⟨h2,h3.imp (fun q=>by rw [JG k x hk,q]) id⟩)
    ·exact .inr (.inr ⟨h2,by rw [JG k x hk,h3]⟩)
 ·obtain ⟨x,hx,iI⟩:=touch_of ha
  rcases mX hx with ⟨hi,yE⟩|⟨k,rfl,hk⟩
  ·rcases T.gr i a (by rw [touchAt_of yE];exact iI) lH with h|h|h
   ·exact .inl (h.app u)
   ·exact .inr (.inl ⟨h.1,h.2.imp (fun q=>by rw [g?_old hi];exact q) (fun q=>by rw [heard_old hi];exact q)⟩)
   ·exact .inr (.inr ⟨h.1,by rw [g?_old hi];exact h.2⟩)
  ·cases hm k x hk with
   |mute h=>rw [h] at iI;cases iI
   |hold h h0 h1 HQ=>rw [h] at iI;cases iI;exact absurd lH HQ
   |own h h0 h1 h2 h3=>rw [h] at iI;cases iI;exact h3.elim (fun q=>absurd q ((X.gr _ lH).2 g).1) fun q=>absurd q.2 ((X.gr _ lH).2 g).2
   |book h h0 ND h1 h2=>rw [h] at iI;cases iI;exact absurd h1 (X.gr _ lH).1
 ·obtain ⟨x,hx,iI⟩:=touch_of ha
  rcases mX hx with ⟨hi,yE⟩|⟨k,rfl,hk⟩
  ·exact (T.wrote i a g' (by rw [touchAt_of yE];exact iI) hw hs iJ).app u
  ·cases hm k x hk with
   |mute h=>rw [h] at iI;cases iI
   |hold h h0 h1 HQ h2 h3=>rw [h] at iI;cases iI;rw [h3 g' hs] at hw;cases hw
   |own h h0 h1 h2 h3=>
    rw [h] at iI;cases iI
    rcases h3 with hp|⟨gC,_⟩
    ·by_cases e:g=g'
     ·subst e;exact fQ (JG k x hk)
     ·exact absurd hs (X.apart g g' _ hp e).2
    ·rw [hw] at gC;cases gC
   |book h h0 ND h1=>rw [h] at iI;cases iI;exact absurd hs (X.off g' _ h1).2
 ·obtain ⟨x,hx,iI⟩:=touch_of ha
  rcases mX hx with ⟨hi,yE⟩|⟨k,rfl,hk⟩
  ·exact (T.Hg i a g' (by rw [touchAt_of yE];exact iI) hs iJ).app u
  ·cases hm k x hk with
   |mute h=>rw [h] at iI;cases iI
   |hold h h0 h1 HQ h2 h3=>rw [h] at iI;cases iI;exact absurd hs (h2 g')
   |own h h0 h1 h2 h3=>
    rw [h] at iI;cases iI
    by_cases e:g=g'
    ·subst e;exact fQ (JG k x hk)
    ·rcases h3 with hp|⟨_,hq⟩
     ·exact absurd hs (X.apart g g' _ hp e).1
     ·exact absurd hq (X.apart g' g _ hs (Ne.symm e)).2
   |book h h0 ND h1=>rw [h] at iI;cases iI;exact absurd hs (X.off g' _ h1).1
 ·obtain ⟨h1,h2⟩:=T.Hc p hp
  exact ⟨by rw [act?_old (hlt h1)];exact h1,(heard_old (hlt h1)).2 h2⟩
theorem Tr.mute (T:Tr C dU rel n dd K t) (hm:∀op∈u,op.act.touch?=none) (hK:∀i,K i->K' i) (hd:∀g',Deaf (t++u) g'=dd' g') (hn:∀op∈u,∀x,op.act≠.mark (.release x)):Tr C dU rel n dd' K' (t++u):=by
 have hlt:∀{p:Nat} {a:MemAct},t.act? p=some a->p<t.size:=fun h=>lt_of_act? h
 have old:∀{i:Nat} {a:Touch},touchAt (t++u) i=some a->i<t.size/\touchAt t i=some a:=by
  intro i a ha
  obtain ⟨x,hx,iI⟩:=touch_of ha
  rcases getElem?_append_cases hx with ⟨hi,yE⟩|⟨_,TR⟩
  ·exact ⟨hi,by rw [touchAt_of yE];exact iI⟩
  ·rw [hm x TR] at iI;cases iI
 refine ⟨fun said=>noRace_appendMute (T.clean said) hm,fun i a ha yJ fI lH=> ?_,fun i a ha fI=> ?_,fun i a ha lH=> ?_,fun i a g' ha hw hs iJ=>(T.wrote i a g' (old ha).2 hw hs iJ).app u,fun i a g' ha hs iJ=>(T.Hg i a g' (old ha).2 hs iJ).app u,hd,fun p hp=> ?_,fun op hop=>(Array.mem_append.1 hop).elim (T.norel op) (hn op)⟩
 ·obtain ⟨hi,ha'⟩:=old ha
  rcases T.known i a ha' yJ fI lH with h|⟨g',h1,h2,h3⟩
  ·exact .inl (hK i h)
  ·exact .inr ⟨g',by rw [g?_old hi];exact h1,h2,h3.imp id fun ⟨p,hp,hb⟩=>⟨p,hp,hb.app u⟩⟩
 ·obtain ⟨hi,ha'⟩:=old ha
  rcases T.sh i a ha' fI with h|h|h
  ·exact .inl fun g' iJ HG=>(h g' iJ HG).app u
  ·exact .inr (.inl ⟨h.1,h.2.imp (fun q=>by rw [g?_old hi];exact q) (fun q=>by rw [heard_old hi];exact q)⟩)
  ·exact .inr (.inr ⟨h.1,by rw [g?_old hi];exact h.2⟩)
 ·obtain ⟨hi,ha'⟩:=old ha
  rcases T.gr i a ha' lH with h|h|h
  ·exact .inl (h.app u)
  ·exact .inr (.inl ⟨h.1,h.2.imp (fun q=>by rw [g?_old hi];exact q) (fun q=>by rw [heard_old hi];exact q)⟩)
  ·exact .inr (.inr ⟨h.1,by rw [g?_old hi];exact h.2⟩)
 ·obtain ⟨h1,h2⟩:=T.Hc p hp
  exact ⟨by rw [act?_old (hlt h1)];exact h1,(heard_old (hlt h1)).2 h2⟩
theorem Tr.n9 {Fp bZ:Nat->Prop} (T:Tr C dU rel n dd K t) (hr:∀p,bZ p->rel p\/(t.act? p=some (.mark (.releaseMerge C.ad))/\t.heard p))
 (h:∀i a,touchAt t i=some a->a.loc.isMemory=true->¬C.Sh a.loc->¬C.Gr a.loc->(K i->K' i\/∃g,t.g? i=some g/\(C.Pv g a.loc\/a.write=false/\C.St g a.loc)/\(Fp g\/∃p,bZ p/\Before t i p))/\
  ∀g,t.g? i=some g->(dU g\/∃p,rel p/\Before t i p)->K' i\/(Fp g\/∃p,bZ p/\Before t i p)):Tr C Fp bZ n dd K' t:=by
 refine ⟨T.clean,fun i a ha hm hs lH=> ?_,T.sh,T.gr,T.wrote,T.Hg,T.deaf,fun p hp=>(hr p hp).elim (T.Hc p) id,T.norel⟩
 obtain ⟨h1,h2⟩:=h i a ha hm hs lH
 rcases T.known i a ha hm hs lH with k|⟨g,k1,k2,k3⟩
 ·exact h1 k
 ·rcases h2 g k1 k3 with k4|k4
  ·exact .inl k4
  ·exact .inr ⟨g,k1,k2,k4⟩
variable {h j:Nat}
theorem Tr.both (T:Tr C dU rel n dd K t) (hh:dd h=0) (hj:dd j=0) (fh:w_) (ph:String) (fj:w_) (pj:String) (c k:Nat):
 ∀i,Knows t h i\/Knows t j i->Knows (t++met h j fh ph fj pj c k 0) h i/\Knows (t++met h j fh ph fj pj c k 0) j i:=by
 generalize hu:met h j fh ph fj pj c k 0=u
 have hq:∀g,∀op∈u,∀d,deafStep g d op=d:=fun g=>hu▸met_quiet h j fh ph fj pj c k 0 g
 have e0:(t++u)[t.size]?=some {g:=h,fn:=fh,pos:=ph,act:=.send c k}:=by subst hu;simp [met]
 have e1:(t++u)[t.size+1]?=some {g:=j,fn:=fj,pos:=pj,act:=.recv c k 0}:=by subst hu;simp [met]
 have e2:(t++u)[t.size+2]?=some {g:=h,fn:=fh,pos:=ph,act:=.sendDone c k}:=by subst hu;simp [met]
 have e3:(t++u)[t.size+3]?=some {g:=j,fn:=fj,pos:=pj,act:=.recvDone c k}:=by subst hu;simp [met]
 have hsz:u.size=4:=by subst hu;simp [met]
 have hear:∀(x:Nat) (m:Nat) op,m<=u.size->(t++u)[t.size+m]?=some op->op.g=x->dd x=0->(t++u).heard (t.size+m):=fun x m op hm ho hx hd=>
  ⟨x,by rw [g?_of ho,hx],by rw [deaf_quiet (hq x) m hm,T.deaf x,hd]⟩
 have VI:HappensBefore (t++u) t.size (t.size+3):=Relation.TransGen.single (.inr ⟨.handOver (act?_of e0) (act?_of e3),hear h 0 _ (by omega) e0 rfl hh,hear j 3 _ (by omega) e3 rfl hj⟩)
 have VH:HappensBefore (t++u) (t.size+1) (t.size+2):=Relation.TransGen.single (.inr ⟨.room (act?_of e1) (by rw [act?_of e2];rfl),hear j 1 _ (by omega) e1 rfl hj,hear h 2 _ (by omega) e2 rfl hh⟩)
 rintro i (hk|hk)
 ·exact ⟨hk.app u,⟨t.size+3,_,e3,rfl,.inr ((hk.hb_new (C_ _) e0 rfl).trans VI)⟩⟩
 ·exact ⟨⟨t.size+2,_,e2,rfl,.inr ((hk.hb_new (by omega) e1 rfl).trans VH)⟩,hk.app u⟩
theorem Tr.meet (T:Tr C dU rel n dd K t) (hK:∀i,K i->Knows t h i\/Knows t j i) (hh:dd h=0) (hj:dd j=0) (fh:w_) (ph:String) (fj:w_) (pj:String) (c k:Nat):
 Tr C (fun g=>dU g/\g≠h/\g≠j) rel n dd (fun i=>Knows (t++met h j fh ph fj pj c k 0) h i/\Knows (t++met h j fh ph fj pj c k 0) j i) (t++met h j fh ph fj pj c k 0):=by
 have both:=T.both hh hj fh ph fj pj c k
 revert both
 generalize hu:met h j fh ph fj pj c k 0=u
 intro both
 have hn:∀op∈u,op.act.touch?=none:=hu▸met_mute h j fh ph fj pj c k 0
 have hq:∀g,∀op∈u,∀d,deafStep g d op=d:=fun g=>hu▸met_quiet h j fh ph fj pj c k 0 g
 refine (T.mute (K':=fun i=>Knows (t++u) h i/\Knows (t++u) j i) (dd':=dd) hn (fun i hi=>both i (hK i hi)) (fun g=>(Deaf_quiet (hq g)).trans (T.deaf g)) (fun op hop=> ?_)).n9 (fun p hp=>.inl hp) (fun i a ha hm hs _=>⟨fun hk=>.inl hk,fun g hg hl=> ?_⟩)
 ·subst hu
  simp only [met,List.mem_toArray,R_,List.not_mem_nil,or_false] at hop
  intro x
  rcases hop with rfl|rfl|rfl|rfl<;>simp
 ·rcases hl with hl|hl
  ·by_cases e:g=h\/g=j
   ·left
    obtain ⟨x,hx,iI⟩:=touch_of ha
    rcases getElem?_append_cases hx with ⟨hi,yE⟩|⟨_,TR⟩
    ·have hk:Knows t g i:=fQ (by rw [<-g?_old (u:=u) hi];exact hg)
     rcases e with rfl|rfl
     ·exact both i (.inl hk)
     ·exact both i (.inr hk)
    ·rw [hn x TR] at iI;cases iI
   ·exact .inr (.inl ⟨hl,fun x=>e (.inl x),fun x=>e (.inr x)⟩)
  ·exact .inr (.inr hl)
def cS.hire (C:cS) (n:Nat) (S Q:Loc->Prop):cS:={St:=fun g l=>C.St g l\/g=n/\S l,Pv:=fun g l=>C.Pv g l\/g=n/\Q l,Sh:=C.Sh,Gr:=C.Gr,Dd:=C.Dd,on:=C.on,ad:=C.ad}
variable {S:Loc->Prop}
theorem Tr.hire {Q:Loc->Prop} (T:Tr C dU rel n dd K t) (hK:∀i,K i->Knows t h i) (hlt:h<n) (hhd:¬C.Dd h) (hh:dd h=0) (hc:dd n=0) (lG:∀g l,C.St g l\/C.Pv g l->g<n)
 (hS:∀l,S l->l.isMemory=true/\¬C.Sh l/\¬C.Gr l/\∀g,¬C.Pv g l) (hQ:∀l,Q l->l.isMemory=true/\¬C.Sh l/\¬C.Gr l/\∀g,¬C.Pv g l/\¬C.St g l) (fh:w_) (ph:String) (fc:w_)
 (hK':∀i,Knows (t++#[{g:=h,fn:=fh,pos:=ph,act:=.go n},{g:=n,fn:=fc,pos:=ph,act:=.start}]) h i->Knows (t++#[{g:=h,fn:=fh,pos:=ph,act:=.go n},{g:=n,fn:=fc,pos:=ph,act:=.start}]) n i->K' i):
 Tr (C.hire n S Q) (fun g=>dU g\/g=n) rel (n+1) dd K' (t++#[{g:=h,fn:=fh,pos:=ph,act:=.go n},{g:=n,fn:=fc,pos:=ph,act:=.start}]):=by
 generalize hu:(#[{g:=h,fn:=fh,pos:=ph,act:=.go n},{g:=n,fn:=fc,pos:=ph,act:=.start}]:Trace)=u at hK' ⊢
 have hn:∀op∈u,op.act.touch?=none:=by
  intro op hop
  subst hu
  simp only [List.mem_toArray,R_,List.not_mem_nil,or_false] at hop
  rcases hop with rfl|rfl<;>rfl
 have hq:∀g,∀op∈u,∀d,deafStep g d op=d:=by
  intro g op hop d
  subst hu
  simp only [List.mem_toArray,R_,List.not_mem_nil,or_false] at hop
  rcases hop with rfl|rfl<;>rfl
 have e0:(t++u)[t.size]?=some {g:=h,fn:=fh,pos:=ph,act:=.go n}:=by subst hu;simp
 have e1:(t++u)[t.size+1]?=some {g:=n,fn:=fc,pos:=ph,act:=.start}:=by subst hu;simp
 have edge:HappensBefore (t++u) t.size (t.size+1):=
  Relation.TransGen.single (.inr ⟨.spawn (act?_of e0) (act?_of e1) (g?_of e1),⟨h,g?_of e0,by rw [deaf_old (C_ _)];exact (T.deaf h).trans hh⟩,⟨n,g?_of e1,by rw [deaf_quiet (hq n) 1 (by subst hu;simp)];exact (T.deaf n).trans hc⟩⟩)
 have pass:∀{i},Knows t h i->Knows (t++u) n i:=fun hk=>⟨t.size+1,_,e1,rfl,.inr ((hk.hb_new (C_ _) e0 rfl).trans edge)⟩
 have old:∀{i:Nat} {a:Touch},touchAt (t++u) i=some a->i<t.size/\touchAt t i=some a:=by
  intro i a ha
  obtain ⟨x,hx,iI⟩:=touch_of ha
  rcases getElem?_append_cases hx with ⟨hi,yE⟩|⟨_,TR⟩
  ·exact ⟨hi,by rw [touchAt_of yE];exact iI⟩
  ·rw [hn x TR] at iI;cases iI
 have T':=T.mute (K':=K') (dd':=dd) hn (fun i hi=>hK' i ((hK i hi).app u) (pass (hK i hi))) (fun g=>(Deaf_quiet (hq g)).trans (T.deaf g)) (fun op hop=>by
  subst hu
  simp only [List.mem_toArray,R_,List.not_mem_nil,or_false] at hop
  intro x
  rcases hop with rfl|rfl<;>simp)
 refine ⟨T'.clean,fun i a ha hm hs lH=> ?_,fun i a ha hs=> ?_,T'.gr,fun i a g ha hw hs hg=> ?_,fun i a g ha hs hg=> ?_,T'.deaf,T'.Hc,T'.norel⟩
 ·rcases T'.known i a ha hm hs lH with k|⟨g,k1,k2,k3⟩
  ·exact .inl k
  ·exact .inr ⟨g,k1,k2.imp .inl fun x=>⟨x.1,.inl x.2⟩,k3.imp .inl id⟩
 ·obtain ⟨hi,ha'⟩:=old ha
  rcases T.sh i a ha' hs with k|k|k
  ·refine .inl fun g hg hd=> ?_
   by_cases e:g=n
   ·subst e;exact pass (k h hlt hhd)
   ·exact (k g (by omega) hd).app u
  ·exact .inr (.inl ⟨k.1,k.2.imp (fun q=>by rw [g?_old hi];exact q) (fun q=>by rw [heard_old hi];exact q)⟩)
  ·exact .inr (.inr ⟨k.1,by rw [g?_old hi];exact k.2⟩)
 ·rcases hs with hs|⟨rfl,hs⟩
  ·exact T'.wrote i a g ha hw hs (lG g _ (.inl hs))
  ·obtain ⟨q1,q2,Yq,q3⟩:=hS _ hs
   rcases T.known i a (old ha).2 q1 q2 Yq with k|⟨g',_,k|⟨k,_⟩,_⟩
   ·exact pass (hK i k)
   ·exact absurd k (q3 g')
   ·rw [hw] at k;cases k
 ·rcases hs with hs|⟨rfl,hs⟩
  ·exact T'.Hg i a g ha hs (lG g _ (.inr hs))
  ·obtain ⟨q1,q2,Yq,q3⟩:=hQ _ hs
   rcases T.known i a (old ha).2 q1 q2 Yq with k|⟨g',_,k|⟨_,k⟩,_⟩
   ·exact pass (hK i k)
   ·exact absurd k (q3 g').1
   ·exact absurd k (q3 g').2
theorem Tr.release (T:Tr C dU rel n dd K t) (hK:∀i,K i->K' i) (hg:dd g=0) (fn:w_) (pos:String) (hu:u=#[{g:=g,fn:=fn,pos:=pos,act:=.mark (.releaseMerge C.ad)}]):
 Tr C (fun x=>dU x/\x≠g) (fun p=>rel p\/p=t.size) n dd K' (t++u)/\∀i,Knows t g i->Before (t++u) i t.size:=by
 have e0:(t++u)[t.size]?=some {g:=g,fn:=fn,pos:=pos,act:=.mark (.releaseMerge C.ad)}:=by subst hu;simp
 have hn:∀op∈u,op.act.touch?=none:=by
  intro op hop
  subst hu
  simp only [List.mem_toArray,R_,List.not_mem_nil,or_false] at hop
  subst hop;rfl
 have hq:∀g,∀op∈u,∀d,deafStep g d op=d:=by
  intro g op hop d
  subst hu
  simp only [List.mem_toArray,R_,List.not_mem_nil,or_false] at hop
  subst hop;rfl
 have bef:∀i,Knows t g i->Before (t++u) i t.size:=fun i hk=>.inr (hk.hb_new (C_ _) e0 rfl)
 refine ⟨(T.mute (K':=K') (dd':=dd) hn hK (fun g'=>(Deaf_quiet (hq g')).trans (T.deaf g')) (fun op hop=> ?_)).n9 (fun p hp=> ?_) (fun i a ha hm hs _=>⟨fun hk=>.inl hk,fun x hx hl=> ?_⟩),bef⟩
 ·subst hu
  simp only [List.mem_toArray,R_,List.not_mem_nil,or_false] at hop
  intro x;subst hop;simp
 ·rcases hp with hp|rfl
  ·exact .inl hp
  ·exact .inr ⟨act?_of e0,g,g?_of e0,by rw [deaf_old (C_ _)];exact (T.deaf g).trans hg⟩
 ·rcases hl with hl|⟨p,hp,hb⟩
  ·by_cases e:x=g
   ·subst e
    obtain ⟨y,hy,hya⟩:=touch_of ha
    rcases getElem?_append_cases hy with ⟨hi,_⟩|⟨_,hyu⟩
    ·exact .inr (.inr ⟨t.size,.inr rfl,bef i (fQ (by rw [<-g?_old (u:=u) hi];exact hx))⟩)
    ·rw [hn y hyu] at hya;cases hya
   ·exact .inr (.inl ⟨hl,e⟩)
  ·exact .inr (.inr ⟨p,.inl hp,hb⟩)
theorem Tr.acquire (T:Tr C dU rel n dd K t) (hK:∀i,K i->Knows t 0 i\/∃p,rel p/\Before t i p) (hg:dd 0=0) (fn:w_) (pos:String) (hu:u=#[{g:=0,fn:=fn,pos:=pos,act:=.mark (.acquire C.ad)}]):
 Tr C dU (fun _=>False) n dd (Knows (t++u) 0) (t++u):=by
 have e0:(t++u)[t.size]?=some {g:=0,fn:=fn,pos:=pos,act:=.mark (.acquire C.ad)}:=by subst hu;simp
 have hn:∀op∈u,op.act.touch?=none:=by
  intro op hop
  subst hu
  simp only [List.mem_toArray,R_,List.not_mem_nil,or_false] at hop
  subst hop;rfl
 have hq:∀g,∀op∈u,∀d,deafStep g d op=d:=by
  intro g op hop d
  subst hu
  simp only [List.mem_toArray,R_,List.not_mem_nil,or_false] at hop
  subst hop;rfl
 have edge:∀p,rel p->HappensBefore (t++u) p t.size:=by
  intro p hp
  obtain ⟨h1,h2⟩:=T.Hc p hp
  have hlt:=lt_of_act? h1
  refine Relation.TransGen.single (.inr ⟨.marked hlt (.inr (by rw [act?_old hlt];exact h1)) (act?_of e0) (fun k _ hk ho=> ?_),(heard_old hlt).2 h2,⟨0,g?_of e0,by rw [deaf_old (C_ _)];exact (T.deaf 0).trans hg⟩⟩)
  rw [act?_old hk] at ho
  obtain ⟨op,Gd,Uo⟩:=Option.map_eq_some_iff.1 (show (t[k]?).map (·.act)=_ from ho)
  exact T.norel op (l_ Gd) _ Uo
 have now:∀i,(∃p,rel p/\Before t i p)->Knows (t++u) 0 i:=fun i ⟨p,hp,hb⟩=>⟨t.size,_,e0,rfl,.inr ((hb.app u).hb (edge p hp))⟩
 refine (T.mute (K':=Knows (t++u) 0) (dd':=dd) hn (fun i hi=>(hK i hi).elim (fun x=>x.app u) (now i)) (fun g'=>(Deaf_quiet (hq g')).trans (T.deaf g')) (fun op hop=> ?_)).n9 (fun p hp=>hp.elim) (fun i a ha hm hs _=>⟨fun hk=>.inl hk,fun x hx hl=> ?_⟩)
 ·subst hu
  simp only [List.mem_toArray,R_,List.not_mem_nil,or_false] at hop
  intro x;subst hop;simp
 ·rcases hl with hl|⟨p,hp,hb⟩
  ·exact .inr (.inl hl)
  ·exact .inl ⟨t.size,_,e0,rfl,.inr (hb.hb (edge p hp))⟩
theorem Tr.handed (T:Tr C dU rel n dd (Knows t 0) t) (hn:0<n) (ZE:¬C.Dd 0) (hL:∀g,¬dU g) (hr:∀p,¬rel p):t.HandedOver:=by
 intro i g hg hne hc
 obtain ⟨x,hx,hm,hk⟩:=hc
 have fin:Knows t 0 i->∃j,t.g? j=some 0/\HappensBefore t i j:=by
  rintro ⟨q,z,hq,hz,hb⟩
  rcases hb with rfl|hb
  ·rw [g?_of hq,hz] at hg
   exact absurd (some_inj hg).symm hne
  ·exact ⟨q,by rw [g?_of hq,hz],hb⟩
 by_cases hs:C.Sh x.loc
 ·rcases T.sh i x hx hs with h|⟨h1,h2⟩|⟨_,h2⟩
  ·exact fin (h 0 hn ZE)
  ·rcases h2 with h2|h2
   ·rw [hg] at h2;exact absurd (some_inj h2) hne
   ·rcases hk with hk|hk
    ·exact absurd h1 hk
    ·exact absurd hk h2
  ·rw [hg] at h2;exact absurd (some_inj h2) hne
 ·by_cases lH:C.Gr x.loc
  ·rcases T.gr i x hx lH with h|⟨h1,h2⟩|⟨_,h2⟩
   ·exact fin h
   ·rcases h2 with h2|h2
    ·rw [hg] at h2;exact absurd (some_inj h2) hne
    ·rcases hk with hk|hk
     ·exact absurd h1 hk
     ·exact absurd hk h2
   ·rw [hg] at h2;exact absurd (some_inj h2) hne
  rcases T.known i x hx hm hs lH with h|⟨g',_,_,h|⟨p,h,_⟩⟩
  ·exact fin h
  ·exact absurd h (hL g')
  ·exact absurd h (hr p)
def cS.anew (C:cS) (n:Nat) (S:Loc->Prop) (on:Prop) (ad:z_):cS:={St:=fun _ _=>False,Pv:=fun _ _=>False,Sh:=S,Gr:=fun l=>C.Gr l\/C.Sh l,Dd:=fun g=>0<g/\g<n,on:=on,ad:=ad}
theorem Tr.anew {on:Prop} {ad:z_} (T:Tr C dU rel n dd (Knows t 0) t) (hn:0<n) (ZE:¬C.Dd 0) (hL:∀g,¬dU g) (hr:∀p,¬rel p) (hS:∀l,S l->l.isMemory=true/\¬C.Sh l/\¬C.Gr l):
 Tr (C.anew n S on ad) (fun _=>False) (fun _=>False) n dd (Knows t 0) t:=by
 have know:∀i a,touchAt t i=some a->a.loc.isMemory=true->¬C.Sh a.loc->¬C.Gr a.loc->Knows t 0 i:=fun i a ha hm hs hg=>by
  rcases T.known i a ha hm hs hg with h|⟨g',_,_,h|⟨p,h,_⟩⟩
  ·exact h
  ·exact absurd h (hL g')
  ·exact absurd h (hr p)
 refine ⟨T.clean,fun i a ha hm _ hg=>.inl (know i a ha hm (fun h=>hg (.inr h)) (fun h=>hg (.inl h))),fun i a ha hs=>.inl fun g hg hd=> ?_,fun i a ha hg=> ?_,fun i a g ha _ h=>h.elim,fun i a g ha h=>h.elim,T.deaf,fun p hp=>hp.elim,T.norel⟩
 ·obtain ⟨h1,h2,h3⟩:=hS _ hs
  obtain rfl:g=0:=by
   rcases Nat.eq_zero_or_pos g with h|h
   ·exact h
   ·exact absurd ⟨h,hg⟩ hd
  exact know i a ha h1 h2 h3
 ·rcases hg with hg|hg
  ·exact T.gr i a ha hg
  ·rcases T.sh i a ha hg with h|h|h
   ·exact .inl (h 0 hn ZE)
   ·exact .inr (.inl h)
   ·exact .inr (.inr h)
def cS.drop (C:cS) (i:Nat):cS:={St:=fun g l=>g≠i/\C.St g l,Pv:=fun g l=>g≠i/\C.Pv g l,Sh:=C.Sh,Gr:=C.Gr,Dd:=C.Dd,on:=C.on,ad:=C.ad}
theorem Tr.drop (T:Tr C dU rel n dd K t) (hi:¬dU i) (hr:∀p x a,rel p->Before t x p->t.g? x=some i->touchAt t x=some a->K x):Tr (C.drop i) dU rel n dd K t:=by
 refine ⟨T.clean,fun x a ha hm hs hg=> ?_,T.sh,T.gr,fun x a g ha hw hs=>T.wrote x a g ha hw hs.2,fun x a g ha hs=>T.Hg x a g ha hs.2,T.deaf,T.Hc,T.norel⟩
 rcases T.known x a ha hm hs hg with h|⟨g,h1,h2,h3⟩
 ·exact .inl h
 ·by_cases e:g=i
  ·subst e
   rcases h3 with h3|⟨p,hp,hb⟩
   ·exact absurd h3 hi
   ·exact .inl (hr p x a hp hb h1 ha)
  ·exact .inr ⟨g,h1,h2.imp (fun h=>⟨e,h⟩) (fun h=>⟨h.1,e,h.2⟩),h3⟩
end
end
section
open Go
def gd (f:Nat × Nat) (k:Nat):Bool:=f.1<=k&&k<f.2
def aR:Obj->Bool
 | .cells ..=>true
 |_=>false
def MR:Obj->Bool
 | .view a _=>a.spot.isNone
 | .pending ..=>true
 |_=>false
inductive na:Obj->Obj->Prop
 |view (a a':z_) (t:Q'):na (.view a t) (.view a' t)
 |late (c:Array M') (e:Q'):na (.coro none) (.pending c e)
 |map (es:Array MapEntry) (clock:Nat):na (.coro none) (.map es clock)
 |chan (cap:Nat) (buf:Array M') (cl:Bool) (s r:Nat) (tm:Bool):na (.chan cap buf true s r tm) (.chan cap buf cl s r tm)
def isMap:Obj->Bool
 | .map ..=>true
 |_=>false
variable {o':Obj}
theorem na.cells {o:Obj} (h:na o o'):aR o=false/\aR o'=false:=by cases h<;>exact ⟨rfl,rfl⟩
theorem na.Jd {o:Obj} (h:na o o'):o'.isChan=o.isChan:=by cases h<;>rfl
theorem na.TH {o:Obj} (h:na o o'):isMap o=false:=by cases h<;>rfl
theorem uD {o:Obj} (h:isMap o=true):aR o=false/\o.isChan=false:=by cases o<;>first|(cases h;done)|exact ⟨rfl,rfl⟩
def pL:Halt->Prop
 | .panic _| .stuck _=>True
 | .unsupported (.initOrder _)=>False
 | .unsupported _=>True
 |_=>False
def LM {α:Type}:Result α->Prop
 | .ok _ _=>True
 | .halt h _=>pL h
inductive LN:Obj->Obj->Prop
 |same (o:Obj):LN o o
 |blind {o o':Obj} (h:na o o'):LN o o'
 |cut {c c':Array M'} {e:Q'} {f f':Nat × Nat} (hs:c.size<=c'.size) (hc:∀k,k<c.size->c'[k]?=c[k]?) (hf:∀k,gd f' k=true->gd f k=true):LN (.cells c e f) (.cells c' e f')
structure bI (wl w:J'):Prop where
 size:wl.heap.size=w.heap.size
 obj:∀(b:Nat) (o o':Obj),wl.heap[b]?=some o->w.heap[b]?=some o'->LN o o'
 os:wl.os=w.os
 out:wl.output=w.output
 ic:∀(b:Nat) (o:Obj),wl.heap[b]?=some o->MR o=false
variable {wl w:J'}
theorem bI.self (k:bI wl w):bI wl wl:=⟨rfl,fun _ _ _ h h'=>by rw [h] at h';cases h';exact .same _,rfl,rfl,k.ic⟩
variable {b:Nat}
theorem bI.get (h:bI wl w) {o:Obj} (hb:wl.heap[b]?=some o):∃o',w.heap[b]?=some o'/\LN o o':=by
 have hl:b<w.heap.size:=h.size▸(cI hb)
 exact ⟨_,H_ hl,h.obj b o _ hb (H_ hl)⟩
structure oA (wl w w':J'):Prop where
 size:w.heap.size<=w'.heap.size
 cells:∀(b:Nat) (c:Array M') (e:Q') (f:Nat × Nat),w.heap[b]?=some (.cells c e f)->∃c',w'.heap[b]?=some (.cells c' e f)/\c'.size=c.size/\∀k,(wl.cell? ⟨b,k,none⟩=none\/wl.frozen? ⟨b,k,none⟩=true)->c'[k]?=c[k]?
 chan:∀(b:Nat) (o:Obj),w.heap[b]?=some o->o.isChan=true->w'.heap[b]?=some o
 gz:∀(b:Nat) (o:Obj),w.heap[b]?=some o->aR o=false->∃o',w'.heap[b]?=some o'/\aR o'=false/\(o.isChan=false->o'.isChan=false)/\(isMap o=true->isMap o'=true)
 still:∀(b:Nat) (o:Obj),wl.heap[b]?=some o->aR o=false->isMap o=false->w'.heap[b]?=w.heap[b]?
 os:w'.os=w.os
 out:w'.output=w.output
 tape:w'.tape=w.tape
theorem oA.refl (wl w:J'):oA wl w w:=⟨C_ _,fun _ c _ _ h=>⟨c,h,rfl,fun _ _=>rfl⟩,fun _ _ h _=>h,fun _ o h ho=>⟨o,h,ho,id,id⟩,fun _ _ _ _ _=>rfl,rfl,rfl,rfl⟩
theorem oA.there (h:oA wl wl w) {k:Nat} (hb:b<wl.heap.size):(w.cell? ⟨b,k,none⟩=none↔wl.cell? ⟨b,k,none⟩=none)/\w.frozen? ⟨b,k,none⟩=wl.frozen? ⟨b,k,none⟩:=by
 obtain ⟨o,ho⟩:∃o,wl.heap[b]?=some o:=⟨_,H_ hb⟩
 cases hc:aR o with
 |true=>
  cases o<;>simp [aR] at hc
  obtain ⟨c',h1,h2,_⟩:=h.cells b _ _ _ ho
  simp [World.cell?,World.frozen?,ho,h1,h2]
 |false=>
  obtain ⟨o',h1,h2,_⟩:=h.gz b o ho hc
  cases o<;>simp [aR] at hc<;>cases o'<;>simp [aR] at h2<;>simp [World.cell?,World.frozen?,ho,h1]
variable {wm:J'}
theorem oA.trans {w1 w2:J'} (hl:oA wl wl wm) (hs:wl.heap.size=w.heap.size) (h:oA wl w w1) (h':oA wm w1 w2):oA wl w w2:=by
 refine ⟨D_ h.size h'.size,fun b c e f hb=> ?_,fun b o hb ho=>h'.chan b o (h.chan b o hb ho) ho,fun b o hb ho=> ?_,fun b o hb ho hm=>(h'.still b o ((hl.still b o hb ho hm).trans hb) ho hm).trans (h.still b o hb ho hm),h'.os.trans h.os,h'.out.trans h.out,h'.tape.trans h.tape⟩
 ·obtain ⟨c1,h1,h2,h3⟩:=h.cells b c e f hb
  obtain ⟨c2,h4,h5,h6⟩:=h'.cells b c1 e f h1
  have hlt:b<wl.heap.size:=hs▸(cI hb)
  refine ⟨c2,h4,h5.trans h2,fun k hk=>(h6 k ?_).trans (h3 k hk)⟩
  obtain ⟨e1,e2⟩:=hl.there (k:=k) hlt
  rcases hk with hk|hk
  ·exact .inl (e1.2 hk)
  ·exact .inr (e2.trans hk)
 ·obtain ⟨o1,h1,h2,h3⟩:=h.gz b o hb ho
  obtain ⟨o2,h4,h5,h6⟩:=h'.gz b o1 h1 h2
  exact ⟨o2,h4,h5,fun h=>h6.1 (h3.1 h),fun h=>h6.2 (h3.2 h)⟩
def vR (wl:J') (top:Nat) (e:Event):Prop:=
 match e.loc with
 | .cell a=>a.block<top/\e.sync=false/\(wl.heap.size<=a.block\/((∃v,wl.cell? a=some v)/\(e.write=true->wl.frozen? a=false)))
 | .obj r=>r<top/\(∀o:Obj,wl.heap[r]?=some o->aR o=false)/\(e.sync=true->e.write=false)
 | .mark .noRoom=>True
 |_=>False
def _root_.Go.Result.wd {α:Type}:Result α->J'
 | .ok _ w=>w
 | .halt _ w=>w
def _root_.Go.Result.D6 {α:Type} (w':J'):Result α->Result α
 | .ok a _=>.ok a w'
 | .halt h _=>.halt h w'
def rE {α:Type}:Result α->Prop
 | .ok _ _=>True
 | .halt (.panic _) _=>True
 |_=>False
structure Same {α:Type} (P:U') (s:Sem α) (wl w:J') (es:Array Event) (w':J'):Prop where
 run:s.runT P w es=((s.runT P wl es).1.D6 w',(s.runT P wl es).2)
 weak:bI (s.runT P wl es).1.wd w'
 mono:wl.drawn<=(s.runT P wl es).1.wd.drawn
 drawn:w'.drawn+wl.drawn=w.drawn+(s.runT P wl es).1.wd.drawn
 upd:oA wl w w'
 gR:oA wl wl (s.runT P wl es).1.wd
 evs:∃l:List Event,(s.runT P wl es).2=es++l.toArray/\∀e∈l,vR wl (s.runT P wl es).1.wd.heap.size e
 heap:wl.heap=w.heap->(s.runT P wl es).1.wd.heap=w'.heap
def x9 {α:Type} (P:U') (C:J'->Prop) (s:Sem α):Prop:=
 ∀wl w es,C wl->bI wl w->LM (s.runT P wl es).1/\(rE (s.runT P wl es).1->(∀i,wl.drawn+i<(s.runT P wl es).1.wd.drawn->w.tape (w.drawn+i)=wl.tape (wl.drawn+i))->∃w',Same P s wl w es w')
def ag {α:Type} (P:U') (s:Sem α):Prop:=x9 P (fun _=>True) s
variable {α:Type} {P:U'} {C:J'->Prop}
theorem ag.c {s:Sem α} (h:ag P s):x9 P C s:=fun wl w es _=>h wl w es trivial
def LI (C:J'->Prop):Prop:=∀wl wm,C wl->oA wl wl wm->C wm
theorem vR.mono {t t':Nat} {e:Event} (h:vR wl t e) (ht:t<=t'):vR wl t' e:=by
 unfold vR at *
 split<;>simp_all
 ·omega
 ·omega
theorem vR.back {t:Nat} {e:Event} (h:vR wm t e) (hl:oA wl wl wm):vR wl t e:=by
 unfold vR at *
 split<;>simp_all
 ·rename_i a _
  by_cases hb:wl.heap.size<=a.block
  ·exact .inl hb
  ·refine .inr ?_
   have A8:a.block<wl.heap.size:=by omega
   rcases h.2.2 with h3|⟨⟨v,hv⟩,h4⟩
   ·have:=hl.size;omega
   ·have hsp:a.spot=none:=by
     cases hs:a.spot with
     |none=>rfl
     |some x=>
      unfold World.cell? at hv
      split at hv<;>simp [hs] at hv
    obtain ⟨bb,oo,ss⟩:=a
    simp only at hsp;subst hsp
    obtain ⟨e1,e2⟩:=hl.there (b:=bb) (k:=oo) A8
    refine ⟨?_,fun hw=>e2▸h4 hw⟩
    cases hcv:wl.cell? ⟨bb,oo,none⟩ with
    |some v'=>exact ⟨v',rfl⟩
    |none=>rw [e1.2 hcv] at hv;cases hv
 ·rename_i r _
  intro o ho
  cases hc:aR o with
  |false=>rfl
  |true=>
   cases o<;>simp [aR] at hc
   obtain ⟨c',h1,_⟩:=hl.cells _ _ _ _ ho
   have:=h.2.1 _ h1
   simp [aR] at this
theorem bo (a:α):ag P (Sem.pure a):=by
 intro wl w es _ hw
 refine ⟨trivial,fun _ _=> ?_⟩
 exact ⟨w,rfl,hw,C_ _,by simp [Sem.runT,Result.wd],oA.refl _ _,oA.refl _ _,⟨[],by simp [Sem.runT],by simp⟩,fun h=>h⟩
theorem bd (h:Halt) (hh:pL h):ag P (Sem.halt h:Sem α):=by
 intro wl w es _ hw
 refine ⟨hh,fun _ _=> ?_⟩
 exact ⟨w,rfl,hw,C_ _,by simp [Sem.runT,Result.wd],oA.refl _ _,oA.refl _ _,⟨[],by simp [Sem.runT],by simp⟩,fun h=>h⟩
variable {β:Type}
theorem zw {x:Sem α} {f:α->Sem β} {es:Array Event} (h:rE ((x.bind f).runT P w es).1):rE (x.runT P w es).1:=by
 rw [Sem.runT_bind'] at h
 cases hx:x.runT P w es with
 |mk r es'=>
  rw [hx] at h
  cases r with
  |ok a w'=>trivial
  |halt hh w'=>cases hh<;>exact h
theorem mK {x:Sem α} {f:α->Sem β} (hC:LI C) (hx:x9 P C x) (hf:∀a,x9 P C (f a)):x9 P C (x.bind f):=by
 intro wl w es rq hw
 refine ⟨?_,fun fg ff=> ?_⟩
 ·have hb:=Sem.runT_bind' P x f wl es
  cases Dw:x.runT P wl es with
  |mk r WX=>
   rw [Dw] at hb
   cases r with
   |halt h GK=>rw [hb];have:=(hx wl wl es rq hw.self).1;rw [Dw] at this;exact this
   |ok a GK=>
    simp only at hb
    rw [hb]
    obtain ⟨_,Kg⟩:=(hx wl wl es rq hw.self).2 (by rw [Dw];trivial) (fun _ _=>rfl)
    have J5:=Kg.weak
    have J6:=Kg.gR
    rw [Dw] at J5 J6
    exact (hf a GK GK WX (hC _ _ rq J6) J5.self).1
 have U0:=zw fg
 have hb:=Sem.runT_bind' P x f wl es
 have CV:=Sem.runT_bind' P x f w es
 have key:∀v,bI wl v->(∀i,wl.drawn+i<(x.runT P wl es).1.wd.drawn->v.tape (v.drawn+i)=wl.tape (wl.drawn+i))->∃w',Same P x wl v es w':=fun v h1 h2=>(hx wl v es rq h1).2 U0 h2
 cases Dw:x.runT P wl es with
 |mk r WX=>
  rw [Dw] at hb U0 key
  cases r with
  |halt h GK=>
   simp only at hb
   rw [hb] at ff
   obtain ⟨w',hs⟩:=key w hw ff
   have hrun:=hs.run
   rw [Dw] at hrun
   rw [hrun] at CV
   simp only [Result.D6] at CV
   refine ⟨w', ?_, ?_, ?_, ?_,hs.upd, ?_, ?_, ?_⟩
   ·rw [hb,CV];rfl
   ·rw [hb];have:=hs.weak;rw [Dw] at this;exact this
   ·rw [hb];have:=hs.mono;rw [Dw] at this;exact this
   ·rw [hb];have:=hs.drawn;rw [Dw] at this;exact this
   ·rw [hb];have:=hs.gR;rw [Dw] at this;exact this
   ·rw [hb];have:=hs.evs;rw [Dw] at this;exact this
   ·rw [hb];have:=hs.heap;rw [Dw] at this;exact this
  |ok a GK=>
   simp only at hb
   rw [hb] at fg ff
   obtain ⟨_,Kg⟩:=key wl hw.self (fun _ _=>rfl)
   have J5:=Kg.weak
   have J6:=Kg.gR
   rw [Dw] at J5 J6
   have BK:C GK:=hC _ _ rq J6
   obtain ⟨_,Sv⟩:=(hf a GK GK WX BK J5.self).2 fg (fun _ _=>rfl)
   have hm:=Sv.mono
   obtain ⟨w1,hs⟩:=key w hw (fun i hi=>ff i (E_ hi hm))
   have hrun:=hs.run
   have hd:=hs.drawn
   have Ze:=hs.mono
   have vC:=hs.weak
   have Ir:=hs.gR
   have uO:=hs.evs
   rw [Dw] at hrun hd Ze vC Ir uO
   simp only [Result.wd,Result.D6] at hrun hd Ze vC Ir uO
   obtain ⟨w',xv⟩:=(hf a GK w1 WX BK vC).2 fg (fun i hi=>by
    have e1:GK.drawn=wl.drawn+(GK.drawn - wl.drawn):=by omega
    have e2:w1.drawn+i=w.drawn+((GK.drawn - wl.drawn)+i):=by omega
    have:=ff ((GK.drawn - wl.drawn)+i) (by omega)
    rw [hs.upd.tape,e2,this,Ir.tape]
    congr 1;omega)
   rw [hrun] at CV
   simp only at CV
   have hhp:=hs.heap
   rw [Dw] at hhp
   refine ⟨w', ?_, ?_, ?_, ?_, ?_, ?_, ?_,fun hh=>by rw [hb];exact xv.heap (hhp hh)⟩
   ·rw [hb,CV];exact xv.run
   ·rw [hb];exact xv.weak
   ·rw [hb];exact D_ Ze xv.mono
   ·rw [hb];have:=xv.drawn;omega
   ·exact oA.trans Ir hw.size hs.upd xv.upd
   ·rw [hb];exact oA.trans Ir rfl Ir xv.gR
   ·rw [hb]
    obtain ⟨l1,h1,h2⟩:=uO
    obtain ⟨l2,h3,h4⟩:=xv.evs
    refine ⟨l1++l2,by rw [h3,h1];simp,fun e he=> ?_⟩
    rcases List.mem_append.1 he with he|he
    ·exact (h2 e he).mono xv.gR.size
    ·exact (h4 e he).back Ir
theorem sd {x:Sem α} {f:α->Sem β} (hx:ag P x) (hf:∀a,ag P (f a)):ag P (x.bind f):=mK (fun _ _ _ _=>trivial) hx hf
variable {a:z_}
theorem bI.cell (h:bI wl w) {v:M'} (hc:wl.cell? a=some v):w.cell? a=some v:=by
 unfold World.cell? at *
 split at hc
 ·rename_i c e f hb
  split at hc
  ·cases hc
  rename_i hs
  obtain ⟨o',h1,h2⟩:=h.get hb
  cases h2 with
  |blind hb=>have:=hb.cells.1;simp [aR] at this
  |same=>rw [h1];simp only [hs,if_false];exact hc
  |cut g1 g2 g3=>
   rw [h1];simp only [hs,if_false]
   rw [g2 _ (cI hc)];exact hc
 ·cases hc
theorem nB {v:M'} (hc:w.cell? a=some v):a=⟨a.block,a.off,none⟩:=by
 unfold World.cell? at hc
 split at hc
 ·split at hc
  ·cases hc
  ·rename_i hs
   obtain ⟨b,o,s⟩:=a
   cases s with
   |none=>rfl
   |some x=>simp at hs
 ·cases hc
theorem dF {v:M'} (hc:w.cell? a=some v):∃c e f,w.heap[a.block]?=some (.cells c e f)/\c[a.off]?=some v:=by
 unfold World.cell? at hc
 split at hc
 ·rename_i c e f hb
  split at hc
  ·cases hc
  ·exact ⟨c,e,f,hb,hc⟩
 ·cases hc
theorem bI.frozen (h:bI wl w) {v:M'} (hc:wl.cell? a=some v) (hf:wl.frozen? a=false):w.frozen? a=false:=by
 obtain ⟨c,e,f,hb,hv⟩:=dF hc
 obtain ⟨o',h1,h2⟩:=h.get hb
 unfold World.frozen? at *
 rw [hb] at hf
 rw [h1]
 cases h2 with
 |blind hb=>have:=hb.cells.1;simp [aR] at this
 |same=>exact hf
 |cut g1 g2 g3=>
  rename_i c' f'
  cases kj:gd f' a.off with
  |false=>exact kj
  |true=>have:=g3 _ kj;unfold gd at this;exact absurd hf (by simp only at this ⊢;rw [this];decide)
theorem Db {b:Bool} (hv:∀o,w.heap[a.block]?=some o->MR o=false):∃h,w.farLoad P a b=.error h/\pL h/\∀α (w':J'),¬rE (Result.halt h w':Result α):=by
 unfold World.farLoad
 split
 ·rename_i x u hb
  have hs:x.spot.isSome=true:=by
   have:=hv _ hb
   simp only [MR] at this
   cases hx:x.spot with
   |none=>rw [hx] at this;cases this
   |some y=>rfl
  have:w.viewLoad P x u a b=.error "memory seen as another type: a place without cells" :=by
   unfold World.viewLoad World.seen
   simp only [hs,Bool.or_true,if_true]
   rfl
  rw [this]
  exact ⟨_,rfl,trivial,fun _ _ h=>h⟩
 ·refine ⟨_,rfl, ?_,fun α w'=> ?_⟩
  ·unfold World.noCell
   split
   ·rename_i hb;exact absurd (hv _ hb) (by simp [MR])
   ·trivial
   ·trivial
  ·unfold World.noCell
   split<;>exact fun h=>h
theorem zy {v:M'} {b:Bool} (hv:∀o,w.heap[a.block]?=some o->MR o=false):∃h,w.farStore P a v b=.error h/\pL h/\∀α (w':J'),¬rE (Result.halt h w':Result α):=by
 unfold World.farStore
 split
 ·rename_i x u hb
  have hs:x.spot.isSome=true:=by
   have:=hv _ hb
   simp only [MR] at this
   cases hx:x.spot with
   |none=>rw [hx] at this;cases this
   |some y=>rfl
  have:∃why,w.viewStore P x u a v b=.error why:=by
   unfold World.viewStore World.seen
   by_cases ht:tight P P.depth u=true
   ·simp only [ht,hs,Bool.or_true,if_true,Bool.not_true,Bool.false_eq_true,if_false]
    exact ⟨_,rfl⟩
   ·simp only [Bool.not_eq_true] at ht
    simp only [ht,Bool.not_false,if_true]
    exact ⟨_,rfl⟩
  obtain ⟨why,this⟩:=this
  rw [this]
  exact ⟨_,rfl,trivial,fun _ _ h=>h⟩
 ·refine ⟨_,rfl, ?_,fun α w'=> ?_⟩
  ·unfold World.noCell
   split
   ·rename_i hb;exact absurd (hv _ hb) (by simp [MR])
   ·trivial
   ·trivial
  ·unfold World.noCell
   split<;>exact fun h=>h
theorem nL (a:z_):ag P (load a):=by
 intro wl w es _ hw
 refine ⟨?_,fun fg ff=> ?_⟩
 ·show LM ((Sem.load .plain a Sem.pure).runT P wl es).1
  cases hc:wl.cell? a with
  |some v=>simp only [Sem.runT,hc];trivial
  |none=>
   obtain ⟨h,h1,h2,_⟩:=Db (P:=P) (a:=a) (b:=Mode.plain==.atomic) (fun o ho=>hw.ic a.block o ho)
   simp only [Sem.runT,hc,h1];exact h2
 show ∃w',Same P (Sem.load .plain a Sem.pure) wl w es w'
 have iO:rE ((Sem.load .plain a Sem.pure).runT P wl es).1:=fg
 cases hc:wl.cell? a with
 |none=>
  obtain ⟨h,h1,_,h2⟩:=Db (P:=P) (a:=a) (b:=Mode.plain==.atomic) (fun o ho=>hw.ic a.block o ho)
  simp only [Sem.runT,hc,h1] at iO
  exact absurd iO (h2 _ _)
 |some v=>
  have hc':=hw.cell hc
  have e1:(Sem.load .plain a Sem.pure).runT P wl es=(.ok v wl,es.push ⟨.cell a,false,false⟩):=by simp only [Sem.runT,hc];rfl
  have e2:(Sem.load .plain a Sem.pure).runT P w es=(.ok v w,es.push ⟨.cell a,false,false⟩):=by simp only [Sem.runT,hc'];rfl
  refine ⟨w,by rw [e1,e2];rfl,by rw [e1];exact hw,by rw [e1];exact C_ _,by rw [e1];simp [Result.wd],oA.refl _ _,by rw [e1];exact oA.refl _ _,⟨[⟨.cell a,false,false⟩],by rw [e1];simp, ?_⟩,by rw [e1];exact fun h=>h⟩
  intro e he
  simp only [List.mem_singleton] at he
  subst he
  obtain ⟨c,ee,f,hb,_⟩:=dF hc
  rw [e1]
  exact ⟨(cI hb),rfl,.inr ⟨⟨v,hc⟩,fun h=>by cases h⟩⟩
theorem heap_setCell (w:J') (a:z_) (v:M') (b:Nat):(w.setCell a v).heap[b]?=if a.block=b then (w.heap[b]?).map (fun| .cells c elem frozen=>.cells (if a.spot.isSome then c else c.setIfInBounds a.off v) elem frozen|o=>o) else w.heap[b]?:=by
 simp only [World.setCell,Array.getElem?_modify]
 split<;>rfl
theorem qC (a:z_) (v:M'):ag P (store a v):=by
 intro wl w es _ hw
 refine ⟨?_,fun fg ff=> ?_⟩
 ·show LM ((Sem.store .plain a v (Sem.pure ())).runT P wl es).1
  by_cases hv:(∃x,v=.agg x)\/(∃x,v=.tuple x)
  ·rcases hv with ⟨x,rfl⟩|⟨x,rfl⟩<;>trivial
  ·have er:∀u:J',(Sem.store .plain a v (Sem.pure ())).runT P u es=match u.cell? a with
    |some _=>if u.frozen? a then (.halt (.unsupported (.unsafePointer "a write to bytes that a string shares")) u,es) else (.ok () (u.setCell a v),es.push ⟨.cell a,true,false⟩)
    |none=>match u.farStore P a v (Mode.plain==.atomic) with
     | .ok (w,touched)=>(.ok () w,es++touched.toArray.map (⟨.cell ·,true,Mode.plain==.atomic⟩))
     | .error h=>(.halt h u,es):=by
    intro u
    cases v<;>first|exact absurd (.inl ⟨_,rfl⟩) hv|exact absurd (.inr ⟨_,rfl⟩) hv|rfl
   rw [er]
   cases hc:wl.cell? a with
   |some v0=>simp only [];split<;>trivial
   |none=>
    obtain ⟨h,h1,h2,_⟩:=zy (P:=P) (a:=a) (v:=v) (b:=Mode.plain==.atomic) (fun o ho=>hw.ic a.block o ho)
    simp only [h1];exact h2
 show ∃w',Same P (Sem.store .plain a v (Sem.pure ())) wl w es w'
 have iO:rE ((Sem.store .plain a v (Sem.pure ())).runT P wl es).1:=fg
 have Km:(∀x,v≠.agg x)/\(∀x,v≠.tuple x):=by
  constructor<;>rintro x rfl<;>exact iO.elim
 have er:∀u:J',(Sem.store .plain a v (Sem.pure ())).runT P u es=match u.cell? a with
  |some _=>if u.frozen? a then (.halt (.unsupported (.unsafePointer "a write to bytes that a string shares")) u,es) else (.ok () (u.setCell a v),es.push ⟨.cell a,true,false⟩)
  |none=>match u.farStore P a v (Mode.plain==.atomic) with
   | .ok (w,touched)=>(.ok () w,es++touched.toArray.map (⟨.cell ·,true,Mode.plain==.atomic⟩))
   | .error h=>(.halt h u,es):=by
  intro u
  cases v<;>first|exact absurd rfl (Km.1 _)|exact absurd rfl (Km.2 _)|rfl
 cases hc:wl.cell? a with
 |none=>
  obtain ⟨h,h1,_,h2⟩:=zy (P:=P) (a:=a) (v:=v) (b:=Mode.plain==.atomic) (fun o ho=>hw.ic a.block o ho)
  rw [er,hc] at iO
  simp only [h1] at iO
  exact absurd iO (h2 _ _)
 |some v0=>
  cases hf:wl.frozen? a with
  |true=>rw [er,hc] at iO;simp only [hf,if_true] at iO;exact iO.elim
  |false=>
   have hc':=hw.cell hc
   have ZA:=hw.frozen hc hf
   have e1:(Sem.store .plain a v (Sem.pure ())).runT P wl es=(.ok () (wl.setCell a v),es.push ⟨.cell a,true,false⟩):=by rw [er,hc];simp only [hf,Bool.false_eq_true,if_false]
   have e2:(Sem.store .plain a v (Sem.pure ())).runT P w es=(.ok () (w.setCell a v),es.push ⟨.cell a,true,false⟩):=by rw [er,hc'];simp only [ZA,Bool.false_eq_true,if_false]
   obtain ⟨c,ee,f,hb,BG⟩:=dF hc
   have hsp:=nB hc
   have QC:a.spot.isSome=false:=by rw [hsp];rfl
   have upd:∀u:J',bI wl u->oA wl u (u.setCell a v):=by
    intro u hu
    refine ⟨by simp [World.setCell],fun b c1 e1 f1 eo=> ?_,fun b o eo ho=> ?_,fun b o eo ho=> ?_,fun b o eo ho _=> ?_,rfl,rfl,rfl⟩
    ·rw [heap_setCell]
     by_cases KN:a.block=b
     ·subst KN
      refine ⟨c1.setIfInBounds a.off v,by simp [eo,QC],by simp,fun k hk=> ?_⟩
      rw [Y_]
      by_cases hka:a.off=k
      ·subst hka
       rw [<-hsp] at hk
       rcases hk with hk|hk
       ·rw [hc] at hk;cases hk
       ·rw [hf] at hk;cases hk
      ·simp [hka]
     ·exact ⟨c1,by simp [KN,eo],rfl,fun _ _=>rfl⟩
    ·rw [heap_setCell]
     split
     ·cases o<;>first|(cases ho;done)|(rw [eo];rfl)
     ·exact eo
    ·rw [heap_setCell]
     split
     ·refine ⟨o, ?_,ho,id,id⟩;cases o<;>first|(cases ho;done)|(rw [eo];rfl)
     ·exact ⟨o,eo,ho,id,id⟩
    ·rw [heap_setCell]
     have hne:a.block≠b:=by rintro rfl;rw [hb] at eo;cases eo;cases ho
     rw [if_neg hne]
   refine ⟨w.setCell a v,by rw [e1,e2];rfl, ?_,by rw [e1];exact C_ _,by rw [e1];simp [Result.wd,World.setCell],upd w hw,by rw [e1];exact upd wl hw.self,⟨[⟨.cell a,true,false⟩],by rw [e1];simp, ?_⟩,fun h=>by rw [e1];simp only [Result.wd,World.setCell,h]⟩
   ·rw [e1]
    refine ⟨by simp [World.setCell,hw.size,Result.wd],fun b o o' h1 h2=> ?_,hw.os,hw.out,fun b o h=> ?_⟩
    ·simp only [Result.wd,heap_setCell] at h1 h2
     by_cases KN:a.block=b
     ·simp only [KN,if_true] at h1 h2
      obtain ⟨p,hp,rfl⟩:=Option.map_eq_some_iff.1 h1
      obtain ⟨q,hq,rfl⟩:=Option.map_eq_some_iff.1 h2
      cases hw.obj b p q hp hq with
      |blind hb=>cases hb<;>first|exact .blind (.view _ _ _)|exact .blind (.late _ _)|exact .blind (.map _ _)|exact .blind (.chan _ _ _ _ _ _)
      |same=>exact .same _
      |cut g1 g2 g3=>
       refine .cut (by simp only [QC,Bool.false_eq_true,if_false,X_];exact g1) (fun k hk=> ?_) g3
       simp only [QC,Bool.false_eq_true,if_false,X_] at hk ⊢
       rw [Y_,Y_]
       by_cases e:a.off=k
       ·subst e;simp [hk,E_ hk g1]
       ·simp [e,g2 k hk]
     ·simp only [KN,if_false] at h1 h2
      exact hw.obj b o o' h1 h2
    ·simp only [Result.wd,heap_setCell] at h
     split at h
     ·obtain ⟨p,hp,hq⟩:=Option.map_eq_some_iff.1 h
      have Ui:=hw.ic _ _ hp
      subst hq
      cases p<;>first|rfl|exact Ui
     ·exact hw.ic _ _ h
   ·intro e he
    simp only [List.mem_singleton] at he
    subst he
    rw [e1]
    exact ⟨by simp only [Result.wd,World.setCell,Array.size_modify];exact (cI hb),rfl,.inr ⟨⟨v0,hc⟩,fun _=>hf⟩⟩
theorem eZ (o:Obj) (hv:MR o=false):ag P (newObj o):=by
 intro wl w es _ hw
 refine ⟨trivial,fun fg ff=> ?_⟩
 show ∃w',Same P (Sem.new o Sem.pure) wl w es w'
 have e1:(Sem.new o Sem.pure).runT P wl es=(.ok wl.heap.size {wl with heap:=wl.heap.push o},es):=rfl
 have e2:(Sem.new o Sem.pure).runT P w es=(.ok w.heap.size {w with heap:=w.heap.push o},es):=rfl
 have upd:∀u:J',wl.heap.size=u.heap.size->oA wl u {u with heap:=u.heap.push o}:=fun u hsu=>
  ⟨by simp,fun b c e f hb=>⟨c,by rw [Array.getElem?_push_lt (cI hb)];rw [Array.getElem?_eq_some_iff] at hb;obtain ⟨h1,h2⟩:=hb;rw [h2],rfl,fun _ _=>rfl⟩,
   fun b x hb _=>by rw [Array.getElem?_push_lt (cI hb)];obtain ⟨h1,h2⟩:=Array.getElem?_eq_some_iff.1 hb;rw [h2],
   fun b x hb hx=>⟨x,by rw [Array.getElem?_push_lt (cI hb)];obtain ⟨h1,h2⟩:=Array.getElem?_eq_some_iff.1 hb;rw [h2],hx,id,id⟩,
   fun b x hb _ _=>by have hlt:b<u.heap.size:=hsu▸(cI hb);show (u.heap.push o)[b]?=_;rw [Array.getElem?_push,if_neg (by omega)],rfl,rfl,rfl⟩
 refine ⟨{w with heap:=w.heap.push o},by rw [e1,e2,hw.size];rfl, ?_,by rw [e1];exact C_ _,by rw [e1];simp [Result.wd],upd w hw.size,by rw [e1];exact upd wl rfl,⟨[],by rw [e1];simp,by simp⟩,fun h=>by rw [e1];simp only [Result.wd,h]⟩
 rw [e1]
 refine ⟨by simp [Result.wd,hw.size],fun b p q h1 h2=> ?_,hw.os,hw.out,fun b x h=> ?_⟩
 ·simp only [Result.wd,Array.getElem?_push] at h1 h2
  rw [hw.size] at h1
  split at h1
  ·rename_i hb;rw [if_pos hb] at h2;cases h1;cases h2;exact .same _
  ·rename_i hb;rw [if_neg hb] at h2;exact hw.obj b p q h1 h2
 ·simp only [Result.wd,Array.getElem?_push] at h
  split at h
  ·cases h;exact hv
  ·exact hw.ic _ _ h
theorem lg (q:Question):ag P (choose q):=by
 intro wl w es _ hw
 refine ⟨?_,fun fg ff=> ?_⟩
 ·show LM ((Sem.choose q Sem.pure).runT P wl es).1
  by_cases hq:q.forced=true
  ·simp [-Sem.runT_eq,Sem.runT,hq,LM]
  ·simp [-Sem.runT_eq,Sem.runT,hq,LM]
 show ∃w',Same P (Sem.choose q Sem.pure) wl w es w'
 have Ke:∀i,wl.drawn+i<((Sem.choose q Sem.pure).runT P wl es).1.wd.drawn->w.tape (w.drawn+i)=wl.tape (wl.drawn+i):=ff
 by_cases hq:q.forced=true
 ·have e:∀u:J',(Sem.choose q Sem.pure).runT P u es=(.ok 0 u,es):=fun u=>by simp [Sem.runT,hq]
  exact ⟨w,by rw [e,e];rfl,by rw [e];exact hw,by rw [e];exact C_ _,by rw [e];simp [Result.wd],oA.refl _ _,by rw [e];exact oA.refl _ _,⟨[],by rw [e];simp,by simp⟩,fun h=>by rw [e];exact h⟩
 ·have e:∀u:J',(Sem.choose q Sem.pure).runT P u es=(.ok (q.cut (u.tape u.drawn q)) {u with drawn:=u.drawn+1},es):=fun u=>by simp [Sem.runT,hq]
  rw [e] at Ke
  have ht:=Ke 0 (by simp [Result.wd])
  simp only [Nat.add_zero] at ht
  have upd:∀u:J',oA wl u {u with drawn:=u.drawn+1}:=fun u=>⟨C_ _,fun _ c _ _ h=>⟨c,h,rfl,fun _ _=>rfl⟩,fun _ _ h _=>h,fun _ o h ho=>⟨o,h,ho,id,id⟩,fun _ _ _ _ _=>rfl,rfl,rfl,rfl⟩
  exact ⟨{w with drawn:=w.drawn+1},by rw [e,e,ht];rfl,by rw [e];exact ⟨hw.size,hw.obj,hw.os,hw.out,hw.ic⟩,by rw [e];simp [Result.wd],by rw [e];simp [Result.wd];omega,upd w,by rw [e];exact upd wl,⟨[],by rw [e];simp,by simp⟩,fun h=>by rw [e];exact h⟩
theorem vd (k:U'->Sem α) (h:ag P (k P)):ag P (Sem.program k):=fun wl w es h0 h1=>⟨(h wl w es h0 h1).1,fun h2 h3=>let ⟨w',hs⟩:=(h wl w es h0 h1).2 h2 h3;⟨w',hs.run,hs.weak,hs.mono,hs.drawn,hs.upd,hs.gR,hs.evs,hs.heap⟩⟩
theorem oW:ag P (mark .noRoom):=by
 intro wl w es _ hw
 refine ⟨trivial,fun fg ff=> ?_⟩
 show ∃w',Same P (Sem.mark .noRoom (Sem.pure ())) wl w es w'
 have e:∀u:J',(Sem.mark .noRoom (Sem.pure ())).runT P u es=(.ok () u,es.push ⟨.mark .noRoom,false,true⟩):=fun u=>rfl
 exact ⟨w,by rw [e,e];rfl,by rw [e];exact hw,by rw [e];exact C_ _,by rw [e];simp [Result.wd],oA.refl _ _,by rw [e];exact oA.refl _ _,⟨[⟨.mark .noRoom,false,true⟩],by rw [e];simp,by simp [vR]⟩,fun h=>by rw [e];exact h⟩
def xZ (r:Nat) (w:J'):Prop:=∀o:Obj,w.heap[r]?=some o->isMap o=true
theorem jN (r:Nat):LI (fun w=>r<w.heap.size/\xZ r w):=by
 rintro wl wm ⟨hl,h⟩ hu
 refine ⟨E_ hl hu.size,fun o ho=> ?_⟩
 obtain ⟨o0,h0⟩:∃o,wl.heap[r]?=some o:=⟨_,H_ hl⟩
 have hm:=h _ h0
 obtain ⟨o',h1,_,_,h3⟩:=hu.gz _ _ h0 (uD hm).1
 rw [h1] at ho;cases ho
 exact h3 hm
theorem jU (r:Nat) (o:Obj) (h1:aR o=false) (h2:o.isChan=false) (h3:MR o=false) (h4:isMap o=true):x9 P (fun w=>r<w.heap.size/\xZ r w) (setObj r o):=by
 rintro wl w es ⟨hlt,hno⟩ hw
 refine ⟨?_,fun fg ff=> ?_⟩
 ·show LM ((Sem.setObj r o (Sem.pure ())).runT P wl es).1
  cases hr:wl.heap[r]? with
  |none=>simp only [Sem.runT,hr];trivial
  |some p=>cases p<;>simp only [Sem.runT,hr]<;>trivial
 show ∃w',Same P (Sem.setObj r o (Sem.pure ())) wl w es w'
 have iO:rE ((Sem.setObj r o (Sem.pure ())).runT P wl es).1:=fg
 cases hr:wl.heap[r]? with
 |none=>simp only [Sem.runT,hr] at iO;exact iO.elim
 |some p=>
  cases hc:aR p with
  |true=>cases p<;>simp [aR] at hc;simp only [Sem.runT,hr] at iO;exact iO.elim
  |false=>
   obtain ⟨p',g1,g2⟩:=hw.get hr
   have Wt:=hno _ hr
   have QI:p'=p:=by cases g2 with
    |same=>rfl
    |cut=>simp [aR] at hc
    |blind hb=>rw [hb.TH] at Wt;cases Wt
   subst QI
   have hc':=hc
   have Wv:=(uD Wt).2
   have e:∀(u:J') (p':Obj),aR p'=false->u.heap[r]?=some p'->(Sem.setObj r o (Sem.pure ())).runT P u es=(.ok () {u with heap:=u.heap.setIfInBounds r o},es.push ⟨.obj r,true,o.isChan⟩):=by
    intro u p' hc hu
    cases p'<;>first|(simp [aR] at hc;done)|(simp only [Sem.runT,hu])
   have upd:∀(u:J') (q:Obj),aR q=false->q.isChan=false->u.heap[r]?=some q->oA wl u {u with heap:=u.heap.setIfInBounds r o}:=by
    intro u _ hc Wv hu
    refine ⟨by simp,fun b c ee f hb=>⟨c, ?_,rfl,fun _ _=>rfl⟩,fun b q hb hq=> ?_,fun b q hb hq=> ?_,fun b q hb hq hqm=> ?_,rfl,rfl,rfl⟩
    ·have hne:r≠b:=by rintro rfl;rw [hu] at hb;cases hb;simp [aR] at hc
     simpa [I_ hne] using hb
    ·have hne:r≠b:=by rintro rfl;rw [hu] at hb;cases hb;rw [Wv] at hq;cases hq
     simpa [I_ hne] using hb
    ·by_cases po:r=b
     ·subst po
      exact ⟨o,by simp [(cI hu)],h1,fun _=>h2,fun _=>h4⟩
     ·exact ⟨q,by simpa [I_ po] using hb,hq,id,id⟩
    ·have hne:r≠b:=by rintro rfl;rw [hr] at hb;cases hb;rw [Wt] at hqm;cases hqm
     simp [I_ hne]
   have hl:=e wl _ hc hr
   refine ⟨{w with heap:=w.heap.setIfInBounds r o},by rw [hl,e w _ hc' g1];rfl, ?_,by rw [hl];exact C_ _,by rw [hl];simp [Result.wd],upd w _ hc' Wv g1,by rw [hl];exact upd wl _ hc Wv hr,⟨[⟨.obj r,true,o.isChan⟩],by rw [hl];simp, ?_⟩,fun h=>by rw [hl];simp only [Result.wd,h]⟩
   ·rw [hl]
    refine ⟨by simp [Result.wd,hw.size],fun b q q' k1 k2=> ?_,hw.os,hw.out,fun b x k=> ?_⟩
    ·simp only [Result.wd,Y_] at k1 k2
     by_cases po:r=b
     ·subst po
      simp only [if_true] at k1 k2
      rw [if_pos hlt] at k1;rw [if_pos (hw.size▸hlt)] at k2
      cases k1;cases k2;exact .same _
     ·simp only [po,if_false] at k1 k2
      exact hw.obj b q q' k1 k2
    ·simp only [Result.wd,Y_] at k
     split at k
     ·first
       |(cases k;exact h3)
       |(split at k
         ·cases k;exact h3
         ·cases k)
     ·exact hw.ic _ _ k
   ·intro ev he
    simp only [List.mem_singleton] at he
    subst he
    rw [hl]
    exact ⟨by simp only [Result.wd,X_];exact hlt,fun o' ho=>by rw [hr] at ho;cases ho;exact hc,fun h=>by rw [h2] at h;cases h⟩
theorem cJ (r:Nat) {f:Obj->Sem α} (h:∀o,aR o=false->x9 P (fun w=>w.heap[r]?=some o) (f o)) (lW:∀o o',na o o'->f o'=f o\/∀w es,¬rE ((f o).runT P w es).1):ag P ((getObj r).bind f):=by
 intro wl w es _ hw
 refine ⟨?_,fun fg ff=> ?_⟩
 ·rw [Sem.runT_bind']
  rw [show getObj r=Sem.getObj r Sem.pure from rfl]
  cases hr:wl.heap[r]? with
  |none=>simp only [Sem.runT,hr];trivial
  |some o=>
   cases hc:aR o with
   |true=>cases o<;>simp [aR] at hc;simp only [Sem.runT,hr];trivial
   |false=>
    have e:(Sem.getObj r Sem.pure).runT P wl es=(.ok o wl,es.push ⟨.obj r,false,o.isChan⟩):=by
     cases o<;>first|(simp [aR] at hc;done)|(simp only [Sem.runT,hr])
    rw [e]
    exact (h o hc wl wl _ hr hw.self).1
 have U0:=zw fg
 cases hr:wl.heap[r]? with
 |none=>exact absurd U0 (by show ¬rE ((Sem.getObj r Sem.pure).runT P wl es).1;simp only [Sem.runT,hr];exact fun h=>h)
 |some o=>
  cases hc:aR o with
  |true=>cases o<;>simp [aR] at hc;exact absurd U0 (by show ¬rE ((Sem.getObj r Sem.pure).runT P wl es).1;simp only [Sem.runT,hr];exact fun h=>h)
  |false=>
   have e:∀u:J',u.heap[r]?=some o->((getObj r).bind f).runT P u es=(f o).runT P u (es.push ⟨.obj r,false,o.isChan⟩):=by
    intro u hu
    rw [Sem.runT_bind']
    have:(getObj r).runT P u es=(.ok o u,es.push ⟨.obj r,false,o.isChan⟩):=by
     show (Sem.getObj r Sem.pure).runT P u es=_
     cases o<;>first|(simp [aR] at hc;done)|(simp only [Sem.runT,hu])
    rw [this]
   obtain ⟨o',h1,h2⟩:=hw.get hr
   have e':((getObj r).bind f).runT P w es=(f o).runT P w (es.push ⟨.obj r,false,o.isChan⟩):=by
    cases h2 with
    |same=>exact e _ h1
    |cut=>simp [aR] at hc
    |blind hb=>
     rw [Sem.runT_bind']
     have:(getObj r).runT P w es=(.ok o' w,es.push ⟨.obj r,false,o'.isChan⟩):=by
      show (Sem.getObj r Sem.pure).runT P w es=_
      have hc':=hb.cells.2
      cases o'<;>first|(simp [aR] at hc';done)|(simp only [Sem.runT,h1])
     rw [this,hb.Jd]
     rcases lW _ _ hb with ZN|ZN
     ·simp only [ZN]
     ·rw [e _ hr] at fg;exact absurd fg (ZN _ _)
   rw [e _ hr] at fg ff
   obtain ⟨w',hs⟩:=(h o hc wl w (es.push ⟨.obj r,false,o.isChan⟩) hr hw).2 fg ff
   refine ⟨w',by rw [e _ hr,e'];exact hs.run,by rw [e _ hr];exact hs.weak,by rw [e _ hr];exact hs.mono,by rw [e _ hr];exact hs.drawn,hs.upd,by rw [e _ hr];exact hs.gR, ?_,fun h=>by rw [e _ hr];exact hs.heap h⟩
   rw [e _ hr]
   obtain ⟨l,h3,h4⟩:=hs.evs
   refine ⟨⟨.obj r,false,o.isChan⟩::l,by rw [h3];apply Array.ext';simp,fun ev he=> ?_⟩
   rcases List.mem_cons.1 he with rfl|he
   ·exact ⟨E_ (cI hr) hs.gR.size,fun o ho=>by rw [hr] at ho;cases ho;exact hc,fun _=>rfl⟩
   ·exact h4 ev he
end
end Go.aC
