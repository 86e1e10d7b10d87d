/-
  The trace's side of a company in which one goroutine holds the memory, others sit or walk to their s
-/
import Derived.Conc.TokenTrace
import Derived.Calls
import Derived.Conc.Events
import Derived.Below
import Derived.Laws.Sem
set_option linter.all false
set_option maxRecDepth 100000
set_option maxHeartbeats 32000000
open Go renaming World->J',Value->M',TypeId->Q',Program->U',FuncId->w_,Addr->z_
open Nat renaming le_refl->C_,le_trans->D_,lt_of_lt_of_le->E_
open Array renaming getElem?_eq_getElem->H_,getElem?_setIfInBounds_ne->I_,size_setIfInBounds->X_,getElem?_setIfInBounds->Y_,mem_of_getElem?->l_
open List renaming mem_cons->R_
open Bool renaming false_eq_true->qp
namespace Go.aC
section
open Go Go.Conc
theorem vw {a:Act} {t:Nat} {v:M'} (h:a.eval (.tmp t)=v):a.eval (.tmp t)=v/\a.tmps[t]?.getD undef=v:=⟨h,by rw [<-Array.getD_eq_getD_getElem?];exact h⟩
variable {α:Type}
theorem so {a:Option α} {x y:α} (h:a=some y) (e:a=some x):y=x:=Option.some.inj (h.symm.trans e)
variable {i:Nat}
theorem cI {a:Array α} {x:α} (h:a[i]?=some x):i<a.size:=(Array.getElem?_eq_some_iff.1 h).1
theorem bT {bs:Array M'} {n:Nat} (h:bs.size=n) (t:Nat) (ht:t<n):t<bs.size:=h▸ht
theorem sB:(∀p:Prop,(False↔p)=¬p)/\(∀p:Prop,(True↔p)=p)/\(∀p:Prop,(p↔False)=¬p)/\(∀p:Prop,(p↔True)=p)/\(∀{α:Type} [BEq α] [LawfulBEq α] {a b:α},(a !=b)=true↔a≠b)/\(∀{α:Type} (a b:α),(a≠b)=¬(a=b))/\(∀{α:Type} [BEq α] [LawfulBEq α] {a b:α},(a==b)=true↔a=b)/\(∀{α:Type} [BEq α] [LawfulBEq α] {a b:α},(a !=b)=false↔a=b)/\(∀{α:Type} [BEq α] [LawfulBEq α] {a b:α},(a==b)=false↔a≠b)/\(∀(p:Prop) [Decidable p],(decide p=true)=p)/\(∀a b:Bool,((a&&b)=true)=(a=true/\b=true))/\(∀a b:Bool,((a||b)=true)=(a=true\/b=true))/\((false=true)=False)/\(∀p:Prop,(True/\p)=p)/\(∀p:Prop,(False/\p)=False)/\(∀p:Prop,(p/\True)=p)/\(∀p:Prop,(p\/False)=p)/\(∀p:Prop,(False\/p)=p)/\(∀p:Prop,(p\/True)=True)/\(∀p:Prop,(True\/p)=True)/\(∀p:Prop,(p/\False)=False):=⟨false_iff,true_iff,iff_false,iff_true,bne_iff_ne,ne_eq,beq_iff_eq,bne_eq_false_iff_eq,beq_eq_false_iff_ne,fun _ _=>decide_eq_true_eq,Bool.and_eq_true,Bool.or_eq_true,qp,true_and,false_and,and_true,or_false,false_or,or_true,true_or,and_false⟩
variable {b:Bool}
theorem ff {c:Bool} (e:c=false) (h:b=true->c=true):b=false:=by cases b;rfl;rw [h rfl] at e;cases e
variable {j:Nat}
theorem E5 {n:Nat} {p:Prop} (h:(Array.replicate n false).getD j false=true):p:=by
 rw [show (Array.replicate n false).getD j false=false by simp [Array.getD]] at h;cases h
structure cS where
 St:Nat->Loc->Prop
 Pv:Nat->Loc->Prop
 Sh:Loc->Prop
 Gr:Loc->Prop
 Dd:Nat->Prop
 on:Prop
 ad:z_
structure cS.Ok (C:cS):Prop where
 apart:∀g g' l,C.Pv g l->g≠g'->¬C.Pv g' l/\¬C.St g' l
 off:∀g l,C.Sh l->¬C.Pv g l/\¬C.St g l
 gr:∀l,C.Gr l->¬C.Sh l/\∀g,¬C.Pv g l/\¬C.St g l
structure Tr (C:cS) (dU rel:Nat->Prop) (n:Nat) (dd:Nat->Nat) (K:Nat->Prop) (t:Trace):Prop where
 clean:∀said,¬Race said t
 known:∀i a,touchAt t i=some a->a.loc.isMemory=true->¬C.Sh a.loc->¬C.Gr a.loc->K i\/∃g,t.g? i=some g/\(C.Pv g a.loc\/a.write=false/\C.St g a.loc)/\(dU g\/∃p,rel p/\Before t i p)
 sh:∀i a,touchAt t i=some a->C.Sh a.loc->(∀g,g<n->¬C.Dd g->Knows t g i)\/(a.kind=.atomic/\(t.g? i=some 0\/¬t.heard i))\/(a.kind=.said/\t.g? i=some 0)
 gr:∀i a,touchAt t i=some a->C.Gr a.loc->Knows t 0 i\/(a.kind=.atomic/\(t.g? i=some 0\/¬t.heard i))\/(a.kind=.said/\t.g? i=some 0)
 wrote:∀i a g,touchAt t i=some a->a.write=true->C.St g a.loc->g<n->Knows t g i
 Hg:∀i a g,touchAt t i=some a->C.Pv g a.loc->g<n->Knows t g i
 deaf:∀g,Deaf t g=dd g
 Hc:∀p,rel p->t.act? p=some (.mark (.releaseMerge C.ad))/\t.heard p
 norel:∀op∈t,∀x,op.act≠.mark (.release x)
inductive qP (C:cS) (dU:Nat->Prop) (n g:Nat) (H heard:Prop) (op:MemOp):Prop
 |mute:op.act.touch?=none->qP C dU n g H heard op
 |hold {b:Touch}:op.act.touch?=some b->H->¬C.Sh b.loc->¬C.Gr b.loc->(∀g',¬C.Pv g' b.loc)->(∀g',C.St g' b.loc->b.write=false)->qP C dU n g H heard op
 |own {b:Touch}:op.act.touch?=some b->dU g->g<n->¬C.Sh b.loc->(C.Pv g b.loc\/b.write=false/\C.St g b.loc)->qP C dU n g H heard op
 |book {b:Touch}:op.act.touch?=some b->g<n->¬C.Dd g->C.Sh b.loc->(b.kind=.atomic/\(g=0\/¬heard)\/b.kind=.said/\g=0)->qP C dU n g H heard op
theorem some_inj {x y:α} (h:some x=some y):x=y:=by cases h;rfl
theorem mX {t u:Trace} {x:MemOp} (h:(t++u)[i]?=some x):(i<t.size/\t[i]?=some x)\/∃k,i=t.size+k/\u[k]?=some x:=by
 by_cases hi:i<t.size
 ·exact .inl ⟨hi,by rw [<-getElem?_append_old (u:=u) hi];exact h⟩
 ·refine .inr ⟨i - t.size,by omega, ?_⟩
  rw [Array.getElem?_append_right (by omega)] at h
  exact h
theorem fQ {t:Trace} {g:Nat} (h:t.g? i=some g):Knows t g i:=by
 obtain ⟨op,ho,hg⟩:=Option.map_eq_some_iff.1 h
 exact hg▸knows_own ho
variable {C:cS} {dU rel:Nat->Prop} {n:Nat} {dd dd':Nat->Nat} {K K':Nat->Prop} {t u:Trace} {g:Nat} {H:Prop}
theorem Tr.one (X:C.Ok) (T:Tr C dU rel n dd K t) (hu:∀op∈u,op.g=g) (hm:∀(k:Nat) op,u[k]?=some op->qP C dU n g H ((t++u).heard (t.size+k)) op) (hK:∀i,K i->K' i)
 (hH:H->(∀i,K i->Knows t g i)/\∀k,k<u.size->K' (t.size+k)) (hd:∀g',Deaf (t++u) g'=dd' g') (hn:∀op∈u,∀x,op.act≠.mark (.release x)):Tr C dU rel n dd' K' (t++u):=by
 have hlt:∀{p:Nat} {a:MemAct},t.act? p=some a->p<t.size:=fun h=>lt_of_act? h
 have JG:∀(k:Nat) op,u[k]?=some op->(t++u).g? (t.size+k)=some g:=fun k op hk=>by
  rw [g?_of (op:=op) (by rw [at_new];exact hk),hu op (l_ hk)]
 refine ⟨fun said=> ?_,fun i a ha yJ fI lH=> ?_,fun i a ha fI=> ?_,fun i a ha lH=> ?_,fun i a g' ha hw hs iJ=> ?_,fun i a g' ha hs iJ=> ?_,hd,fun p hp=> ?_,fun op hop=>(Array.mem_append.1 hop).elim (T.norel op) (hn op)⟩
 ·refine noRace_append (T.clean said) hu fun i a ha op hop b hb hc=> ?_
  obtain ⟨k,hk⟩:=Array.mem_iff_getElem?.1 hop
  cases hm k op hk with
  |mute h=>rw [h] at hb;cases hb
  |hold h h0 h1 HQ h2 h3=>
   rw [h] at hb;cases hb
   rcases T.known i a ha hc.2.1 (hc.1▸h1) (hc.1▸HQ) with fS|⟨g',_,hp|⟨hw,hs⟩,_⟩
   ·exact (hH h0).1 i fS
   ·exact absurd (hc.1▸hp) (h2 g')
   ·have CV:=h3 g' (hc.1▸hs)
    rcases hc.2.2.1 with x|x
    ·rw [hw] at x;cases x
    ·rw [CV] at x;cases x
  |own h h0 h1 h2 h3=>
   rw [h] at hb;cases hb
   rcases h3 with hp|⟨hw,hs⟩
   ·exact T.Hg i a g ha (hc.1▸hp) h1
   ·rcases hc.2.2.1 with x|x
    ·exact T.wrote i a g ha x (hc.1▸hs) h1
    ·rw [hw] at x;cases x
  |book h h0 ND h1 h2=>
   rw [h] at hb;cases hb
   rcases T.sh i a ha (hc.1▸h1) with fS|⟨ka,_⟩|⟨ka,g0⟩
   ·exact fS g h0 ND
   ·exfalso
    have hcc:=hc.2.2.2
    rw [ka] at hcc
    rcases h2 with ⟨h2,_⟩|⟨h2,_⟩<;>rw [h2] at hcc<;>simp at hcc
   ·rcases h2 with ⟨h2,_⟩|⟨h2,rfl⟩
    ·exfalso
     have hcc:=hc.2.2.2
     rw [ka,h2] at hcc
     simp at hcc
    ·exact fQ g0
 ·obtain ⟨x,hx,iI⟩:=touch_of ha
  rcases mX hx with ⟨hi,yE⟩|⟨k,rfl,hk⟩
  ·rcases T.known i a (by rw [touchAt_of yE];exact iI) yJ fI lH with h|⟨g',h1,h2,h3⟩
   ·exact .inl (hK i h)
   ·exact .inr ⟨g',by rw [g?_old hi];exact h1,h2,h3.imp id fun ⟨p,hp,hb⟩=>⟨p,hp,hb.app u⟩⟩
  ·cases hm k x hk with
   |mute h=>rw [h] at iI;cases iI
   |hold h h0=>exact .inl ((hH h0).2 k (cI hk))
   |own h h0 h1 h2 h3=>rw [h] at iI;cases iI;exact .inr ⟨g,JG k x hk,h3,.inl h0⟩
   |book h h0 ND h1=>rw [h] at iI;cases iI;exact absurd h1 fI
 ·obtain ⟨x,hx,iI⟩:=touch_of ha
  rcases mX hx with ⟨hi,yE⟩|⟨k,rfl,hk⟩
  ·rcases T.sh i a (by rw [touchAt_of yE];exact iI) fI with h|h|h
   ·exact .inl fun g' iJ HG=>(h g' iJ HG).app u
   ·exact .inr (.inl ⟨h.1,h.2.imp (fun q=>by rw [g?_old hi];exact q) (fun q=>by rw [heard_old hi];exact q)⟩)
   ·exact .inr (.inr ⟨h.1,by rw [g?_old hi];exact h.2⟩)
  ·cases hm k x hk with
   |mute h=>rw [h] at iI;cases iI
   |hold h h0 h1=>rw [h] at iI;cases iI;exact absurd fI h1
   |own h h0 h1 h2=>rw [h] at iI;cases iI;exact absurd fI h2
   |book h h0 ND h1 h2=>
    rw [h] at iI;cases iI
    rcases h2 with ⟨h2,h3⟩|⟨h2,h3⟩
    ·exact .inr (.inl ⟨h2,h3.imp (fun q=>by rw [JG k x hk,q]) id⟩)
    ·exact .inr (.inr ⟨h2,by rw [JG k x hk,h3]⟩)
 ·obtain ⟨x,hx,iI⟩:=touch_of ha
  rcases mX hx with ⟨hi,yE⟩|⟨k,rfl,hk⟩
  ·rcases T.gr i a (by rw [touchAt_of yE];exact iI) lH with h|h|h
   ·exact .inl (h.app u)
   ·exact .inr (.inl ⟨h.1,h.2.imp (fun q=>by rw [g?_old hi];exact q) (fun q=>by rw [heard_old hi];exact q)⟩)
   ·exact .inr (.inr ⟨h.1,by rw [g?_old hi];exact h.2⟩)
  ·cases hm k x hk with
   |mute h=>rw [h] at iI;cases iI
   |hold h h0 h1 HQ=>rw [h] at iI;cases iI;exact absurd lH HQ
   |own h h0 h1 h2 h3=>rw [h] at iI;cases iI;exact h3.elim (fun q=>absurd q ((X.gr _ lH).2 g).1) fun q=>absurd q.2 ((X.gr _ lH).2 g).2
   |book h h0 ND h1 h2=>rw [h] at iI;cases iI;exact absurd h1 (X.gr _ lH).1
 ·obtain ⟨x,hx,iI⟩:=touch_of ha
  rcases mX hx with ⟨hi,yE⟩|⟨k,rfl,hk⟩
  ·exact (T.wrote i a g' (by rw [touchAt_of yE];exact iI) hw hs iJ).app u
  ·cases hm k x hk with
   |mute h=>rw [h] at iI;cases iI
   |hold h h0 h1 HQ h2 h3=>rw [h] at iI;cases iI;rw [h3 g' hs] at hw;cases hw
   |own h h0 h1 h2 h3=>
    rw [h] at iI;cases iI
    rcases h3 with hp|⟨gC,_⟩
    ·by_cases e:g=g'
     ·subst e;exact fQ (JG k x hk)
     ·exact absurd hs (X.apart g g' _ hp e).2
    ·rw [hw] at gC;cases gC
   |book h h0 ND h1=>rw [h] at iI;cases iI;exact absurd hs (X.off g' _ h1).2
 ·obtain ⟨x,hx,iI⟩:=touch_of ha
  rcases mX hx with ⟨hi,yE⟩|⟨k,rfl,hk⟩
  ·exact (T.Hg i a g' (by rw [touchAt_of yE];exact iI) hs iJ).app u
  ·cases hm k x hk with
   |mute h=>rw [h] at iI;cases iI
   |hold h h0 h1 HQ h2 h3=>rw [h] at iI;cases iI;exact absurd hs (h2 g')
   |own h h0 h1 h2 h3=>
    rw [h] at iI;cases iI
    by_cases e:g=g'
    ·subst e;exact fQ (JG k x hk)
    ·rcases h3 with hp|⟨_,hq⟩
     ·exact absurd hs (X.apart g g' _ hp e).1
     ·exact absurd hq (X.apart g' g _ hs (Ne.symm e)).2
   |book h h0 ND h1=>rw [h] at iI;cases iI;exact absurd hs (X.off g' _ h1).1
 ·obtain ⟨h1,h2⟩:=T.Hc p hp
  exact ⟨by rw [act?_old (hlt h1)];exact h1,(heard_old (hlt h1)).2 h2⟩
theorem Tr.mute (T:Tr C dU rel n dd K t) (hm:∀op∈u,op.act.touch?=none) (hK:∀i,K i->K' i) (hd:∀g',Deaf (t++u) g'=dd' g') (hn:∀op∈u,∀x,op.act≠.mark (.release x)):Tr C dU rel n dd' K' (t++u):=by
 have hlt:∀{p:Nat} {a:MemAct},t.act? p=some a->p<t.size:=fun h=>lt_of_act? h
 have old:∀{i:Nat} {a:Touch},touchAt (t++u) i=some a->i<t.size/\touchAt t i=some a:=by
  intro i a ha
  obtain ⟨x,hx,iI⟩:=touch_of ha
  rcases getElem?_append_cases hx with ⟨hi,yE⟩|⟨_,TR⟩
  ·exact ⟨hi,by rw [touchAt_of yE];exact iI⟩
  ·rw [hm x TR] at iI;cases iI
 refine ⟨fun said=>noRace_appendMute (T.clean said) hm,fun i a ha yJ fI lH=> ?_,fun i a ha fI=> ?_,fun i a ha lH=> ?_,fun i a g' ha hw hs iJ=>(T.wrote i a g' (old ha).2 hw hs iJ).app u,fun i a g' ha hs iJ=>(T.Hg i a g' (old ha).2 hs iJ).app u,hd,fun p hp=> ?_,fun op hop=>(Array.mem_append.1 hop).elim (T.norel op) (hn op)⟩
 ·obtain ⟨hi,ha'⟩:=old ha
  rcases T.known i a ha' yJ fI lH with h|⟨g',h1,h2,h3⟩
  ·exact .inl (hK i h)
  ·exact .inr ⟨g',by rw [g?_old hi];exact h1,h2,h3.imp id fun ⟨p,hp,hb⟩=>⟨p,hp,hb.app u⟩⟩
 ·obtain ⟨hi,ha'⟩:=old ha
  rcases T.sh i a ha' fI with h|h|h
  ·exact .inl fun g' iJ HG=>(h g' iJ HG).app u
  ·exact .inr (.inl ⟨h.1,h.2.imp (fun q=>by rw [g?_old hi];exact q) (fun q=>by rw [heard_old hi];exact q)⟩)
  ·exact .inr (.inr ⟨h.1,by rw [g?_old hi];exact h.2⟩)
 ·obtain ⟨hi,ha'⟩:=old ha
  rcases T.gr i a ha' lH with h|h|h
  ·exact .inl (h.app u)
  ·exact .inr (.inl ⟨h.1,h.2.imp (fun q=>by rw [g?_old hi];exact q) (fun q=>by rw [heard_old hi];exact q)⟩)
  ·exact .inr (.inr ⟨h.1,by rw [g?_old hi];exact h.2⟩)
 ·obtain ⟨h1,h2⟩:=T.Hc p hp
  exact ⟨by rw [act?_old (hlt h1)];exact h1,(heard_old (hlt h1)).2 h2⟩
theorem Tr.n9 {Fp bZ:Nat->Prop} (T:Tr C dU rel n dd K t) (hr:∀p,bZ p->rel p\/(t.act? p=some (.mark (.releaseMerge C.ad))/\t.heard p))
 (h:∀i a,touchAt t i=some a->a.loc.isMemory=true->¬C.Sh a.loc->¬C.Gr a.loc->(K i->K' i\/∃g,t.g? i=some g/\(C.Pv g a.loc\/a.write=false/\C.St g a.loc)/\(Fp g\/∃p,bZ p/\Before t i p))/\
  ∀g,t.g? i=some g->(dU g\/∃p,rel p/\Before t i p)->K' i\/(Fp g\/∃p,bZ p/\Before t i p)):Tr C Fp bZ n dd K' t:=by
 refine ⟨T.clean,fun i a ha hm hs lH=> ?_,T.sh,T.gr,T.wrote,T.Hg,T.deaf,fun p hp=>(hr p hp).elim (T.Hc p) id,T.norel⟩
 obtain ⟨h1,h2⟩:=h i a ha hm hs lH
 rcases T.known i a ha hm hs lH with k|⟨g,k1,k2,k3⟩
 ·exact h1 k
 ·rcases h2 g k1 k3 with k4|k4
  ·exact .inl k4
  ·exact .inr ⟨g,k1,k2,k4⟩
variable {h:Nat}
theorem Tr.both (T:Tr C dU rel n dd K t) (hh:dd h=0) (hj:dd j=0) (fh:w_) (ph:String) (fj:w_) (pj:String) (c k:Nat):
 ∀i,Knows t h i\/Knows t j i->Knows (t++met h j fh ph fj pj c k 0) h i/\Knows (t++met h j fh ph fj pj c k 0) j i:=by
 generalize hu:met h j fh ph fj pj c k 0=u
 have hq:∀g,∀op∈u,∀d,deafStep g d op=d:=fun g=>hu▸met_quiet h j fh ph fj pj c k 0 g
 have e0:(t++u)[t.size]?=some {g:=h,fn:=fh,pos:=ph,act:=.send c k}:=by subst hu;simp [met]
 have e1:(t++u)[t.size+1]?=some {g:=j,fn:=fj,pos:=pj,act:=.recv c k 0}:=by subst hu;simp [met]
 have e2:(t++u)[t.size+2]?=some {g:=h,fn:=fh,pos:=ph,act:=.sendDone c k}:=by subst hu;simp [met]
 have e3:(t++u)[t.size+3]?=some {g:=j,fn:=fj,pos:=pj,act:=.recvDone c k}:=by subst hu;simp [met]
 have hsz:u.size=4:=by subst hu;simp [met]
 have hear:∀(x:Nat) (m:Nat) op,m<=u.size->(t++u)[t.size+m]?=some op->op.g=x->dd x=0->(t++u).heard (t.size+m):=fun x m op hm ho hx hd=>
  ⟨x,by rw [g?_of ho,hx],by rw [deaf_quiet (hq x) m hm,T.deaf x,hd]⟩
 have VI:HappensBefore (t++u) t.size (t.size+3):=Relation.TransGen.single (.inr ⟨.handOver (act?_of e0) (act?_of e3),hear h 0 _ (by omega) e0 rfl hh,hear j 3 _ (by omega) e3 rfl hj⟩)
 have VH:HappensBefore (t++u) (t.size+1) (t.size+2):=Relation.TransGen.single (.inr ⟨.room (act?_of e1) (by rw [act?_of e2];rfl),hear j 1 _ (by omega) e1 rfl hj,hear h 2 _ (by omega) e2 rfl hh⟩)
 rintro i (hk|hk)
 ·exact ⟨hk.app u,⟨t.size+3,_,e3,rfl,.inr ((hk.hb_new (C_ _) e0 rfl).trans VI)⟩⟩
 ·exact ⟨⟨t.size+2,_,e2,rfl,.inr ((hk.hb_new (by omega) e1 rfl).trans VH)⟩,hk.app u⟩
theorem Tr.meet (T:Tr C dU rel n dd K t) (hK:∀i,K i->Knows t h i\/Knows t j i) (hh:dd h=0) (hj:dd j=0) (fh:w_) (ph:String) (fj:w_) (pj:String) (c k:Nat):
 Tr C (fun g=>dU g/\g≠h/\g≠j) rel n dd (fun i=>Knows (t++met h j fh ph fj pj c k 0) h i/\Knows (t++met h j fh ph fj pj c k 0) j i) (t++met h j fh ph fj pj c k 0):=by
 have both:=T.both hh hj fh ph fj pj c k
 revert both
 generalize hu:met h j fh ph fj pj c k 0=u
 intro both
 have hn:∀op∈u,op.act.touch?=none:=hu▸met_mute h j fh ph fj pj c k 0
 have hq:∀g,∀op∈u,∀d,deafStep g d op=d:=fun g=>hu▸met_quiet h j fh ph fj pj c k 0 g
 refine (T.mute (K':=fun i=>Knows (t++u) h i/\Knows (t++u) j i) (dd':=dd) hn (fun i hi=>both i (hK i hi)) (fun g=>(Deaf_quiet (hq g)).trans (T.deaf g)) (fun op hop=> ?_)).n9 (fun p hp=>.inl hp) (fun i a ha hm hs _=>⟨fun hk=>.inl hk,fun g hg hl=> ?_⟩)
 ·subst hu
  simp only [met,List.mem_toArray,R_,List.not_mem_nil,or_false] at hop
  intro x
  rcases hop with rfl|rfl|rfl|rfl<;>simp
 ·rcases hl with hl|hl
  ·by_cases e:g=h\/g=j
   ·left
    obtain ⟨x,hx,iI⟩:=touch_of ha
    rcases getElem?_append_cases hx with ⟨hi,yE⟩|⟨_,TR⟩
    ·have hk:Knows t g i:=fQ (by rw [<-g?_old (u:=u) hi];exact hg)
     rcases e with rfl|rfl
     ·exact both i (.inl hk)
     ·exact both i (.inr hk)
    ·rw [hn x TR] at iI;cases iI
   ·exact .inr (.inl ⟨hl,fun x=>e (.inl x),fun x=>e (.inr x)⟩)
  ·exact .inr (.inr hl)
def cS.hire (C:cS) (n:Nat) (S Q:Loc->Prop):cS:={St:=fun g l=>C.St g l\/g=n/\S l,Pv:=fun g l=>C.Pv g l\/g=n/\Q l,Sh:=C.Sh,Gr:=C.Gr,Dd:=C.Dd,on:=C.on,ad:=C.ad}
variable {S:Loc->Prop}
theorem Tr.hire {Q:Loc->Prop} (T:Tr C dU rel n dd K t) (hK:∀i,K i->Knows t h i) (hlt:h<n) (hhd:¬C.Dd h) (hh:dd h=0) (hc:dd n=0) (lG:∀g l,C.St g l\/C.Pv g l->g<n)
 (hS:∀l,S l->l.isMemory=true/\¬C.Sh l/\¬C.Gr l/\∀g,¬C.Pv g l) (hQ:∀l,Q l->l.isMemory=true/\¬C.Sh l/\¬C.Gr l/\∀g,¬C.Pv g l/\¬C.St g l) (fh:w_) (ph:String) (fc:w_)
 (hK':∀i,Knows (t++#[{g:=h,fn:=fh,pos:=ph,act:=.go n},{g:=n,fn:=fc,pos:=ph,act:=.start}]) h i->Knows (t++#[{g:=h,fn:=fh,pos:=ph,act:=.go n},{g:=n,fn:=fc,pos:=ph,act:=.start}]) n i->K' i):
 Tr (C.hire n S Q) (fun g=>dU g\/g=n) rel (n+1) dd K' (t++#[{g:=h,fn:=fh,pos:=ph,act:=.go n},{g:=n,fn:=fc,pos:=ph,act:=.start}]):=by
 generalize hu:(#[{g:=h,fn:=fh,pos:=ph,act:=.go n},{g:=n,fn:=fc,pos:=ph,act:=.start}]:Trace)=u at hK' ⊢
 have hn:∀op∈u,op.act.touch?=none:=by
  intro op hop
  subst hu
  simp only [List.mem_toArray,R_,List.not_mem_nil,or_false] at hop
  rcases hop with rfl|rfl<;>rfl
 have hq:∀g,∀op∈u,∀d,deafStep g d op=d:=by
  intro g op hop d
  subst hu
  simp only [List.mem_toArray,R_,List.not_mem_nil,or_false] at hop
  rcases hop with rfl|rfl<;>rfl
 have e0:(t++u)[t.size]?=some {g:=h,fn:=fh,pos:=ph,act:=.go n}:=by subst hu;simp
 have e1:(t++u)[t.size+1]?=some {g:=n,fn:=fc,pos:=ph,act:=.start}:=by subst hu;simp
 have edge:HappensBefore (t++u) t.size (t.size+1):=
  Relation.TransGen.single (.inr ⟨.spawn (act?_of e0) (act?_of e1) (g?_of e1),⟨h,g?_of e0,by rw [deaf_old (C_ _)];exact (T.deaf h).trans hh⟩,⟨n,g?_of e1,by rw [deaf_quiet (hq n) 1 (by subst hu;simp)];exact (T.deaf n).trans hc⟩⟩)
 have pass:∀{i},Knows t h i->Knows (t++u) n i:=fun hk=>⟨t.size+1,_,e1,rfl,.inr ((hk.hb_new (C_ _) e0 rfl).trans edge)⟩
 have old:∀{i:Nat} {a:Touch},touchAt (t++u) i=some a->i<t.size/\touchAt t i=some a:=by
  intro i a ha
  obtain ⟨x,hx,iI⟩:=touch_of ha
  rcases getElem?_append_cases hx with ⟨hi,yE⟩|⟨_,TR⟩
  ·exact ⟨hi,by rw [touchAt_of yE];exact iI⟩
  ·rw [hn x TR] at iI;cases iI
 have T':=T.mute (K':=K') (dd':=dd) hn (fun i hi=>hK' i ((hK i hi).app u) (pass (hK i hi))) (fun g=>(Deaf_quiet (hq g)).trans (T.deaf g)) (fun op hop=>by
  subst hu
  simp only [List.mem_toArray,R_,List.not_mem_nil,or_false] at hop
  intro x
  rcases hop with rfl|rfl<;>simp)
 refine ⟨T'.clean,fun i a ha hm hs lH=> ?_,fun i a ha hs=> ?_,T'.gr,fun i a g ha hw hs hg=> ?_,fun i a g ha hs hg=> ?_,T'.deaf,T'.Hc,T'.norel⟩
 ·rcases T'.known i a ha hm hs lH with k|⟨g,k1,k2,k3⟩
  ·exact .inl k
  ·exact .inr ⟨g,k1,k2.imp .inl fun x=>⟨x.1,.inl x.2⟩,k3.imp .inl id⟩
 ·obtain ⟨hi,ha'⟩:=old ha
  rcases T.sh i a ha' hs with k|k|k
  ·refine .inl fun g hg hd=> ?_
   by_cases e:g=n
   ·subst e;exact pass (k h hlt hhd)
   ·exact (k g (by omega) hd).app u
  ·exact .inr (.inl ⟨k.1,k.2.imp (fun q=>by rw [g?_old hi];exact q) (fun q=>by rw [heard_old hi];exact q)⟩)
  ·exact .inr (.inr ⟨k.1,by rw [g?_old hi];exact k.2⟩)
 ·rcases hs with hs|⟨rfl,hs⟩
  ·exact T'.wrote i a g ha hw hs (lG g _ (.inl hs))
  ·obtain ⟨q1,q2,Yq,q3⟩:=hS _ hs
   rcases T.known i a (old ha).2 q1 q2 Yq with k|⟨g',_,k|⟨k,_⟩,_⟩
   ·exact pass (hK i k)
   ·exact absurd k (q3 g')
   ·rw [hw] at k;cases k
 ·rcases hs with hs|⟨rfl,hs⟩
  ·exact T'.Hg i a g ha hs (lG g _ (.inr hs))
  ·obtain ⟨q1,q2,Yq,q3⟩:=hQ _ hs
   rcases T.known i a (old ha).2 q1 q2 Yq with k|⟨g',_,k|⟨_,k⟩,_⟩
   ·exact pass (hK i k)
   ·exact absurd k (q3 g').1
   ·exact absurd k (q3 g').2
theorem Tr.release (T:Tr C dU rel n dd K t) (hK:∀i,K i->K' i) (hg:dd g=0) (fn:w_) (pos:String) (hu:u=#[{g:=g,fn:=fn,pos:=pos,act:=.mark (.releaseMerge C.ad)}]):
 Tr C (fun x=>dU x/\x≠g) (fun p=>rel p\/p=t.size) n dd K' (t++u)/\∀i,Knows t g i->Before (t++u) i t.size:=by
 have e0:(t++u)[t.size]?=some {g:=g,fn:=fn,pos:=pos,act:=.mark (.releaseMerge C.ad)}:=by subst hu;simp
 have hn:∀op∈u,op.act.touch?=none:=by
  intro op hop
  subst hu
  simp only [List.mem_toArray,R_,List.not_mem_nil,or_false] at hop
  subst hop;rfl
 have hq:∀g,∀op∈u,∀d,deafStep g d op=d:=by
  intro g op hop d
  subst hu
  simp only [List.mem_toArray,R_,List.not_mem_nil,or_false] at hop
  subst hop;rfl
 have bef:∀i,Knows t g i->Before (t++u) i t.size:=fun i hk=>.inr (hk.hb_new (C_ _) e0 rfl)
 refine ⟨(T.mute (K':=K') (dd':=dd) hn hK (fun g'=>(Deaf_quiet (hq g')).trans (T.deaf g')) (fun op hop=> ?_)).n9 (fun p hp=> ?_) (fun i a ha hm hs _=>⟨fun hk=>.inl hk,fun x hx hl=> ?_⟩),bef⟩
 ·subst hu
  simp only [List.mem_toArray,R_,List.not_mem_nil,or_false] at hop
  intro x;subst hop;simp
 ·rcases hp with hp|rfl
  ·exact .inl hp
  ·exact .inr ⟨act?_of e0,g,g?_of e0,by rw [deaf_old (C_ _)];exact (T.deaf g).trans hg⟩
 ·rcases hl with hl|⟨p,hp,hb⟩
  ·by_cases e:x=g
   ·subst e
    obtain ⟨y,hy,hya⟩:=touch_of ha
    rcases getElem?_append_cases hy with ⟨hi,_⟩|⟨_,hyu⟩
    ·exact .inr (.inr ⟨t.size,.inr rfl,bef i (fQ (by rw [<-g?_old (u:=u) hi];exact hx))⟩)
    ·rw [hn y hyu] at hya;cases hya
   ·exact .inr (.inl ⟨hl,e⟩)
  ·exact .inr (.inr ⟨p,.inl hp,hb⟩)
theorem Tr.acquire (T:Tr C dU rel n dd K t) (hK:∀i,K i->Knows t 0 i\/∃p,rel p/\Before t i p) (hg:dd 0=0) (fn:w_) (pos:String) (hu:u=#[{g:=0,fn:=fn,pos:=pos,act:=.mark (.acquire C.ad)}]):
 Tr C dU (fun _=>False) n dd (Knows (t++u) 0) (t++u):=by
 have e0:(t++u)[t.size]?=some {g:=0,fn:=fn,pos:=pos,act:=.mark (.acquire C.ad)}:=by subst hu;simp
 have hn:∀op∈u,op.act.touch?=none:=by
  intro op hop
  subst hu
  simp only [List.mem_toArray,R_,List.not_mem_nil,or_false] at hop
  subst hop;rfl
 have hq:∀g,∀op∈u,∀d,deafStep g d op=d:=by
  intro g op hop d
  subst hu
  simp only [List.mem_toArray,R_,List.not_mem_nil,or_false] at hop
  subst hop;rfl
 have edge:∀p,rel p->HappensBefore (t++u) p t.size:=by
  intro p hp
  obtain ⟨h1,h2⟩:=T.Hc p hp
  have hlt:=lt_of_act? h1
  refine Relation.TransGen.single (.inr ⟨.marked hlt (.inr (by rw [act?_old hlt];exact h1)) (act?_of e0) (fun k _ hk ho=> ?_),(heard_old hlt).2 h2,⟨0,g?_of e0,by rw [deaf_old (C_ _)];exact (T.deaf 0).trans hg⟩⟩)
  rw [act?_old hk] at ho
  obtain ⟨op,Gd,Uo⟩:=Option.map_eq_some_iff.1 (show (t[k]?).map (·.act)=_ from ho)
  exact T.norel op (l_ Gd) _ Uo
 have now:∀i,(∃p,rel p/\Before t i p)->Knows (t++u) 0 i:=fun i ⟨p,hp,hb⟩=>⟨t.size,_,e0,rfl,.inr ((hb.app u).hb (edge p hp))⟩
 refine (T.mute (K':=Knows (t++u) 0) (dd':=dd) hn (fun i hi=>(hK i hi).elim (fun x=>x.app u) (now i)) (fun g'=>(Deaf_quiet (hq g')).trans (T.deaf g')) (fun op hop=> ?_)).n9 (fun p hp=>hp.elim) (fun i a ha hm hs _=>⟨fun hk=>.inl hk,fun x hx hl=> ?_⟩)
 ·subst hu
  simp only [List.mem_toArray,R_,List.not_mem_nil,or_false] at hop
  intro x;subst hop;simp
 ·rcases hl with hl|⟨p,hp,hb⟩
  ·exact .inr (.inl hl)
  ·exact .inl ⟨t.size,_,e0,rfl,.inr (hb.hb (edge p hp))⟩
theorem Tr.handed (T:Tr C dU rel n dd (Knows t 0) t) (hn:0<n) (ZE:¬C.Dd 0) (hL:∀g,¬dU g) (hr:∀p,¬rel p):t.HandedOver:=by
 intro i g hg hne hc
 obtain ⟨x,hx,hm,hk⟩:=hc
 have fin:Knows t 0 i->∃j,t.g? j=some 0/\HappensBefore t i j:=by
  rintro ⟨q,z,hq,hz,hb⟩
  rcases hb with rfl|hb
  ·rw [g?_of hq,hz] at hg
   exact absurd (some_inj hg).symm hne
  ·exact ⟨q,by rw [g?_of hq,hz],hb⟩
 by_cases hs:C.Sh x.loc
 ·rcases T.sh i x hx hs with h|⟨h1,h2⟩|⟨_,h2⟩
  ·exact fin (h 0 hn ZE)
  ·rcases h2 with h2|h2
   ·rw [hg] at h2;exact absurd (some_inj h2) hne
   ·rcases hk with hk|hk
    ·exact absurd h1 hk
    ·exact absurd hk h2
  ·rw [hg] at h2;exact absurd (some_inj h2) hne
 ·by_cases lH:C.Gr x.loc
  ·rcases T.gr i x hx lH with h|⟨h1,h2⟩|⟨_,h2⟩
   ·exact fin h
   ·rcases h2 with h2|h2
    ·rw [hg] at h2;exact absurd (some_inj h2) hne
    ·rcases hk with hk|hk
     ·exact absurd h1 hk
     ·exact absurd hk h2
   ·rw [hg] at h2;exact absurd (some_inj h2) hne
  rcases T.known i x hx hm hs lH with h|⟨g',_,_,h|⟨p,h,_⟩⟩
  ·exact fin h
  ·exact absurd h (hL g')
  ·exact absurd h (hr p)
def cS.anew (C:cS) (n:Nat) (S:Loc->Prop) (on:Prop) (ad:z_):cS:={St:=fun _ _=>False,Pv:=fun _ _=>False,Sh:=S,Gr:=fun l=>C.Gr l\/C.Sh l,Dd:=fun g=>0<g/\g<n,on:=on,ad:=ad}
theorem Tr.anew {on:Prop} {ad:z_} (T:Tr C dU rel n dd (Knows t 0) t) (hn:0<n) (ZE:¬C.Dd 0) (hL:∀g,¬dU g) (hr:∀p,¬rel p) (hS:∀l,S l->l.isMemory=true/\¬C.Sh l/\¬C.Gr l):
 Tr (C.anew n S on ad) (fun _=>False) (fun _=>False) n dd (Knows t 0) t:=by
 have know:∀i a,touchAt t i=some a->a.loc.isMemory=true->¬C.Sh a.loc->¬C.Gr a.loc->Knows t 0 i:=fun i a ha hm hs hg=>by
  rcases T.known i a ha hm hs hg with h|⟨g',_,_,h|⟨p,h,_⟩⟩
  ·exact h
  ·exact absurd h (hL g')
  ·exact absurd h (hr p)
 refine ⟨T.clean,fun i a ha hm _ hg=>.inl (know i a ha hm (fun h=>hg (.inr h)) (fun h=>hg (.inl h))),fun i a ha hs=>.inl fun g hg hd=> ?_,fun i a ha hg=> ?_,fun i a g ha _ h=>h.elim,fun i a g ha h=>h.elim,T.deaf,fun p hp=>hp.elim,T.norel⟩
 ·obtain ⟨h1,h2,h3⟩:=hS _ hs
  obtain rfl:g=0:=by
   rcases Nat.eq_zero_or_pos g with h|h
   ·exact h
   ·exact absurd ⟨h,hg⟩ hd
  exact know i a ha h1 h2 h3
 ·rcases hg with hg|hg
  ·exact T.gr i a ha hg
  ·rcases T.sh i a ha hg with h|h|h
   ·exact .inl (h 0 hn ZE)
   ·exact .inr (.inl h)
   ·exact .inr (.inr h)
def cS.drop (C:cS) (i:Nat):cS:={St:=fun g l=>g≠i/\C.St g l,Pv:=fun g l=>g≠i/\C.Pv g l,Sh:=C.Sh,Gr:=C.Gr,Dd:=C.Dd,on:=C.on,ad:=C.ad}
theorem Tr.drop (T:Tr C dU rel n dd K t) (hi:¬dU i) (hr:∀p x a,rel p->Before t x p->t.g? x=some i->touchAt t x=some a->K x):Tr (C.drop i) dU rel n dd K t:=by
 refine ⟨T.clean,fun x a ha hm hs hg=> ?_,T.sh,T.gr,fun x a g ha hw hs=>T.wrote x a g ha hw hs.2,fun x a g ha hs=>T.Hg x a g ha hs.2,T.deaf,T.Hc,T.norel⟩
 rcases T.known x a ha hm hs hg with h|⟨g,h1,h2,h3⟩
 ·exact .inl h
 ·by_cases e:g=i
  ·subst e
   rcases h3 with h3|⟨p,hp,hb⟩
   ·exact absurd h3 hi
   ·exact .inl (hr p x a hp hb h1 ha)
  ·exact .inr ⟨g,h1,h2.imp (fun h=>⟨e,h⟩) (fun h=>⟨h.1,e,h.2⟩),h3⟩
end
section
open Go
def gd (f:Nat × Nat) (k:Nat):Bool:=f.1<=k&&k<f.2
def aR:Obj->Bool
 | .cells ..=>true
 |_=>false
def MR:Obj->Bool
 | .view a _=>a.spot.isNone
 | .pending ..=>true
 |_=>false
inductive na:Obj->Obj->Prop
 |view (a a':z_) (t:Q'):na (.view a t) (.view a' t)
 |late (c:Array M') (e:Q'):na (.coro none) (.pending c e)
 |map (es:Array MapEntry) (clock:Nat):na (.coro none) (.map es clock)
 |chan (cap:Nat) (buf:Array M') (cl:Bool) (s r:Nat) (tm:Bool):na (.chan cap buf true s r tm) (.chan cap buf cl s r tm)
def isMap:Obj->Bool
 | .map ..=>true
 |_=>false
variable {o':Obj}
theorem na.cells {o:Obj} (h:na o o'):aR o=false/\aR o'=false:=by cases h<;>exact ⟨rfl,rfl⟩
theorem na.Jd {o:Obj} (h:na o o'):o'.isChan=o.isChan:=by cases h<;>rfl
theorem na.TH {o:Obj} (h:na o o'):isMap o=false:=by cases h<;>rfl
theorem uD {o:Obj} (h:isMap o=true):aR o=false/\o.isChan=false:=by cases o<;>first|(cases h;done)|exact ⟨rfl,rfl⟩
def pL:Halt->Prop
 | .panic _| .stuck _=>True
 | .unsupported (.initOrder _)=>False
 | .unsupported _=>True
 |_=>False
def LM {α:Type}:Result α->Prop
 | .ok _ _=>True
 | .halt h _=>pL h
inductive LN:Obj->Obj->Prop
 |same (o:Obj):LN o o
 |blind {o o':Obj} (h:na o o'):LN o o'
 |cut {c c':Array M'} {e:Q'} {f f':Nat × Nat} (hs:c.size<=c'.size) (hc:∀k,k<c.size->c'[k]?=c[k]?) (hf:∀k,gd f' k=true->gd f k=true):LN (.cells c e f) (.cells c' e f')
structure bI (wl w:J'):Prop where
 size:wl.heap.size=w.heap.size
 obj:∀(b:Nat) (o o':Obj),wl.heap[b]?=some o->w.heap[b]?=some o'->LN o o'
 os:wl.os=w.os
 out:wl.output=w.output
 ic:∀(b:Nat) (o:Obj),wl.heap[b]?=some o->MR o=false
variable {wl w:J'}
theorem bI.self (k:bI wl w):bI wl wl:=⟨rfl,fun _ _ _ h h'=>by rw [h] at h';cases h';exact .same _,rfl,rfl,k.ic⟩
theorem bI.get (h:bI wl w) {b:Nat} {o:Obj} (hb:wl.heap[b]?=some o):∃o',w.heap[b]?=some o'/\LN o o':=by
 have hl:b<w.heap.size:=h.size▸(cI hb)
 exact ⟨_,H_ hl,h.obj b o _ hb (H_ hl)⟩
structure oA (wl w w':J'):Prop where
 size:w.heap.size<=w'.heap.size
 cells:∀(b:Nat) (c:Array M') (e:Q') (f:Nat × Nat),w.heap[b]?=some (.cells c e f)->∃c',w'.heap[b]?=some (.cells c' e f)/\c'.size=c.size/\∀k,(wl.cell? ⟨b,k,none⟩=none\/wl.frozen? ⟨b,k,none⟩=true)->c'[k]?=c[k]?
 chan:∀(b:Nat) (o:Obj),w.heap[b]?=some o->o.isChan=true->w'.heap[b]?=some o
 gz:∀(b:Nat) (o:Obj),w.heap[b]?=some o->aR o=false->∃o',w'.heap[b]?=some o'/\aR o'=false/\(o.isChan=false->o'.isChan=false)/\(isMap o=true->isMap o'=true)
 still:∀(b:Nat) (o:Obj),wl.heap[b]?=some o->aR o=false->isMap o=false->w'.heap[b]?=w.heap[b]?
 os:w'.os=w.os
 out:w'.output=w.output
 tape:w'.tape=w.tape
theorem oA.refl (wl w:J'):oA wl w w:=⟨C_ _,fun _ c _ _ h=>⟨c,h,rfl,fun _ _=>rfl⟩,fun _ _ h _=>h,fun _ o h ho=>⟨o,h,ho,id,id⟩,fun _ _ _ _ _=>rfl,rfl,rfl,rfl⟩
theorem oA.there (h:oA wl wl w) {b k:Nat} (hb:b<wl.heap.size):(w.cell? ⟨b,k,none⟩=none↔wl.cell? ⟨b,k,none⟩=none)/\w.frozen? ⟨b,k,none⟩=wl.frozen? ⟨b,k,none⟩:=by
 obtain ⟨o,ho⟩:∃o,wl.heap[b]?=some o:=⟨_,H_ hb⟩
 cases hc:aR o with
 |true=>
  cases o<;>simp [aR] at hc
  obtain ⟨c',h1,h2,_⟩:=h.cells b _ _ _ ho
  simp [World.cell?,World.frozen?,ho,h1,h2]
 |false=>
  obtain ⟨o',h1,h2,_⟩:=h.gz b o ho hc
  cases o<;>simp [aR] at hc<;>cases o'<;>simp [aR] at h2<;>simp [World.cell?,World.frozen?,ho,h1]
variable {wm:J'}
theorem oA.trans {w1 w2:J'} (hl:oA wl wl wm) (hs:wl.heap.size=w.heap.size) (h:oA wl w w1) (h':oA wm w1 w2):oA wl w w2:=by
 refine ⟨D_ h.size h'.size,fun b c e f hb=> ?_,fun b o hb ho=>h'.chan b o (h.chan b o hb ho) ho,fun b o hb ho=> ?_,fun b o hb ho hm=>(h'.still b o ((hl.still b o hb ho hm).trans hb) ho hm).trans (h.still b o hb ho hm),h'.os.trans h.os,h'.out.trans h.out,h'.tape.trans h.tape⟩
 ·obtain ⟨c1,h1,h2,h3⟩:=h.cells b c e f hb
  obtain ⟨c2,h4,h5,h6⟩:=h'.cells b c1 e f h1
  have hlt:b<wl.heap.size:=hs▸(cI hb)
  refine ⟨c2,h4,h5.trans h2,fun k hk=>(h6 k ?_).trans (h3 k hk)⟩
  obtain ⟨e1,e2⟩:=hl.there (k:=k) hlt
  rcases hk with hk|hk
  ·exact .inl (e1.2 hk)
  ·exact .inr (e2.trans hk)
 ·obtain ⟨o1,h1,h2,h3⟩:=h.gz b o hb ho
  obtain ⟨o2,h4,h5,h6⟩:=h'.gz b o1 h1 h2
  exact ⟨o2,h4,h5,fun h=>h6.1 (h3.1 h),fun h=>h6.2 (h3.2 h)⟩
def vR (wl:J') (top:Nat) (e:Event):Prop:=
 match e.loc with
 | .cell a=>a.block<top/\e.sync=false/\(wl.heap.size<=a.block\/((∃v,wl.cell? a=some v)/\(e.write=true->wl.frozen? a=false)))
 | .obj r=>r<top/\(∀o:Obj,wl.heap[r]?=some o->aR o=false)/\(e.sync=true->e.write=false)
 | .mark .noRoom=>True
 |_=>False
def _root_.Go.Result.wd {α:Type}:Result α->J'
 | .ok _ w=>w
 | .halt _ w=>w
def _root_.Go.Result.D6 {α:Type} (w':J'):Result α->Result α
 | .ok a _=>.ok a w'
 | .halt h _=>.halt h w'
def rE {α:Type}:Result α->Prop
 | .ok _ _=>True
 | .halt (.panic _) _=>True
 |_=>False
structure Same {α:Type} (P:U') (s:Sem α) (wl w:J') (es:Array Event) (w':J'):Prop where
 run:s.runT P w es=((s.runT P wl es).1.D6 w',(s.runT P wl es).2)
 weak:bI (s.runT P wl es).1.wd w'
 mono:wl.drawn<=(s.runT P wl es).1.wd.drawn
 drawn:w'.drawn+wl.drawn=w.drawn+(s.runT P wl es).1.wd.drawn
 upd:oA wl w w'
 gR:oA wl wl (s.runT P wl es).1.wd
 evs:∃l:List Event,(s.runT P wl es).2=es++l.toArray/\∀e∈l,vR wl (s.runT P wl es).1.wd.heap.size e
 heap:wl.heap=w.heap->(s.runT P wl es).1.wd.heap=w'.heap
def U8 {α:Type} (P:U') (C:J'->Prop) (s:Sem α):Prop:=
 ∀wl w es,C wl->bI wl w->LM (s.runT P wl es).1/\(rE (s.runT P wl es).1->(∀i,wl.drawn+i<(s.runT P wl es).1.wd.drawn->w.tape (w.drawn+i)=wl.tape (wl.drawn+i))->∃w',Same P s wl w es w')
def ag {α:Type} (P:U') (s:Sem α):Prop:=U8 P (fun _=>True) s
variable {α:Type} {P:U'} {C:J'->Prop}
theorem ag.c {s:Sem α} (h:ag P s):U8 P C s:=fun wl w es _=>h wl w es trivial
def LI (C:J'->Prop):Prop:=∀wl wm,C wl->oA wl wl wm->C wm
theorem vR.mono {t t':Nat} {e:Event} (h:vR wl t e) (ht:t<=t'):vR wl t' e:=by
 unfold vR at *
 split<;>simp_all
 ·omega
 ·omega
theorem vR.back {t:Nat} {e:Event} (h:vR wm t e) (hl:oA wl wl wm):vR wl t e:=by
 unfold vR at *
 split<;>simp_all
 ·rename_i a _
  by_cases hb:wl.heap.size<=a.block
  ·exact .inl hb
  ·refine .inr ?_
   have A8:a.block<wl.heap.size:=by omega
   rcases h.2.2 with h3|⟨⟨v,hv⟩,h4⟩
   ·have:=hl.size;omega
   ·have hsp:a.spot=none:=by
     cases hs:a.spot with
     |none=>rfl
     |some x=>
      unfold World.cell? at hv
      split at hv<;>simp [hs] at hv
    obtain ⟨bb,oo,ss⟩:=a
    simp only at hsp;subst hsp
    obtain ⟨e1,e2⟩:=hl.there (b:=bb) (k:=oo) A8
    refine ⟨?_,fun hw=>e2▸h4 hw⟩
    cases hcv:wl.cell? ⟨bb,oo,none⟩ with
    |some v'=>exact ⟨v',rfl⟩
    |none=>rw [e1.2 hcv] at hv;cases hv
 ·rename_i r _
  intro o ho
  cases hc:aR o with
  |false=>rfl
  |true=>
   cases o<;>simp [aR] at hc
   obtain ⟨c',h1,_⟩:=hl.cells _ _ _ _ ho
   have:=h.2.1 _ h1
   simp [aR] at this
theorem bo (a:α):ag P (Sem.pure a):=by
 intro wl w es _ hw
 refine ⟨trivial,fun _ _=> ?_⟩
 exact ⟨w,rfl,hw,C_ _,by simp [Sem.runT,Result.wd],oA.refl _ _,oA.refl _ _,⟨[],by simp [Sem.runT],by simp⟩,fun h=>h⟩
theorem bd (h:Halt) (hh:pL h):ag P (Sem.halt h:Sem α):=by
 intro wl w es _ hw
 refine ⟨hh,fun _ _=> ?_⟩
 exact ⟨w,rfl,hw,C_ _,by simp [Sem.runT,Result.wd],oA.refl _ _,oA.refl _ _,⟨[],by simp [Sem.runT],by simp⟩,fun h=>h⟩
variable {β:Type} {x:Sem α} {f:α->Sem β}
theorem zw {es:Array Event} (h:rE ((x.bind f).runT P w es).1):rE (x.runT P w es).1:=by
 rw [Sem.runT_bind'] at h
 cases hx:x.runT P w es with
 |mk r es'=>
  rw [hx] at h
  cases r with
  |ok a w'=>trivial
  |halt hh w'=>cases hh<;>exact h
theorem mK (hC:LI C) (hx:U8 P C x) (hf:∀a,U8 P C (f a)):U8 P C (x.bind f):=by
 intro wl w es rq hw
 refine ⟨?_,fun fg C6=> ?_⟩
 ·have hb:=Sem.runT_bind' P x f wl es
  cases Dw:x.runT P wl es with
  |mk r WX=>
   rw [Dw] at hb
   cases r with
   |halt h GK=>rw [hb];have:=(hx wl wl es rq hw.self).1;rw [Dw] at this;exact this
   |ok a GK=>
    simp only at hb
    rw [hb]
    obtain ⟨_,Kg⟩:=(hx wl wl es rq hw.self).2 (by rw [Dw];trivial) (fun _ _=>rfl)
    have J5:=Kg.weak
    have J6:=Kg.gR
    rw [Dw] at J5 J6
    exact (hf a GK GK WX (hC _ _ rq J6) J5.self).1
 have U0:=zw fg
 have hb:=Sem.runT_bind' P x f wl es
 have CV:=Sem.runT_bind' P x f w es
 have key:∀v,bI wl v->(∀i,wl.drawn+i<(x.runT P wl es).1.wd.drawn->v.tape (v.drawn+i)=wl.tape (wl.drawn+i))->∃w',Same P x wl v es w':=fun v h1 h2=>(hx wl v es rq h1).2 U0 h2
 cases Dw:x.runT P wl es with
 |mk r WX=>
  rw [Dw] at hb U0 key
  cases r with
  |halt h GK=>
   simp only at hb
   rw [hb] at C6
   obtain ⟨w',hs⟩:=key w hw C6
   have hrun:=hs.run
   rw [Dw] at hrun
   rw [hrun] at CV
   simp only [Result.D6] at CV
   refine ⟨w', ?_, ?_, ?_, ?_,hs.upd, ?_, ?_, ?_⟩
   ·rw [hb,CV];rfl
   ·rw [hb];have:=hs.weak;rw [Dw] at this;exact this
   ·rw [hb];have:=hs.mono;rw [Dw] at this;exact this
   ·rw [hb];have:=hs.drawn;rw [Dw] at this;exact this
   ·rw [hb];have:=hs.gR;rw [Dw] at this;exact this
   ·rw [hb];have:=hs.evs;rw [Dw] at this;exact this
   ·rw [hb];have:=hs.heap;rw [Dw] at this;exact this
  |ok a GK=>
   simp only at hb
   rw [hb] at fg C6
   obtain ⟨_,Kg⟩:=key wl hw.self (fun _ _=>rfl)
   have J5:=Kg.weak
   have J6:=Kg.gR
   rw [Dw] at J5 J6
   have BK:C GK:=hC _ _ rq J6
   obtain ⟨_,Sv⟩:=(hf a GK GK WX BK J5.self).2 fg (fun _ _=>rfl)
   have hm:=Sv.mono
   obtain ⟨w1,hs⟩:=key w hw (fun i hi=>C6 i (E_ hi hm))
   have hrun:=hs.run
   have hd:=hs.drawn
   have Ze:=hs.mono
   have vC:=hs.weak
   have Ir:=hs.gR
   have uO:=hs.evs
   rw [Dw] at hrun hd Ze vC Ir uO
   simp only [Result.wd,Result.D6] at hrun hd Ze vC Ir uO
   obtain ⟨w',xv⟩:=(hf a GK w1 WX BK vC).2 fg (fun i hi=>by
    have e1:GK.drawn=wl.drawn+(GK.drawn - wl.drawn):=by omega
    have e2:w1.drawn+i=w.drawn+((GK.drawn - wl.drawn)+i):=by omega
    have:=C6 ((GK.drawn - wl.drawn)+i) (by omega)
    rw [hs.upd.tape,e2,this,Ir.tape]
    congr 1;omega)
   rw [hrun] at CV
   simp only at CV
   have hhp:=hs.heap
   rw [Dw] at hhp
   refine ⟨w', ?_, ?_, ?_, ?_, ?_, ?_, ?_,fun hh=>by rw [hb];exact xv.heap (hhp hh)⟩
   ·rw [hb,CV];exact xv.run
   ·rw [hb];exact xv.weak
   ·rw [hb];exact D_ Ze xv.mono
   ·rw [hb];have:=xv.drawn;omega
   ·exact oA.trans Ir hw.size hs.upd xv.upd
   ·rw [hb];exact oA.trans Ir rfl Ir xv.gR
   ·rw [hb]
    obtain ⟨l1,h1,h2⟩:=uO
    obtain ⟨l2,h3,h4⟩:=xv.evs
    refine ⟨l1++l2,by rw [h3,h1];simp,fun e he=> ?_⟩
    rcases List.mem_append.1 he with he|he
    ·exact (h2 e he).mono xv.gR.size
    ·exact (h4 e he).back Ir
theorem sd (hx:ag P x) (hf:∀a,ag P (f a)):ag P (x.bind f):=mK (fun _ _ _ _=>trivial) hx hf
variable {a:z_}
theorem bI.cell (h:bI wl w) {v:M'} (hc:wl.cell? a=some v):w.cell? a=some v:=by
 unfold World.cell? at *
 split at hc
 ·rename_i c e f hb
  split at hc
  ·cases hc
  rename_i hs
  obtain ⟨o',h1,h2⟩:=h.get hb
  cases h2 with
  |blind hb=>have:=hb.cells.1;simp [aR] at this
  |same=>rw [h1];simp only [hs,if_false];exact hc
  |cut g1 g2 g3=>
   rw [h1];simp only [hs,if_false]
   rw [g2 _ (cI hc)];exact hc
 ·cases hc
theorem nB {v:M'} (hc:w.cell? a=some v):a=⟨a.block,a.off,none⟩:=by
 unfold World.cell? at hc
 split at hc
 ·split at hc
  ·cases hc
  ·rename_i hs
   obtain ⟨b,o,s⟩:=a
   cases s with
   |none=>rfl
   |some x=>simp at hs
 ·cases hc
theorem dF {v:M'} (hc:w.cell? a=some v):∃c e f,w.heap[a.block]?=some (.cells c e f)/\c[a.off]?=some v:=by
 unfold World.cell? at hc
 split at hc
 ·rename_i c e f hb
  split at hc
  ·cases hc
  ·exact ⟨c,e,f,hb,hc⟩
 ·cases hc
theorem bI.frozen (h:bI wl w) {v:M'} (hc:wl.cell? a=some v) (hf:wl.frozen? a=false):w.frozen? a=false:=by
 obtain ⟨c,e,f,hb,hv⟩:=dF hc
 obtain ⟨o',h1,h2⟩:=h.get hb
 unfold World.frozen? at *
 rw [hb] at hf
 rw [h1]
 cases h2 with
 |blind hb=>have:=hb.cells.1;simp [aR] at this
 |same=>exact hf
 |cut g1 g2 g3=>
  rename_i c' f'
  cases kj:gd f' a.off with
  |false=>exact kj
  |true=>have:=g3 _ kj;unfold gd at this;exact absurd hf (by simp only at this ⊢;rw [this];decide)
variable {b:Bool}
theorem Db (hv:∀o,w.heap[a.block]?=some o->MR o=false):∃h,w.farLoad P a b=.error h/\pL h/\∀α (w':J'),¬rE (Result.halt h w':Result α):=by
 unfold World.farLoad
 split
 ·rename_i x u hb
  have hs:x.spot.isSome=true:=by
   have:=hv _ hb
   simp only [MR] at this
   cases hx:x.spot with
   |none=>rw [hx] at this;cases this
   |some y=>rfl
  have:w.viewLoad P x u a b=.error "memory seen as another type: a place without cells" :=by
   unfold World.viewLoad World.seen
   simp only [hs,Bool.or_true,if_true]
   rfl
  rw [this]
  exact ⟨_,rfl,trivial,fun _ _ h=>h⟩
 ·refine ⟨_,rfl, ?_,fun α w'=> ?_⟩
  ·unfold World.noCell
   split
   ·rename_i hb;exact absurd (hv _ hb) (by simp [MR])
   ·trivial
   ·trivial
  ·unfold World.noCell
   split<;>exact fun h=>h
theorem zy {v:M'} (hv:∀o,w.heap[a.block]?=some o->MR o=false):∃h,w.farStore P a v b=.error h/\pL h/\∀α (w':J'),¬rE (Result.halt h w':Result α):=by
 unfold World.farStore
 split
 ·rename_i x u hb
  have hs:x.spot.isSome=true:=by
   have:=hv _ hb
   simp only [MR] at this
   cases hx:x.spot with
   |none=>rw [hx] at this;cases this
   |some y=>rfl
  have:∃why,w.viewStore P x u a v b=.error why:=by
   unfold World.viewStore World.seen
   by_cases ht:tight P P.depth u=true
   ·simp only [ht,hs,Bool.or_true,if_true,Bool.not_true,qp,if_false]
    exact ⟨_,rfl⟩
   ·simp only [Bool.not_eq_true] at ht
    simp only [ht,Bool.not_false,if_true]
    exact ⟨_,rfl⟩
  obtain ⟨why,this⟩:=this
  rw [this]
  exact ⟨_,rfl,trivial,fun _ _ h=>h⟩
 ·refine ⟨_,rfl, ?_,fun α w'=> ?_⟩
  ·unfold World.noCell
   split
   ·rename_i hb;exact absurd (hv _ hb) (by simp [MR])
   ·trivial
   ·trivial
  ·unfold World.noCell
   split<;>exact fun h=>h
theorem nL (a:z_):ag P (load a):=by
 intro wl w es _ hw
 refine ⟨?_,fun fg C6=> ?_⟩
 ·show LM ((Sem.load .plain a Sem.pure).runT P wl es).1
  cases hc:wl.cell? a with
  |some v=>simp only [Sem.runT,hc];trivial
  |none=>
   obtain ⟨h,h1,h2,_⟩:=Db (P:=P) (a:=a) (b:=Mode.plain==.atomic) (fun o ho=>hw.ic a.block o ho)
   simp only [Sem.runT,hc,h1];exact h2
 show ∃w',Same P (Sem.load .plain a Sem.pure) wl w es w'
 have iO:rE ((Sem.load .plain a Sem.pure).runT P wl es).1:=fg
 cases hc:wl.cell? a with
 |none=>
  obtain ⟨h,h1,_,h2⟩:=Db (P:=P) (a:=a) (b:=Mode.plain==.atomic) (fun o ho=>hw.ic a.block o ho)
  simp only [Sem.runT,hc,h1] at iO
  exact absurd iO (h2 _ _)
 |some v=>
  have hc':=hw.cell hc
  have e1:(Sem.load .plain a Sem.pure).runT P wl es=(.ok v wl,es.push ⟨.cell a,false,false⟩):=by simp only [Sem.runT,hc];rfl
  have e2:(Sem.load .plain a Sem.pure).runT P w es=(.ok v w,es.push ⟨.cell a,false,false⟩):=by simp only [Sem.runT,hc'];rfl
  refine ⟨w,by rw [e1,e2];rfl,by rw [e1];exact hw,by rw [e1];exact C_ _,by rw [e1];simp [Result.wd],oA.refl _ _,by rw [e1];exact oA.refl _ _,⟨[⟨.cell a,false,false⟩],by rw [e1];simp, ?_⟩,by rw [e1];exact fun h=>h⟩
  intro e he
  simp only [List.mem_singleton] at he
  subst he
  obtain ⟨c,ee,f,hb,_⟩:=dF hc
  rw [e1]
  exact ⟨(cI hb),rfl,.inr ⟨⟨v,hc⟩,fun h=>by cases h⟩⟩
theorem heap_setCell (w:J') (a:z_) (v:M') (b:Nat):(w.setCell a v).heap[b]?=if a.block=b then (w.heap[b]?).map (fun| .cells c elem frozen=>.cells (if a.spot.isSome then c else c.setIfInBounds a.off v) elem frozen|o=>o) else w.heap[b]?:=by
 simp only [World.setCell,Array.getElem?_modify]
 split<;>rfl
theorem qC (a:z_) (v:M'):ag P (store a v):=by
 intro wl w es _ hw
 refine ⟨?_,fun fg C6=> ?_⟩
 ·show LM ((Sem.store .plain a v (Sem.pure ())).runT P wl es).1
  by_cases hv:(∃x,v=.agg x)\/(∃x,v=.tuple x)
  ·rcases hv with ⟨x,rfl⟩|⟨x,rfl⟩<;>trivial
  ·have er:∀u:J',(Sem.store .plain a v (Sem.pure ())).runT P u es=match u.cell? a with
    |some _=>if u.frozen? a then (.halt (.unsupported (.unsafePointer "a write to bytes that a string shares")) u,es) else (.ok () (u.setCell a v),es.push ⟨.cell a,true,false⟩)
    |none=>match u.farStore P a v (Mode.plain==.atomic) with
     | .ok (w,touched)=>(.ok () w,es++touched.toArray.map (⟨.cell ·,true,Mode.plain==.atomic⟩))
     | .error h=>(.halt h u,es):=by
    intro u
    cases v<;>first|exact absurd (.inl ⟨_,rfl⟩) hv|exact absurd (.inr ⟨_,rfl⟩) hv|rfl
   rw [er]
   cases hc:wl.cell? a with
   |some v0=>simp only [];split<;>trivial
   |none=>
    obtain ⟨h,h1,h2,_⟩:=zy (P:=P) (a:=a) (v:=v) (b:=Mode.plain==.atomic) (fun o ho=>hw.ic a.block o ho)
    simp only [h1];exact h2
 show ∃w',Same P (Sem.store .plain a v (Sem.pure ())) wl w es w'
 have iO:rE ((Sem.store .plain a v (Sem.pure ())).runT P wl es).1:=fg
 have Km:(∀x,v≠.agg x)/\(∀x,v≠.tuple x):=by
  constructor<;>rintro x rfl<;>exact iO.elim
 have er:∀u:J',(Sem.store .plain a v (Sem.pure ())).runT P u es=match u.cell? a with
  |some _=>if u.frozen? a then (.halt (.unsupported (.unsafePointer "a write to bytes that a string shares")) u,es) else (.ok () (u.setCell a v),es.push ⟨.cell a,true,false⟩)
  |none=>match u.farStore P a v (Mode.plain==.atomic) with
   | .ok (w,touched)=>(.ok () w,es++touched.toArray.map (⟨.cell ·,true,Mode.plain==.atomic⟩))
   | .error h=>(.halt h u,es):=by
  intro u
  cases v<;>first|exact absurd rfl (Km.1 _)|exact absurd rfl (Km.2 _)|rfl
 cases hc:wl.cell? a with
 |none=>
  obtain ⟨h,h1,_,h2⟩:=zy (P:=P) (a:=a) (v:=v) (b:=Mode.plain==.atomic) (fun o ho=>hw.ic a.block o ho)
  rw [er,hc] at iO
  simp only [h1] at iO
  exact absurd iO (h2 _ _)
 |some v0=>
  cases hf:wl.frozen? a with
  |true=>rw [er,hc] at iO;simp only [hf,if_true] at iO;exact iO.elim
  |false=>
   have hc':=hw.cell hc
   have ZA:=hw.frozen hc hf
   have e1:(Sem.store .plain a v (Sem.pure ())).runT P wl es=(.ok () (wl.setCell a v),es.push ⟨.cell a,true,false⟩):=by rw [er,hc];simp only [hf,qp,if_false]
   have e2:(Sem.store .plain a v (Sem.pure ())).runT P w es=(.ok () (w.setCell a v),es.push ⟨.cell a,true,false⟩):=by rw [er,hc'];simp only [ZA,qp,if_false]
   obtain ⟨c,ee,f,hb,BG⟩:=dF hc
   have hsp:=nB hc
   have QC:a.spot.isSome=false:=by rw [hsp];rfl
   have upd:∀u:J',bI wl u->oA wl u (u.setCell a v):=by
    intro u hu
    refine ⟨by simp [World.setCell],fun b c1 e1 f1 eo=> ?_,fun b o eo ho=> ?_,fun b o eo ho=> ?_,fun b o eo ho _=> ?_,rfl,rfl,rfl⟩
    ·rw [heap_setCell]
     by_cases KN:a.block=b
     ·subst KN
      refine ⟨c1.setIfInBounds a.off v,by simp [eo,QC],by simp,fun k hk=> ?_⟩
      rw [Y_]
      by_cases hka:a.off=k
      ·subst hka
       rw [<-hsp] at hk
       rcases hk with hk|hk
       ·rw [hc] at hk;cases hk
       ·rw [hf] at hk;cases hk
      ·simp [hka]
     ·exact ⟨c1,by simp [KN,eo],rfl,fun _ _=>rfl⟩
    ·rw [heap_setCell]
     split
     ·cases o<;>first|(cases ho;done)|(rw [eo];rfl)
     ·exact eo
    ·rw [heap_setCell]
     split
     ·refine ⟨o, ?_,ho,id,id⟩;cases o<;>first|(cases ho;done)|(rw [eo];rfl)
     ·exact ⟨o,eo,ho,id,id⟩
    ·rw [heap_setCell]
     have hne:a.block≠b:=by rintro rfl;rw [hb] at eo;cases eo;cases ho
     rw [if_neg hne]
   refine ⟨w.setCell a v,by rw [e1,e2];rfl, ?_,by rw [e1];exact C_ _,by rw [e1];simp [Result.wd,World.setCell],upd w hw,by rw [e1];exact upd wl hw.self,⟨[⟨.cell a,true,false⟩],by rw [e1];simp, ?_⟩,fun h=>by rw [e1];simp only [Result.wd,World.setCell,h]⟩
   ·rw [e1]
    refine ⟨by simp [World.setCell,hw.size,Result.wd],fun b o o' h1 h2=> ?_,hw.os,hw.out,fun b o h=> ?_⟩
    ·simp only [Result.wd,heap_setCell] at h1 h2
     by_cases KN:a.block=b
     ·simp only [KN,if_true] at h1 h2
      obtain ⟨p,hp,rfl⟩:=Option.map_eq_some_iff.1 h1
      obtain ⟨q,hq,rfl⟩:=Option.map_eq_some_iff.1 h2
      cases hw.obj b p q hp hq with
      |blind hb=>cases hb<;>first|exact .blind (.view _ _ _)|exact .blind (.late _ _)|exact .blind (.map _ _)|exact .blind (.chan _ _ _ _ _ _)
      |same=>exact .same _
      |cut g1 g2 g3=>
       refine .cut (by simp only [QC,qp,if_false,X_];exact g1) (fun k hk=> ?_) g3
       simp only [QC,qp,if_false,X_] at hk ⊢
       rw [Y_,Y_]
       by_cases e:a.off=k
       ·subst e;simp [hk,E_ hk g1]
       ·simp [e,g2 k hk]
     ·simp only [KN,if_false] at h1 h2
      exact hw.obj b o o' h1 h2
    ·simp only [Result.wd,heap_setCell] at h
     split at h
     ·obtain ⟨p,hp,hq⟩:=Option.map_eq_some_iff.1 h
      have Ui:=hw.ic _ _ hp
      subst hq
      cases p<;>first|rfl|exact Ui
     ·exact hw.ic _ _ h
   ·intro e he
    simp only [List.mem_singleton] at he
    subst he
    rw [e1]
    exact ⟨by simp only [Result.wd,World.setCell,Array.size_modify];exact (cI hb),rfl,.inr ⟨⟨v0,hc⟩,fun _=>hf⟩⟩
theorem eZ (o:Obj) (hv:MR o=false):ag P (newObj o):=by
 intro wl w es _ hw
 refine ⟨trivial,fun fg C6=> ?_⟩
 show ∃w',Same P (Sem.new o Sem.pure) wl w es w'
 have e1:(Sem.new o Sem.pure).runT P wl es=(.ok wl.heap.size {wl with heap:=wl.heap.push o},es):=rfl
 have e2:(Sem.new o Sem.pure).runT P w es=(.ok w.heap.size {w with heap:=w.heap.push o},es):=rfl
 have upd:∀u:J',wl.heap.size=u.heap.size->oA wl u {u with heap:=u.heap.push o}:=fun u hsu=>
  ⟨by simp,fun b c e f hb=>⟨c,by rw [Array.getElem?_push_lt (cI hb)];rw [Array.getElem?_eq_some_iff] at hb;obtain ⟨h1,h2⟩:=hb;rw [h2],rfl,fun _ _=>rfl⟩,
   fun b x hb _=>by rw [Array.getElem?_push_lt (cI hb)];obtain ⟨h1,h2⟩:=Array.getElem?_eq_some_iff.1 hb;rw [h2],
   fun b x hb hx=>⟨x,by rw [Array.getElem?_push_lt (cI hb)];obtain ⟨h1,h2⟩:=Array.getElem?_eq_some_iff.1 hb;rw [h2],hx,id,id⟩,
   fun b x hb _ _=>by have hlt:b<u.heap.size:=hsu▸(cI hb);show (u.heap.push o)[b]?=_;rw [Array.getElem?_push,if_neg (by omega)],rfl,rfl,rfl⟩
 refine ⟨{w with heap:=w.heap.push o},by rw [e1,e2,hw.size];rfl, ?_,by rw [e1];exact C_ _,by rw [e1];simp [Result.wd],upd w hw.size,by rw [e1];exact upd wl rfl,⟨[],by rw [e1];simp,by simp⟩,fun h=>by rw [e1];simp only [Result.wd,h]⟩
 rw [e1]
 refine ⟨by simp [Result.wd,hw.size],fun b p q h1 h2=> ?_,hw.os,hw.out,fun b x h=> ?_⟩
 ·simp only [Result.wd,Array.getElem?_push] at h1 h2
  rw [hw.size] at h1
  split at h1
  ·rename_i hb;rw [if_pos hb] at h2;cases h1;cases h2;exact .same _
  ·rename_i hb;rw [if_neg hb] at h2;exact hw.obj b p q h1 h2
 ·simp only [Result.wd,Array.getElem?_push] at h
  split at h
  ·cases h;exact hv
  ·exact hw.ic _ _ h
theorem lg (q:Question):ag P (choose q):=by
 intro wl w es _ hw
 refine ⟨?_,fun fg C6=> ?_⟩
 ·show LM ((Sem.choose q Sem.pure).runT P wl es).1
  by_cases hq:q.forced=true
  ·simp [-Sem.runT_eq,Sem.runT,hq,LM]
  ·simp [-Sem.runT_eq,Sem.runT,hq,LM]
 show ∃w',Same P (Sem.choose q Sem.pure) wl w es w'
 have Ke:∀i,wl.drawn+i<((Sem.choose q Sem.pure).runT P wl es).1.wd.drawn->w.tape (w.drawn+i)=wl.tape (wl.drawn+i):=C6
 by_cases hq:q.forced=true
 ·have e:∀u:J',(Sem.choose q Sem.pure).runT P u es=(.ok 0 u,es):=fun u=>by simp [Sem.runT,hq]
  exact ⟨w,by rw [e,e];rfl,by rw [e];exact hw,by rw [e];exact C_ _,by rw [e];simp [Result.wd],oA.refl _ _,by rw [e];exact oA.refl _ _,⟨[],by rw [e];simp,by simp⟩,fun h=>by rw [e];exact h⟩
 ·have e:∀u:J',(Sem.choose q Sem.pure).runT P u es=(.ok (q.cut (u.tape u.drawn q)) {u with drawn:=u.drawn+1},es):=fun u=>by simp [Sem.runT,hq]
  rw [e] at Ke
  have ht:=Ke 0 (by simp [Result.wd])
  simp only [Nat.add_zero] at ht
  have upd:∀u:J',oA wl u {u with drawn:=u.drawn+1}:=fun u=>⟨C_ _,fun _ c _ _ h=>⟨c,h,rfl,fun _ _=>rfl⟩,fun _ _ h _=>h,fun _ o h ho=>⟨o,h,ho,id,id⟩,fun _ _ _ _ _=>rfl,rfl,rfl,rfl⟩
  exact ⟨{w with drawn:=w.drawn+1},by rw [e,e,ht];rfl,by rw [e];exact ⟨hw.size,hw.obj,hw.os,hw.out,hw.ic⟩,by rw [e];simp [Result.wd],by rw [e];simp [Result.wd];omega,upd w,by rw [e];exact upd wl,⟨[],by rw [e];simp,by simp⟩,fun h=>by rw [e];exact h⟩
theorem vd (k:U'->Sem α) (h:ag P (k P)):ag P (Sem.program k):=fun wl w es h0 h1=>⟨(h wl w es h0 h1).1,fun h2 h3=>let ⟨w',hs⟩:=(h wl w es h0 h1).2 h2 h3;⟨w',hs.run,hs.weak,hs.mono,hs.drawn,hs.upd,hs.gR,hs.evs,hs.heap⟩⟩
theorem oW:ag P (mark .noRoom):=by
 intro wl w es _ hw
 refine ⟨trivial,fun fg C6=> ?_⟩
 show ∃w',Same P (Sem.mark .noRoom (Sem.pure ())) wl w es w'
 have e:∀u:J',(Sem.mark .noRoom (Sem.pure ())).runT P u es=(.ok () u,es.push ⟨.mark .noRoom,false,true⟩):=fun u=>rfl
 exact ⟨w,by rw [e,e];rfl,by rw [e];exact hw,by rw [e];exact C_ _,by rw [e];simp [Result.wd],oA.refl _ _,by rw [e];exact oA.refl _ _,⟨[⟨.mark .noRoom,false,true⟩],by rw [e];simp,by simp [vR]⟩,fun h=>by rw [e];exact h⟩
def xZ (r:Nat) (w:J'):Prop:=∀o:Obj,w.heap[r]?=some o->isMap o=true
theorem jN (r:Nat):LI (fun w=>r<w.heap.size/\xZ r w):=by
 rintro wl wm ⟨hl,h⟩ hu
 refine ⟨E_ hl hu.size,fun o ho=> ?_⟩
 obtain ⟨o0,h0⟩:∃o,wl.heap[r]?=some o:=⟨_,H_ hl⟩
 have hm:=h _ h0
 obtain ⟨o',h1,_,_,h3⟩:=hu.gz _ _ h0 (uD hm).1
 rw [h1] at ho;cases ho
 exact h3 hm
theorem jU (r:Nat) (o:Obj) (h1:aR o=false) (h2:o.isChan=false) (h3:MR o=false) (h4:isMap o=true):U8 P (fun w=>r<w.heap.size/\xZ r w) (setObj r o):=by
 rintro wl w es ⟨hlt,hno⟩ hw
 refine ⟨?_,fun fg C6=> ?_⟩
 ·show LM ((Sem.setObj r o (Sem.pure ())).runT P wl es).1
  cases hr:wl.heap[r]? with
  |none=>simp only [Sem.runT,hr];trivial
  |some p=>cases p<;>simp only [Sem.runT,hr]<;>trivial
 show ∃w',Same P (Sem.setObj r o (Sem.pure ())) wl w es w'
 have iO:rE ((Sem.setObj r o (Sem.pure ())).runT P wl es).1:=fg
 cases hr:wl.heap[r]? with
 |none=>simp only [Sem.runT,hr] at iO;exact iO.elim
 |some p=>
  cases hc:aR p with
  |true=>cases p<;>simp [aR] at hc;simp only [Sem.runT,hr] at iO;exact iO.elim
  |false=>
   obtain ⟨p',g1,g2⟩:=hw.get hr
   have Wt:=hno _ hr
   have QI:p'=p:=by cases g2 with
    |same=>rfl
    |cut=>simp [aR] at hc
    |blind hb=>rw [hb.TH] at Wt;cases Wt
   subst QI
   have hc':=hc
   have Wv:=(uD Wt).2
   have e:∀(u:J') (p':Obj),aR p'=false->u.heap[r]?=some p'->(Sem.setObj r o (Sem.pure ())).runT P u es=(.ok () {u with heap:=u.heap.setIfInBounds r o},es.push ⟨.obj r,true,o.isChan⟩):=by
    intro u p' hc hu
    cases p'<;>first|(simp [aR] at hc;done)|(simp only [Sem.runT,hu])
   have upd:∀(u:J') (q:Obj),aR q=false->q.isChan=false->u.heap[r]?=some q->oA wl u {u with heap:=u.heap.setIfInBounds r o}:=by
    intro u _ hc Wv hu
    refine ⟨by simp,fun b c ee f hb=>⟨c, ?_,rfl,fun _ _=>rfl⟩,fun b q hb hq=> ?_,fun b q hb hq=> ?_,fun b q hb hq hqm=> ?_,rfl,rfl,rfl⟩
    ·have hne:r≠b:=by rintro rfl;rw [hu] at hb;cases hb;simp [aR] at hc
     simpa [I_ hne] using hb
    ·have hne:r≠b:=by rintro rfl;rw [hu] at hb;cases hb;rw [Wv] at hq;cases hq
     simpa [I_ hne] using hb
    ·by_cases po:r=b
     ·subst po
      exact ⟨o,by simp [(cI hu)],h1,fun _=>h2,fun _=>h4⟩
     ·exact ⟨q,by simpa [I_ po] using hb,hq,id,id⟩
    ·have hne:r≠b:=by rintro rfl;rw [hr] at hb;cases hb;rw [Wt] at hqm;cases hqm
     simp [I_ hne]
   have hl:=e wl _ hc hr
   refine ⟨{w with heap:=w.heap.setIfInBounds r o},by rw [hl,e w _ hc' g1];rfl, ?_,by rw [hl];exact C_ _,by rw [hl];simp [Result.wd],upd w _ hc' Wv g1,by rw [hl];exact upd wl _ hc Wv hr,⟨[⟨.obj r,true,o.isChan⟩],by rw [hl];simp, ?_⟩,fun h=>by rw [hl];simp only [Result.wd,h]⟩
   ·rw [hl]
    refine ⟨by simp [Result.wd,hw.size],fun b q q' k1 k2=> ?_,hw.os,hw.out,fun b x k=> ?_⟩
    ·simp only [Result.wd,Y_] at k1 k2
     by_cases po:r=b
     ·subst po
      simp only [if_true] at k1 k2
      rw [if_pos hlt] at k1;rw [if_pos (hw.size▸hlt)] at k2
      cases k1;cases k2;exact .same _
     ·simp only [po,if_false] at k1 k2
      exact hw.obj b q q' k1 k2
    ·simp only [Result.wd,Y_] at k
     split at k
     ·first
       |(cases k;exact h3)
       |(split at k
         ·cases k;exact h3
         ·cases k)
     ·exact hw.ic _ _ k
   ·intro ev he
    simp only [List.mem_singleton] at he
    subst he
    rw [hl]
    exact ⟨by simp only [Result.wd,X_];exact hlt,fun o' ho=>by rw [hr] at ho;cases ho;exact hc,fun h=>by rw [h2] at h;cases h⟩
theorem cJ (r:Nat) {f:Obj->Sem α} (h:∀o,aR o=false->U8 P (fun w=>w.heap[r]?=some o) (f o)) (lW:∀o o',na o o'->f o'=f o\/∀w es,¬rE ((f o).runT P w es).1):ag P ((getObj r).bind f):=by
 intro wl w es _ hw
 refine ⟨?_,fun fg C6=> ?_⟩
 ·rw [Sem.runT_bind']
  rw [show getObj r=Sem.getObj r Sem.pure from rfl]
  cases hr:wl.heap[r]? with
  |none=>simp only [Sem.runT,hr];trivial
  |some o=>
   cases hc:aR o with
   |true=>cases o<;>simp [aR] at hc;simp only [Sem.runT,hr];trivial
   |false=>
    have e:(Sem.getObj r Sem.pure).runT P wl es=(.ok o wl,es.push ⟨.obj r,false,o.isChan⟩):=by
     cases o<;>first|(simp [aR] at hc;done)|(simp only [Sem.runT,hr])
    rw [e]
    exact (h o hc wl wl _ hr hw.self).1
 have U0:=zw fg
 cases hr:wl.heap[r]? with
 |none=>exact absurd U0 (by show ¬rE ((Sem.getObj r Sem.pure).runT P wl es).1;simp only [Sem.runT,hr];exact fun h=>h)
 |some o=>
  cases hc:aR o with
  |true=>cases o<;>simp [aR] at hc;exact absurd U0 (by show ¬rE ((Sem.getObj r Sem.pure).runT P wl es).1;simp only [Sem.runT,hr];exact fun h=>h)
  |false=>
   have e:∀u:J',u.heap[r]?=some o->((getObj r).bind f).runT P u es=(f o).runT P u (es.push ⟨.obj r,false,o.isChan⟩):=by
    intro u hu
    rw [Sem.runT_bind']
    have:(getObj r).runT P u es=(.ok o u,es.push ⟨.obj r,false,o.isChan⟩):=by
     show (Sem.getObj r Sem.pure).runT P u es=_
     cases o<;>first|(simp [aR] at hc;done)|(simp only [Sem.runT,hu])
    rw [this]
   obtain ⟨o',h1,h2⟩:=hw.get hr
   have e':((getObj r).bind f).runT P w es=(f o).runT P w (es.push ⟨.obj r,false,o.isChan⟩):=by
    cases h2 with
    |same=>exact e _ h1
    |cut=>simp [aR] at hc
    |blind hb=>
     rw [Sem.runT_bind']
     have:(getObj r).runT P w es=(.ok o' w,es.push ⟨.obj r,false,o'.isChan⟩):=by
      show (Sem.getObj r Sem.pure).runT P w es=_
      have hc':=hb.cells.2
      cases o'<;>first|(simp [aR] at hc';done)|(simp only [Sem.runT,h1])
     rw [this,hb.Jd]
     rcases lW _ _ hb with ZN|ZN
     ·simp only [ZN]
     ·rw [e _ hr] at fg;exact absurd fg (ZN _ _)
   rw [e _ hr] at fg C6
   obtain ⟨w',hs⟩:=(h o hc wl w (es.push ⟨.obj r,false,o.isChan⟩) hr hw).2 fg C6
   refine ⟨w',by rw [e _ hr,e'];exact hs.run,by rw [e _ hr];exact hs.weak,by rw [e _ hr];exact hs.mono,by rw [e _ hr];exact hs.drawn,hs.upd,by rw [e _ hr];exact hs.gR, ?_,fun h=>by rw [e _ hr];exact hs.heap h⟩
   rw [e _ hr]
   obtain ⟨l,h3,h4⟩:=hs.evs
   refine ⟨⟨.obj r,false,o.isChan⟩::l,by rw [h3];apply Array.ext';simp,fun ev he=> ?_⟩
   rcases List.mem_cons.1 he with rfl|he
   ·exact ⟨E_ (cI hr) hs.gR.size,fun o ho=>by rw [hr] at ho;cases ho;exact hc,fun _=>rfl⟩
   ·exact h4 ev he
class Nt {α:Type} (P:U') (s:Sem α):Prop where
 out:ag P s
theorem nt {s:Sem α} (h:ag P s:=by repeat' first|(with_reducible first|exact Nt.out|assumption|refine zY _ (fun _=> ?_) (fun _ _ b=>by cases b<;>first|exact .inl rfl|exact .inr fun _ _ h=>h)|refine af ?_ fun _=> ?_|refine dZ ?_|refine fL (fun _=> ?_) (fun _=> ?_)|refine jg (fun _ _=> ?_) _ _|refine jf (fun _ _=> ?_) _ _|refine gp (fun _ _=> ?_) _ _|refine jO (fun _=> ?_) _)|split):ag P s:=h
instance (q:Question):Nt P (choose q):=⟨lg _⟩
instance (a:z_):Nt P (load a):=⟨nL _⟩
instance:Nt P (mark .noRoom):=⟨oW⟩
instance (a:α):Nt P (Sem.pure a):=⟨bo _⟩
instance (a:z_) (v:M'):Nt P (store a v):=⟨qC _ _⟩
theorem af (hx:ag P x) (hf:∀a,ag P (f a)):ag P (x>>=f):=sd hx hf
theorem zY (r:Nat) {f:Obj->Sem α} (h:∀o,ag P (f o)) (hb:∀o o',na o o'->f o'=f o\/∀w es,¬rE ((f o).runT P w es).1):ag P (getObj r>>=f):=cJ r (fun o _=>(h o).c) hb
theorem dZ {f:α->β} (hx:ag P x):ag P (Functor.map f x):=sd hx (fun a=>bo (f a))
theorem aj (a:α):ag P (Pure.pure a:Sem α):=bo a
instance (a:α):Nt P (Pure.pure a:Sem α):=⟨aj _⟩
theorem bn (a:String):ag P (stuck a:Sem α):=bd _ trivial
instance (a:String):Nt P (stuck a:Sem α):=⟨bn _⟩
theorem fu (a:Unsupported) (h:pL (.unsupported a)):ag P (unsupported a:Sem α):=bd _ h
theorem wX (a:String):ag P (unsupported (.noEntry a):Sem α):=bd _ trivial
instance (a:String):Nt P (unsupported (.noEntry a):Sem α):=⟨wX _⟩
theorem wW (a:String):ag P (unsupported (.unsafePointer a):Sem α):=bd _ trivial
instance (a:String):Nt P (unsupported (.unsafePointer a):Sem α):=⟨wW _⟩
theorem oV (a:String):ag P (unsupported (.resourceLimit a):Sem α):=bd _ trivial
instance (a:String):Nt P (unsupported (.resourceLimit a):Sem α):=⟨oV _⟩
theorem wY:ag P (unsupported .addressObserved:Sem α):=bd _ trivial
instance:Nt P (unsupported .addressObserved:Sem α):=⟨wY⟩
theorem vk (a:M'):ag P (goPanic a:Sem α):=bd _ trivial
instance (a:M'):Nt P (goPanic a:Sem α):=⟨vk _⟩
theorem gW:ag P program:=vd _ (bo _)
instance:Nt P program:=⟨gW⟩
theorem bE {s s':Sem α} (h:∀w es,s.runT P w es=s'.runT P w es) (hs:ag P s'):ag P s:=by
 intro wl w es h0 h1
 refine ⟨by rw [h];exact (hs wl w es h0 h1).1,fun h2 h3=> ?_⟩
 rw [h] at h2 h3
 obtain ⟨w',k⟩:=(hs wl w es h0 h1).2 h2 h3
 exact ⟨w',by rw [h,h];exact k.run,by rw [h];exact k.weak,by rw [h];exact k.mono,by rw [h];exact k.drawn,k.upd,by rw [h];exact k.gR,by rw [h];exact k.evs,fun hh=>by rw [h];exact k.heap hh⟩
theorem gV (t:Q'):ag P (typeInfo t):=by
 unfold typeInfo
 refine af gW fun p=> ?_
 split
 ·exact bo _
 ·exact bd _ trivial
instance (t:Q'):Nt P (typeInfo t):=⟨gV _⟩
theorem cE (t:Q'):ag P (underlying t):=by
 unfold underlying
 refine af gW fun p=> ?_
 split
 ·exact bo _
 ·exact bd _ trivial
instance (t:Q'):Nt P (underlying t):=⟨cE _⟩
theorem bf (t:Q') {f:TypeDesc->Sem α} (h:∀d,P.underlying t=some d->ag P (f d)):ag P (underlying t>>=f):=by
 cases hu:P.underlying t with
 |none=>
  refine bE (s':=Sem.halt (.stuck "no such type")) (fun w es=> ?_) (bd _ trivial)
  show ((underlying t).bind f).runT P w es=_
  rw [Sem.runT_bind']
  have:(underlying t).runT P w es=(.halt (.stuck "no such type") w,es):=by
   show ((Sem.program Sem.pure).bind _).runT P w es=_
   simp only [Sem.bind,Sem.runT,hu]
   rfl
  rw [this];rfl
 |some d=>
  refine bE (s':=f d) (fun w es=> ?_) (h d hu)
  show ((underlying t).bind f).runT P w es=_
  rw [Sem.runT_bind']
  have:(underlying t).runT P w es=(.ok d w,es):=by
   show ((Sem.program Sem.pure).bind _).runT P w es=_
   simp only [Sem.bind,Sem.runT,hu]
   rfl
  rw [this]
theorem gI (t:Q'):ag P (sizeOf t):=af (gV t) fun _=>bo _
instance (t:Q'):Nt P (sizeOf t):=⟨gI _⟩
theorem lO (t:Q'):ag P (zeroValue t):=by
 unfold zeroValue
 refine af (gV t) fun p=> ?_
 split
 ·exact bo _
 ·exact bd _ trivial
instance (t:Q'):Nt P (zeroValue t):=⟨lO _⟩
theorem mg (t:Q'):ag P (isAgg t):=by
 unfold isAgg
 refine af (cE t) fun p=> ?_
 split<;>exact bo _
instance (t:Q'):Nt P (isAgg t):=⟨mg _⟩
theorem Ap (t:Q') (cs:Array M') (off:Nat):ag P (part t cs off):=by
 unfold part
 refine af (mg t) fun b=> ?_
 split
 ·exact af (gI t) fun _=>bo _
 ·split
  ·exact bo _
  ·exact bd _ trivial
instance (t:Q') (cs:Array M') (off:Nat):Nt P (part t cs off):=⟨Ap _ _ _⟩
theorem jC (a:z_):∀(n i:Nat) (acc:Array M'),ag P (loadCellsFrom a i n acc)
 |0,_,_=>bo _
 |n+1,i,acc=>af (nL _) fun v=>jC a n (i+1) (acc.push v)
theorem lR (a:z_) (n:Nat):ag P (loadCells a n):=jC a n 0 #[]
instance (a:z_) (n:Nat):Nt P (loadCells a n):=⟨lR _ _⟩
theorem eE (a:z_):∀(vs:List M') (i:Nat),ag P (storeCells a vs i)
 |[],_=>bo _
 |_::rest,i=>af (qC _ _) fun _=>eE a rest (i+1)
instance (a:z_) (vs:List M') (i:Nat):Nt P (storeCells a vs i):=⟨eE _ _ _⟩
theorem oh (t:Q') (a:z_):ag P (loadVar t a):=by
 unfold loadVar
 refine af (mg t) fun b=> ?_
 split
 ·exact af (gI t) fun n=>af (lR a n) fun _=>bo _
 ·exact nL a
instance (t:Q') (a:z_):Nt P (loadVar t a):=⟨oh _ _⟩
theorem tG (t:Q') (a:z_) (v:M'):ag P (storeVar t a v):=by
 unfold storeVar
 refine af (gI t) fun n=> ?_
 split
 ·exact af (bd _ trivial) fun _=>eE a _ 0
 ·exact eE a _ 0
instance (t:Q') (a:z_) (v:M'):Nt P (storeVar t a v):=⟨tG _ _ _⟩
theorem oY (t:Q') (c:Array M'):ag P (newRow t c):=af (eZ _ rfl) fun _=>bo _
instance (t:Q') (c:Array M'):Nt P (newRow t c):=⟨oY _ _⟩
theorem oX (t:Q') (v:M'):ag P (newVar t v):=oY t _
instance (t:Q') (v:M'):Nt P (newVar t v):=⟨oX _ _⟩
theorem xe (t:Q'):ag P (elemOf t):=by
 unfold elemOf
 refine af (cE t) fun d=> ?_
 split
 ·exact bo _
 ·exact bd _ trivial
theorem yz (e:RuntimeError):ag P (runtimePanic e:Sem α):=by
 unfold runtimePanic
 refine af gW fun p=> ?_
 cases e<;>first
  |exact bd _ trivial
  |(refine af (xe _) fun t=>af (oX _ _) fun _=>bd _ trivial)
instance (e:RuntimeError):Nt P (runtimePanic e:Sem α):=⟨yz _⟩
theorem qk (k:IntKind) (x y:Int) (c:BoundsCode):ag P (boundsPanic k x y c:Sem α):=by
 unfold boundsPanic
 simp only []
 split
 ·exact af (dZ (lg _)) fun s=>yz _
 ·exact af (bo _) fun s=>yz _
instance (k:IntKind) (x y:Int) (c:BoundsCode):Nt P (boundsPanic k x y c:Sem α):=⟨qk _ _ _ _⟩
theorem oi (v:M'):ag P (asIntOf v):=by
 unfold asIntOf
 split<;>first|exact bo _|exact bd _ trivial
instance (v:M'):Nt P (asIntOf v):=⟨oi _⟩
theorem jP (v:M'):ag P (asInt v):=af (oi v) fun _=>bo _
instance (v:M'):Nt P (asInt v):=⟨jP _⟩
theorem lj (v:M'):ag P (asBool v):=by
 unfold asBool
 split<;>first|exact bo _|exact bd _ trivial
instance (v:M'):Nt P (asBool v):=⟨lj _⟩
theorem yx (v:M'):ag P (asAgg v):=by
 unfold asAgg
 split<;>first|exact bo _|exact bd _ trivial
instance (v:M'):Nt P (asAgg v):=⟨yx _⟩
theorem pd (v:M'):ag P (asAddr v):=by
 unfold asAddr
 split<;>first|exact bo _|exact bd _ trivial|exact yz _
instance (v:M'):Nt P (asAddr v):=⟨pd _⟩
theorem tE (v:M'):ag P (Instr.sureAddr v):=by
 unfold Instr.sureAddr
 split<;>first|exact bo _|exact bd _ trivial
instance (v:M'):Nt P (Instr.sureAddr v):=⟨tE _⟩
theorem vx (n:Nat):ag P (askRoom n):=by
 unfold askRoom
 split
 ·exact oW
 ·exact bo _
instance (n:Nat):Nt P (askRoom n):=⟨vx _⟩
theorem yy (t:Q') (b:Bool) (v:M'):ag P (Instr.alloc t b v):=by
 unfold Instr.alloc
 try simp only []
 all_goals exact nt
theorem Cq (t:Q') (v:M'):ag P (Instr.box t v):=by
 unfold Instr.box
 try simp only []
 all_goals exact nt
theorem xb (t:Q') (v:M'):ag P (Instr.loadAt t v):=by
 unfold Instr.loadAt
 try simp only []
 all_goals exact nt
theorem uZ (t:Q') (a v:M'):ag P (Instr.storeAt t a v):=by
 unfold Instr.storeAt
 try simp only []
 all_goals exact nt
theorem vh (t:Q') (a v:M'):ag P (Instr.indexAt t a v):=by
 unfold Instr.indexAt
 try simp only []
 all_goals exact nt
theorem yq (t:Q') (a v:M'):ag P (Instr.index t a v):=by
 unfold Instr.index
 try simp only []
 all_goals exact nt
theorem yr (t:Q') (a:M') (n:Nat):ag P (Instr.field t a n):=by
 unfold Instr.field
 try simp only []
 all_goals exact nt
theorem vn (a:M') (n:Nat):ag P (Instr.extract a n):=by
 unfold Instr.extract
 try simp only []
 all_goals exact nt
theorem r9 (t:Q') (a b:M'):ag P (Instr.makeSlice t a b):=by
 unfold Instr.makeSlice
 try simp only []
 all_goals exact nt
theorem qU (a:M') (n:Nat) (c:BoundsCode):ag P (Instr.sliceBound a n c):=by
 unfold Instr.sliceBound
 try simp only []
 all_goals exact nt
instance (a:M') (n:Nat) (c:BoundsCode):Nt P (Instr.sliceBound a n c):=⟨qU _ _ _⟩
theorem qg (s:Bool) (l c:Nat) (x y z:Option M'):ag P (Instr.sliceBounds s l c x y z):=by
 unfold Instr.sliceBounds
 try simp only []
 all_goals exact nt
instance (s:Bool) (l c:Nat) (x y z:Option M'):Nt P (Instr.sliceBounds s l c x y z):=⟨qg _ _ _ _ _ _⟩
theorem ym (t:Q') (v:M') (x y z:Option M'):ag P (Instr.slice t v x y z):=by
 unfold Instr.slice
 try simp only []
 all_goals exact nt
instance (t:Q') (v:M') (x y z:Option M'):Nt P (Instr.slice t v x y z):=⟨ym _ _ _ _ _⟩
theorem vc (t:Q') (v:M') (x y z:Option M'):ag P (Instr.sliceAt t v x y z):=by
 unfold Instr.sliceAt
 try simp only []
 all_goals exact nt
theorem tJ (op:BinOp) (k:IntKind) (x y:Int):ag P (Op.intArith op k x y):=by
 unfold Op.intArith
 try simp only []
 all_goals exact nt
instance (op:BinOp) (k:IntKind) (x y:Int):Nt P (Op.intArith op k x y):=⟨tJ _ _ _ _⟩
theorem xc (op:BinOp) (k:IntKind) (x y:Int):ag P (Op.intDiv op k x y):=by
 unfold Op.intDiv
 try simp only []
 all_goals exact nt
instance (op:BinOp) (k:IntKind) (x y:Int):Nt P (Op.intDiv op k x y):=⟨xc _ _ _ _⟩
theorem xd (op:BinOp) (x y:Int):ag P (Op.intCmp op x y):=by
 unfold Op.intCmp
 try simp only []
 all_goals exact nt
instance (op:BinOp) (x y:Int):Nt P (Op.intCmp op x y):=⟨xd _ _ _⟩
theorem vg (op:BinOp) (k:IntKind) (x y:Int):ag P (Op.intBits op k x y):=by
 unfold Op.intBits
 try simp only []
 all_goals exact nt
instance (op:BinOp) (k:IntKind) (x y:Int):Nt P (Op.intBits op k x y):=⟨vg _ _ _ _⟩
theorem yn (op:BinOp) (k k':IntKind) (x y:Int):ag P (Op.shift op k x k' y):=by
 unfold Op.shift
 try simp only []
 all_goals exact nt
instance (op:BinOp) (k k':IntKind) (x y:Int):Nt P (Op.shift op k x k' y):=⟨yn _ _ _ _ _⟩
theorem tF (op:BinOp) (x y:ByteArray):ag P (Op.stringOp op x y):=by
 unfold Op.stringOp
 try simp only []
 all_goals exact nt
instance (op:BinOp) (x y:ByteArray):Nt P (Op.stringOp op x y):=⟨tF _ _ _⟩
theorem yl (op:UnOp) (x:M'):ag P (Op.unary op x):=by
 unfold Op.unary
 try simp only []
 all_goals exact nt
theorem yp (x:M'):ag P (Builtin.lenOf x):=by
 unfold Builtin.lenOf
 try simp only []
 all_goals exact nt
instance (x:M'):Nt P (Builtin.lenOf x):=⟨yp _⟩
theorem qX (s n:Nat) (x:M'):ag P (Builtin.firstCells s n x):=by
 unfold Builtin.firstCells
 try simp only []
 all_goals exact nt
instance (s n:Nat) (x:M'):Nt P (Builtin.firstCells s n x):=⟨qX _ _ _⟩
theorem Co (t:Array Q') (u:Q') (a:Array M'):ag P (Builtin.len_ t u a):=by
 unfold Builtin.len_
 try simp only []
 all_goals exact nt
theorem Cp (t:Array Q') (u:Q') (a:Array M'):ag P (Builtin.cap_ t u a):=by
 unfold Builtin.cap_
 try simp only []
 all_goals exact nt
theorem Au (t:Array Q') (u:Q') (a:Array M'):ag P (Builtin.copy_ t u a):=by
 unfold Builtin.copy_
 try simp only []
 all_goals exact nt
theorem Aq (a b:M'):ag P (Builtin.min2 a b):=by
 unfold Builtin.min2
 try simp only []
 all_goals exact nt
theorem Ar (a b:M'):ag P (Builtin.max2 a b):=by
 unfold Builtin.max2
 try simp only []
 all_goals exact nt
theorem kY {f:M'->α->Sem M'} (h:∀x y,ag P (f x y)):∀(l:List α) (x:M'),ag P (l.foldlM f x)
 |[],_=>bo _
 |a::l,x=>by rw [List.foldlM_cons];exact af (h x a) fun y=>kY h l y
theorem Cm (t:Array Q') (u:Q') (a:Array M'):ag P (Builtin.min_ t u a):=by
 unfold Builtin.min_
 split
 ·exact bd _ trivial
 ·exact kY Aq _ _
theorem Cn (t:Array Q') (u:Q') (a:Array M'):ag P (Builtin.max_ t u a):=by
 unfold Builtin.max_
 split
 ·exact bd _ trivial
 ·exact kY Ar _ _
theorem fL {c:Prop} [Decidable c] {y:Sem α} (h1:c->ag P x) (h2:¬c->ag P y):ag P (if c then x else y):=by
 split
 ·exact h1 ‹_›
 ·exact h2 ‹_›
variable {k:Option (Q' × Nat)->Sem α}
theorem fP (r:Nat) (h:∀s,ag P (k s)) (hn:∀e n n',k (some (e,n))=k (some (e,n'))):ag P (shape r>>=k):=by
 intro wl w es h0 hw
 have e:∀u:J',(shape r>>=k).runT P u es=(k (u.shape? r)).runT P u es:=fun u=>by
  show ((shape r).bind k).runT P u es=_
  rw [Sem.runT_bind'];rfl
 refine ⟨by rw [e];exact (h (wl.shape? r) wl w es h0 hw).1,fun fg C6=> ?_⟩
 have hk:k (w.shape? r)=k (wl.shape? r):=by
  unfold World.shape?
  cases hr:wl.heap[r]? with
  |none=>
   have:w.heap[r]?=none:=by
    rw [Array.getElem?_eq_none_iff] at hr ⊢;rw [<-hw.size];exact hr
   rw [this]
  |some o=>
   obtain ⟨o',h1,h2⟩:=hw.get hr
   rw [h1]
   cases h2 with
   |same=>rfl
   |blind hb=>cases hb<;>rfl
   |cut g1 g2 g3=>exact hn _ _ _
 rw [e] at fg C6
 obtain ⟨w',hs⟩:=(h (wl.shape? r) wl w es h0 hw).2 fg C6
 exact ⟨w',by rw [e,e,hk];exact hs.run,by rw [e];exact hs.weak,by rw [e];exact hs.mono,by rw [e];exact hs.drawn,hs.upd,by rw [e];exact hs.gR,by rw [e];exact hs.evs,fun hh=>by rw [e];exact hs.heap hh⟩
theorem kp (r:Nat) {f:Option (z_ × Q')->Sem α} (h:∀v,ag P (f v)) (hs:∀v v',f (some v)=f (some v')):ag P (viewAt r>>=f):=by
 unfold viewAt
 simp only [bind_assoc]
 refine fP r (fun s=> ?_) (fun _ _ _=>rfl)
 split
 ·simp only [pure_bind];exact h _
 ·simp only [bind_assoc]
  refine cJ r (fun o ho=> ?_) (fun o o' hb=>by cases hb<;>first|exact .inl (hs _ _)|exact .inl rfl)
  split<;>(simp only [pure_bind];exact (h _).c)
theorem mH (r:Nat):ag P (numberAt r):=by
 unfold numberAt
 refine fP r (fun s=> ?_) (fun _ _ _=>rfl)
 split
 ·exact aj _
 ·refine cJ r (fun o ho=> ?_) (fun o o' hb=>by cases hb<;>first|exact .inl rfl|exact .inr fun _ _ h=>h)
  split<;>exact (aj _).c
instance (r:Nat):Nt P (numberAt r):=⟨mH _⟩
theorem o9 (a:z_):ag P (behindNumber a):=af (mH _) fun _=>aj _
instance (a:z_):Nt P (behindNumber a):=⟨o9 _⟩
theorem wZ (a:z_):ag P (noView a):=by
 unfold noView
 refine kp _ (fun b=> ?_) (fun _ _=>rfl)
 split
 ·exact fu _ trivial
 ·exact aj _
theorem lh (a:z_):ag P (byteOf a):=by
 unfold byteOf
 split
 ·exact aj _
 refine af gW fun p=>af (wZ a) fun _=>fP _ (fun s=> ?_) (fun _ _ _=>rfl)
 split
 ·simp only []
  split
  ·exact aj _
  ·split
   ·exact aj _
   ·exact bn _
 ·exact bn _
instance (a:z_):Nt P (byteOf a):=⟨lh _⟩
theorem qY (a:z_) (f:Field):ag P (fieldPlace a f):=by
 unfold fieldPlace partAt
 refine af (gI _) fun n=> ?_
 split
 ·exact af (lh _) fun _=>af (lh _) fun _=>aj _
 ·exact aj _
instance (a:z_) (f:Field):Nt P (fieldPlace a f):=⟨qY _ _⟩
theorem gp {f:α->β->Sem (ForInStep β)} (h:∀a b,ag P (f a b)):∀(l:List α) (b:β),ag P (forIn l b f)
 |[],b=>by rw [List.forIn_nil];exact aj _
 |a::l,b=>by
  rw [List.forIn_cons]
  refine af (h a b) fun s=> ?_
  cases s with
  |done b'=>exact aj _
  |yield b'=>exact gp h l b'
theorem jg {f:α->β->Sem (ForInStep β)} (h:∀a b,ag P (f a b)) (l:Array α) (b:β):ag P (forIn l b f):=by
 rw [<-Array.forIn_toList];exact gp h _ _
theorem jf {f:Nat->β->Sem (ForInStep β)} (h:∀a b,ag P (f a b)) (r:Std.Legacy.Range) (b:β):ag P (forIn r b f):=by
 rw [Std.Legacy.Range.forIn_eq_forIn_range'];exact gp h _ _
theorem r8 {f:α->Sem β} (h:∀a,ag P (f a)):∀(l:List α),ag P (l.mapM f)
 |[]=>by rw [List.mapM_nil];exact aj _
 |a::l=>by rw [List.mapM_cons];exact af (h a) fun _=>af (r8 h l) fun _=>aj _
theorem jO (h:∀a,ag P (f a)) (l:Array α):ag P (l.mapM f):=by
 rw [Array.mapM_eq_mapM_toList];exact dZ (r8 h _)
def Du {α:Type} (P:U') (s:Sem α):Prop:=∀w es,¬rE (s.runT P w es).1/\LM (s.runT P w es).1
def Calm {α:Type} (P:U') (s:Sem α):Prop:=∀w es h w',(s.runT P w es).1≠.halt h w'
theorem At {s:Sem α} (h:Du P s):ag P s:=fun wl _ es _ _=>⟨(h wl es).2,fun hf _=>absurd hf (h wl es).1⟩
theorem E8 (a:String):Du P (unsupported (.resourceLimit a):Sem α):=fun _ _=>⟨fun h=>h,trivial⟩
theorem zE (hx:Calm P x) (hf:∀a,Du P (f a)):Du P (x>>=f):=by
 intro w es
 have e:=Sem.runT_bind' P x f w es
 change ¬rE ((x.bind f).runT P w es).1/\LM ((x.bind f).runT P w es).1
 rw [e]
 cases hr:x.runT P w es with
 |mk r es'=>
  cases r with
  |ok a w'=>exact hf a w' es'
  |halt hh w'=>exact absurd (by rw [hr]) (hx w es hh w')
theorem zK (hx:Calm P x) (hf:∀a,Calm P (f a)):Calm P (x>>=f):=by
 intro w es v SW h
 have e:=Sem.runT_bind' P x f w es
 change ((x.bind f).runT P w es).1=_ at h
 rw [e] at h
 cases hr:x.runT P w es with
 |mk r es'=>
  rw [hr] at h
  cases r with
  |ok a w'=>exact hf a w' es' v SW h
  |halt hh w'=>exact absurd (by rw [hr]) (hx w es hh w')
theorem zJ (a:α):Calm P (Pure.pure a:Sem α):=fun _ _ _ _ h=>by cases h
theorem Fe (r:Nat):Calm P (shape r):=fun _ _ _ _ h=>by cases h
theorem Dm (a:z_):Calm P (frozen a):=fun _ _ _ _ h=>by cases h
theorem Dl:Calm P (mark .noRoom):=fun _ _ _ _ h=>by cases h
theorem vN (a:z_) (n:Nat):Calm P (Builtin.holdsCells a n):=by
 unfold Builtin.holdsCells
 refine zK (Fe _) fun s=> ?_
 split<;>exact zJ _
theorem yS (a b c:Nat) (d:Option z_) (v:M'):Calm P (Builtin.mayShare a b c d v):=by
 unfold Builtin.mayShare
 simp only []
 repeat' first
  |with_reducible exact zJ _
  |with_reducible exact vN _ _
  |with_reducible exact Dm _
  |with_reducible refine zK ?_ fun _=> ?_
  |split
theorem vm (t:Q') (a:M') (n:Nat):ag P (Instr.fieldAt t a n):=by
 unfold Instr.fieldAt
 try simp only []
 all_goals exact nt
theorem yv (t:Q') (ps:Array (Nat × M')):ag P (Instr.build t ps):=by
 unfold Instr.build
 try simp only []
 all_goals exact nt
theorem qZ (t:Q') (n:Nat) (ps:Array (Nat × M')):ag P (Instr.buildSlice t n ps):=by
 unfold Instr.buildSlice
 try simp only []
 all_goals exact nt
theorem vf (t:Q') (r:Option M'):ag P (Instr.makeMap t r):=by
 unfold Instr.makeMap
 cases r with
 |none=>exact af (eZ _ rfl) fun _=>aj _
 |some h=>
  refine af (cE _) fun d=> ?_
  split
  ·exact af (jP _) fun _=>af (eZ _ rfl) fun _=>aj _
  ·exact bn _
theorem tI (t:Q') (v:M'):ag P (Instr.makeChan t v):=by
 unfold Instr.makeChan
 refine af (jP _) fun n=>af (cE _) fun d=> ?_
 split
 ·refine af (gV _) fun i=> ?_
  split
  ·exact af (yz _) fun _=>af (eZ _ rfl) fun _=>aj _
  ·exact af (eZ _ rfl) fun _=>aj _
 ·exact bn _
theorem oC (t:Q') (v:M'):ag P (Instr.makeInterface t v):=by
 unfold Instr.makeInterface
 refine af (cE _) fun d=> ?_
 split
 ·exact bn _
 ·exact aj _
theorem oD (v:M'):ag P (Conv.bytesToString v):=by
 unfold Conv.bytesToString
 try simp only []
 all_goals exact nt
def rN:TypeDesc->Bool
 | .bool| .int _| .string| .chan ..=>true
 |_=>false
def iG (P:U') (t:Q'):Bool:=(P.underlying t).any rN
theorem vp {t:Q'} (ht:iG P t=true) (n:Nat) (x y:M'):ag P (Op.equalIn (n+1) t x y):=by
 unfold Op.equalIn
 refine bf t fun d hd=> ?_
 have hs:rN d=true:=by simpa [iG,hd] using ht
 split<;>first
  |(simp [rN] at hs;done)
  |skip
 all_goals exact nt
theorem qD {t:Q'} (ht:iG P t=true) (x y:M'):ag P (Op.equal t x y):=vp ht 9999 x y
theorem gX {t:Q'} (ht:iG P t=true) (b:Bool) (n:Nat) (x:M'):ag P (Instr.checkKey b (n+1) t x):=by
 unfold Instr.checkKey
 refine bf t fun d hd=> ?_
 have hs:rN d=true:=by simpa [iG,hd] using ht
 split<;>first
  |(simp [rN] at hs;done)
  |exact aj _
theorem lf {t:Q'} (ht:iG P t=true) (k:M'):∀(l:List MapEntry) (i:Nat),ag P (Instr.findAsking t k l i)
 |[],_=>aj _
 |e::l,i=>by
  unfold Instr.findAsking
  refine af (qD ht _ _) fun b=> ?_
  split
  ·exact aj _
  ·exact lf ht k l (i+1)
theorem kg {t:Q'} (ht:iG P t=true) (k:M') (l:List MapEntry):ag P (Instr.findKey t k l):=by
 unfold Instr.findKey
 refine af (cE _) fun d=> ?_
 split
 ·exact aj _
 ·exact lf ht k l 0
def iR (P:U') (t:Q'):Bool:=match P.underlying t with|some (.map k _)=>iG P k|_=>true
theorem xa {t:Q'} (ht:iR P t=true) (x i:M') (b:Bool):ag P (Instr.lookup t x i b):=by
 unfold Instr.lookup
 refine bf t fun d hd=> ?_
 split
 ·rename_i key elem
  have hk:iG P key=true:=by simpa [iR,hd] using ht
  repeat' first|(with_reducible first|exact Nt.out|assumption|refine zY _ (fun _=> ?_) (fun _ _ b=>by cases b<;>first|exact .inl rfl|exact .inr fun _ _ h=>h)|refine af ?_ fun _=> ?_|refine dZ ?_|refine fL (fun _=> ?_) (fun _=> ?_)|refine jg (fun _ _=> ?_) _ _|refine jf (fun _ _=> ?_) _ _|refine gp (fun _ _=> ?_) _ _|refine jO (fun _=> ?_) _|exact gX hk _ 9999 _|exact kg hk _ _)|split
 ·exact bn _
theorem ln {r:Nat} (hx:ag P x) (hf:∀a,U8 P (fun w=>r<w.heap.size/\xZ r w) (f a)):U8 P (fun w=>r<w.heap.size/\xZ r w) (x>>=f):=mK (jN r) hx.c hf
theorem tM {C':J'->Prop} {s:Sem α} (h:U8 P C s) (hc:∀w,C' w->C w):U8 P C' s:=fun wl w es h0=>h wl w es (hc _ h0)
theorem tD {r:Nat} {o:Obj} (h:isMap o=true):∀w:J',w.heap[r]?=some o->r<w.heap.size/\xZ r w:=fun w hw=>⟨(cI hw),fun o' ho=>by rw [hw] at ho;cases ho;exact h⟩
theorem oZ (a b:M'):ag P (Instr.keyThatStays a b):=by
 unfold Instr.keyThatStays
 all_goals exact nt
theorem lQ {t:Q'} (ht:iR P t=true) (m k v:M'):ag P (Instr.mapUpdate t m k v):=by
 unfold Instr.mapUpdate
 refine bf t fun d hd=> ?_
 split
 ·rename_i key elem
  have hk:iG P key=true:=by simpa [iR,hd] using ht
  split
  ·exact yz _
  ·rename_i r
   refine cJ r (fun o ho=> ?_) (fun o o' hb=>by cases hb<;>first|exact .inl rfl|exact .inr fun _ _ h=>h)
   split
   ·rename_i es clock
    refine tM ?_ (tD (r:=r) (o:=.map es clock) rfl)
    refine ln (gX hk _ 9999 _) fun _=>ln (kg hk _ _) fun q=> ?_
    split
    ·exact ln (oZ _ _) fun _=>jU r _ rfl rfl rfl rfl
    ·exact jU r _ rfl rfl rfl rfl
   ·exact (bn _).c
  ·exact bn _
 ·exact bn _
theorem xf {ts:Array Q'} (ht:∀t,ts[0]?=some t->iR P t=true) (u:Q') (a:Array M'):ag P (Builtin.delete_ ts u a):=by
 unfold Builtin.delete_
 split
 ·rename_i t m k heq
  have h1:ts[0]?=some t:=(Prod.mk.inj heq).1
  refine bf t fun d hd=> ?_
  split
  ·rename_i key elem
   have hk:iG P key=true:=by simpa [iR,hd] using ht t h1
   split
   ·exact af (gX hk _ 9999 _) fun _=>aj _
   ·rename_i r
    show ag P ((getObj r).bind _)
    refine cJ r (fun o ho=> ?_) (fun o o' hb=>by cases hb<;>first|exact .inl rfl|exact .inr fun _ _ h=>h)
    split
    ·rename_i es clock
     refine tM ?_ (tD (r:=r) (o:=.map es clock) rfl)
     refine ln (gX hk _ 9999 _) fun _=>ln (kg hk _ _) fun q=> ?_
     split
     ·exact mK (jN r) (jU r _ rfl rfl rfl rfl) fun _=>(aj _).c
     ·exact mK (jN r) (jU r _ rfl rfl rfl rfl) fun _=>(aj _).c
    ·exact (bn _).c
   ·exact bn _
  ·exact bn _
 ·exact bn _
theorem yo (t:Q') (x:M'):ag P (Instr.range t x):=by
 unfold Instr.range
 refine af (cE t) fun d=> ?_
 split
 ·simp only [pure_bind];exact af (eZ _ rfl) fun _=>aj _
 ·simp only [pure_bind];exact af (eZ _ rfl) fun _=>aj _
 ·refine cJ _ (fun o ho=> ?_) (fun o o' hb=>by cases hb<;>first|exact .inl rfl|exact .inr fun _ _ h=>h)
  split
  ·simp only [pure_bind];exact (af (eZ _ rfl) fun _=>aj _).c
  ·exact (bn _).c
 ·exact bE (s':=Sem.halt (.stuck "Range: string or map expected")) (fun _ _=>rfl) (bd _ trivial)
theorem Lr {c:Prop} [Decidable c] {y:Sem α} (h1:Du P x) (h2:Du P y):Du P (if c then x else y):=by
 split
 ·exact h1
 ·exact h2
theorem xh (ts:Array Q') (u:Q') (a:Array M'):ag P (Builtin.append_ ts u a):=by
 unfold Builtin.append_
 simp only []
 repeat' first|(with_reducible first|exact Nt.out|refine At (zE (yS _ _ _ _ _) fun _=> ?_)|exact E8 _|refine Lr ?_ ?_|refine zE Dl fun _=> ?_|assumption|refine zY _ (fun _=> ?_) (fun _ _ b=>by cases b<;>first|exact .inl rfl|exact .inr fun _ _ h=>h)|refine af ?_ fun _=> ?_|refine dZ ?_|refine fL (fun _=> ?_) (fun _=> ?_)|refine jg (fun _ _=> ?_) _ _|refine jf (fun _ _=> ?_) _ _|refine gp (fun _ _=> ?_) _ _|refine jO (fun _=> ?_) _)|split
theorem fO (a:Unsupported) (f:α->Sem β) (h:pL (.unsupported a)):ag P (unsupported a>>=f):=bE (s':=Sem.halt (.unsupported a)) (fun _ _=>rfl) (bd _ h)
theorem qe (a:String) (f:α->Sem β):ag P (unsupported (.noEntry a)>>=f):=fO _ _ trivial
instance {α β:Type} (a:String) (f:α->Sem β):Nt P (unsupported (.noEntry a)>>=f):=⟨qe _ _⟩
theorem qc (a:String) (f:α->Sem β):ag P (unsupported (.unsafePointer a)>>=f):=fO _ _ trivial
instance {α β:Type} (a:String) (f:α->Sem β):Nt P (unsupported (.unsafePointer a)>>=f):=⟨qc _ _⟩
theorem qd (a:String) (f:α->Sem β):ag P (unsupported (.resourceLimit a)>>=f):=fO _ _ trivial
instance {α β:Type} (a:String) (f:α->Sem β):Nt P (unsupported (.resourceLimit a)>>=f):=⟨qd _ _⟩
theorem qf (f:α->Sem β):ag P (unsupported .addressObserved>>=f):=fO _ _ trivial
instance {α β:Type} (f:α->Sem β):Nt P (unsupported .addressObserved>>=f):=⟨qf _⟩
theorem qT (a:String) (f:α->Sem β):ag P (stuck a>>=f):=bE (s':=Sem.halt (.stuck a)) (fun _ _=>rfl) (bd _ trivial)
instance {α β:Type} (a:String) (f:α->Sem β):Nt P (stuck a>>=f):=⟨qT _ _⟩
theorem qW (s:FloatKind) (b:Nat) (k:IntKind):ag P (Conv.floatToInt s b k):=by
 unfold Conv.floatToInt
 simp only []
 all_goals exact nt
theorem qj {src dst:Q'} {k k':IntKind} (h1:P.underlying src=some (.int k)) (h2:P.underlying dst=some (.int k')) (x:M'):ag P (convert src dst x):=by
 unfold convert
 refine bf src fun d hd=>bf dst fun d' HG=> ?_
 rw [h1] at hd;rw [h2] at HG;cases hd;cases HG
 split<;>first
  |exact aj _
  |exact fu _ trivial
  |(simp_all;done)
  |(rename_i h;cases h;done)
  |(rename_i h;cases h;exact qW _ _ _)
theorem qh {src dst e:Q'} (h1:P.underlying src=some (.slice e)) (h2:P.underlying dst=some .string) (h3:P.underlying e=some (.int .u8)) (x:M'):ag P (convert src dst x):=by
 unfold convert
 refine bf src fun d hd=>bf dst fun d' HG=> ?_
 rw [h1] at hd;rw [h2] at HG;cases hd;cases HG
 split
 all_goals first
  |exact aj _
  |exact fu _ trivial
  |(simp_all;done)
  |(rename_i h;cases h;done)
  |(rename_i HQ WR;cases HQ;cases WR;done)
  |(refine bf _ fun d hd=> ?_
    simp_all
    exact oD _)
  |skip
def MP (P:U') (t:Q') (x y:Operand):Bool:=
 iG P t||(match P.underlying t with
  |some (.pointer _)=>(match x,y with
   | .const (.pointer none),_|_,.const (.pointer none)=>true
   |_,_=>false)
  |some (.slice _)|some (.map _ _)=>true
  |_=>false)
theorem tK {t:Q'} {x y:Operand} (h:MP P t x y=true) (a:Act):ag P (Op.equal t (a.eval x) (a.eval y)):=by
 unfold MP at h
 rcases (Bool.or_eq_true_iff.1 h) with h|h
 ·exact qD h _ _
 ·show ag P (Op.equalIn (9999+1) t _ _)
  unfold Op.equalIn
  refine bf t fun d hd=> ?_
  rw [hd] at h
  cases d<;>simp only [qp] at h
  ·split at h
   ·simp only [Act.eval]
    split<;>first|exact aj _|exact bn _|(simp_all;done)|skip
   ·simp only [Act.eval]
    split<;>first|exact aj _|exact bn _|(simp_all;done)|skip
   ·cases h
  ·split<;>first|exact aj _|exact bn _|(simp_all;done)
  ·split<;>first|exact aj _|exact bn _|(simp_all;done)
theorem lS:∀(n:Nat) (t:Q') (x y:M'),ag P (Op.eqGuardIn n t x y)
 |0,_,_,_=>oV _
 |n+1,t,x,y=>by
  have ih:=fun t x y=>lS n t x y
  unfold Op.eqGuardIn
  repeat' first|(with_reducible first|exact Nt.out|assumption|refine zY _ (fun _=> ?_) (fun _ _ b=>by cases b<;>first|exact .inl rfl|exact .inr fun _ _ h=>h)|refine af ?_ fun _=> ?_|refine dZ ?_|refine fL (fun _=> ?_) (fun _=> ?_)|exact ih _ _ _|refine jg (fun _ _=> ?_) _ _|refine jf (fun _ _=> ?_) _ _)|split
  all_goals (dsimp only;split<;>exact aj _)
instance (n:Nat) (t:Q') (x y:M'):Nt P (Op.eqGuardIn n t x y):=⟨lS _ _ _ _⟩
theorem vq (op:BinOp) (t:Q') (x y:Operand) (a b:M'):ag P (eqGuard op t x y a b):=by
 unfold eqGuard
 all_goals exact nt
def JB (P:U') (op:BinOp) (t:Q') (x y:Operand):Bool:=
 match op with
 | .eql| .neq=>MP P t x y
 |_=>match P.underlying t with
  |some (.int _)|some .string=>true
  |_=>false
theorem Eo {t:Q'} {d:TypeDesc} (h:(match P.underlying t with|some (.int _)|some .string=>true|_=>false)=true) (hd:P.underlying t=some d):d≠.unsafePointer:=by
 rintro rfl;rw [hd] at h;cases h
theorem kZ (op:BinOp) (k:FloatKind) (x y:Nat):ag P (Op.floatArith op k x y):=by
 unfold Op.floatArith
 simp only []
 all_goals exact nt
instance (op:BinOp) (k:FloatKind) (x y:Nat):Nt P (Op.floatArith op k x y):=⟨kZ _ _ _ _⟩
theorem mJ (op:BinOp) (k:FloatKind) (x y:Nat):ag P (Op.floatCmp op k x y):=by
 unfold Op.floatCmp
 simp only []
 all_goals exact nt
instance (op:BinOp) (k:FloatKind) (x y:Nat):Nt P (Op.floatCmp op k x y):=⟨mJ _ _ _ _⟩
theorem o8 (s:FloatKind) (x:Nat) (d:FloatKind):ag P (Conv.floatToFloat s x d):=by
 unfold Conv.floatToFloat
 simp only []
 all_goals exact nt
theorem xg (op:BinOp) (k:FloatKind) (x y:Nat):ag P (Op.Complex.arith op k x y):=by
 unfold Op.Complex.arith
 refine af (kZ _ _ _ _) fun v=> ?_
 split<;>first|exact aj _|exact bn _
instance (op:BinOp) (k:FloatKind) (x y:Nat):Nt P (Op.Complex.arith op k x y):=⟨xg _ _ _ _⟩
theorem Av (op:BinOp) (k:FloatKind) (x y:Nat):ag P (Op.Complex.cmp op k x y):=af (mJ _ _ _ _) fun v=>lj _
instance (op:BinOp) (k:FloatKind) (x y:Nat):Nt P (Op.Complex.cmp op k x y):=⟨Av _ _ _ _⟩
theorem yu (s:FloatKind) (x:Nat) (d:FloatKind):ag P (Op.Complex.conv s x d):=by
 unfold Op.Complex.conv
 split
 ·exact aj _
 ·refine af (o8 _ _ _) fun v=> ?_
  split<;>first|exact aj _|exact bn _
instance (s:FloatKind) (x:Nat) (d:FloatKind):Nt P (Op.Complex.conv s x d):=⟨yu _ _ _⟩
theorem ve (a b c d:Nat):ag P (Op.Complex.product a b c d):=by
 unfold Op.Complex.product Op.Complex.sub Op.Complex.add Op.Complex.mul
 all_goals exact nt
instance (a b c d:Nat):Nt P (Op.Complex.product a b c d):=⟨ve _ _ _ _⟩
theorem sa (s a b c d:Nat):ag P (Op.Complex.corrected s a b c d):=by
 unfold Op.Complex.corrected Op.Complex.sub Op.Complex.add Op.Complex.mul
 all_goals exact nt
instance (s a b c d:Nat):Nt P (Op.Complex.corrected s a b c d):=⟨sa _ _ _ _ _⟩
theorem tH (a b c d:Nat):ag P (Op.Complex.quotient a b c d):=by
 unfold Op.Complex.quotient Op.Complex.sub Op.Complex.add Op.Complex.mul Op.Complex.quo
 simp only []
 all_goals exact nt
instance (a b c d:Nat):Nt P (Op.Complex.quotient a b c d):=⟨tH _ _ _ _⟩
theorem sb (op:BinOp) (k:FloatKind) (a b c d:Nat):ag P (Op.complexOp op k a b c d):=by
 unfold Op.complexOp
 simp only []
 all_goals exact nt
instance (op:BinOp) (k:FloatKind) (a b c d:Nat):Nt P (Op.complexOp op k a b c d):=⟨sb _ _ _ _ _ _⟩
theorem uo {p:U'} {n:Nat} {e:Q'} {c c' off:Nat} {b:Int} {o:Nat} (h:cellAtBytes p n e c off b=some o) (hc:c<=c'):cellAtBytes p n e c' off b=some o:=by
 unfold cellAtBytes at *
 simp only [] at *
 split at h
 ·simp at h
 rename_i h1
 rw [if_neg h1]
 cases hb:byteOfCell p n e (off % p.cellsOf e) with
 |none=>rw [hb] at h;simp at h
 |some q=>
  rw [hb] at h
  simp only [pure_bind,Option.bind_eq_bind,Option.bind_some] at h ⊢
  split at h
  ·simp at h
  rename_i h2
  rw [if_neg (fun hh=>h2 ?_)]
  ·exact h
  ·simp only [Bool.or_eq_true,decide_eq_true_eq] at hh ⊢
   rcases hh with hh|hh
   ·exact .inl hh
   ·have:Int.ofNat (c * p.bytesOf e)<=Int.ofNat (c' * p.bytesOf e):=by
     have:=Nat.mul_le_mul_right (p.bytesOf e) hc
     exact Int.ofNat_le.2 this
    exact .inr (by omega)
theorem qV (r:Nat) (h:∀s,ag P (k s)) (hn:∀e n n',n<=n'->Du P (k (some (e,n)))\/∀w es,(k (some (e,n))).runT P w es=(k (some (e,n'))).runT P w es):ag P (shape r>>=k):=by
 intro wl w es h0 hw
 have e:∀u:J',(shape r>>=k).runT P u es=(k (u.shape? r)).runT P u es:=fun u=>by
  show ((shape r).bind k).runT P u es=_
  rw [Sem.runT_bind'];rfl
 refine ⟨by rw [e];exact (h (wl.shape? r) wl w es h0 hw).1,fun fg C6=> ?_⟩
 have hk:∀u es,(k (w.shape? r)).runT P u es=(k (wl.shape? r)).runT P u es:=by
  intro u es'
  rw [e] at fg
  unfold World.shape? at fg ⊢
  cases hr:wl.heap[r]? with
  |none=>
   have:w.heap[r]?=none:=by
    rw [Array.getElem?_eq_none_iff] at hr ⊢;rw [<-hw.size];exact hr
   rw [this]
  |some o=>
   rw [hr] at fg
   obtain ⟨o',h1,h2⟩:=hw.get hr
   rw [h1]
   cases h2 with
   |same=>rfl
   |blind hb=>cases hb<;>rfl
   |cut g1 g2 g3=>
    rcases hn _ _ _ g1 with hd|he
    ·exact absurd fg (hd _ _).1
    ·exact (he _ _).symm
 rw [e] at fg C6
 obtain ⟨w',hs⟩:=(h (wl.shape? r) wl w es h0 hw).2 fg C6
 exact ⟨w',by rw [e,e,hk];exact hs.run,by rw [e];exact hs.weak,by rw [e];exact hs.mono,by rw [e];exact hs.drawn,hs.upd,by rw [e];exact hs.gR,by rw [e];exact hs.evs,fun hh=>by rw [e];exact hs.heap hh⟩
theorem rP (k:U'->Sem α) (w:J') (es:Array Event):(program>>=k).runT P w es=(k P).runT P w es:=rfl
theorem rZ (u:Q') (x y:M'):ag P (Builtin.unsafeAdd_ #[] u #[x,y]):=by
 cases x with
 |pointer ptr=>
  refine af (jP y) fun n=> ?_
  by_cases hn:n=0
  ·subst hn
   cases ptr with
   |none=>exact bE (s':=Sem.halt (.unsupported (.unsafePointer "Add: from nil"))) (fun _ _=>rfl) (bd _ trivial)
   |some a=>
    refine kp _ (fun v=> ?_) (fun _ _=>rfl)
    cases v with
    |none=>exact aj _
    |some v=>exact bE (s':=Sem.halt (.unsupported (.unsafePointer "Add: at a place where no cell lies"))) (fun _ _=>rfl) (bd _ trivial)
  ·simp only [hn,if_false]
   by_cases hl:n<0
   ·simp only [hl,if_true]
    exact bE (s':=Sem.halt (.unsupported (.unsafePointer "Add: a move by a count below zero"))) (fun _ _=>rfl) (bd _ trivial)
   ·simp only [hl,if_false]
    cases ptr with
    |none=>exact fu _ trivial
    |some a=>
     refine qV _ (fun s=> ?_) (fun e c c' hc=> ?_)
     ·cases s with
      |none=>exact fu _ trivial
      |some q=>
       refine af gW fun p=> ?_
       split
       ·exact aj _
       ·exact fu _ trivial
     ·cases h:cellAtBytes P P.depth e (c / P.cellsOf e) a.off n with
      |none=>refine .inl (fun w es=> ?_);simp only [rP,h];exact ⟨fun h=>h,trivial⟩
      |some off=>refine .inr (fun w es=> ?_);simp only [rP,h,uo h (Nat.div_le_div_right hc)]
 |_=>exact bE (s':=Sem.halt (.stuck "unsafe.Add: a pointer and an integer expected")) (fun _ _=>rfl) (bd _ trivial)
instance (u:Q') (x y:M'):Nt P (Builtin.unsafeAdd_ #[] u #[x,y]):=⟨rZ _ _ _⟩
theorem kq (t:Q') (x y:M'):ag P (movedNumber t x y):=by
 unfold movedNumber asNumber
 simp only []
 repeat' first|(with_reducible first|exact Nt.out|assumption|refine zY _ (fun _=> ?_) (fun _ _ b=>by cases b<;>first|exact .inl rfl|exact .inr fun _ _ h=>h)|refine af ?_ fun _=> ?_|refine dZ ?_|refine fL (fun _=> ?_) (fun _=> ?_))|split|exact eZ _ rfl
instance (t:Q') (x y:M'):Nt P (movedNumber t x y):=⟨kq _ _ _⟩
theorem vz (k:IntKind) (a:z_) (n:Int):ag P (Op.addrMod k a n):=by
 unfold Op.addrMod
 refine fP _ (fun s=> ?_) (fun _ _ _=>rfl)
 simp only []
 all_goals exact nt
instance (k:IntKind) (a:z_) (n:Int):Nt P (Op.addrMod k a n):=⟨vz _ _ _⟩
theorem lP (a b:z_):ag P (Op.twoPlaces a b):=by
 unfold Op.twoPlaces
 simp only []
 all_goals exact nt
theorem vy (k:IntKind) (a b:z_):ag P (Op.addrSub k a b):=af (lP _ _) fun _=>aj _
instance (k:IntKind) (a b:z_):Nt P (Op.addrSub k a b):=⟨vy _ _ _⟩
theorem vA (op:BinOp) (a b:z_):ag P (Op.addrCmp op a b):=by
 unfold Op.addrCmp
 refine af (lP _ _) fun q=> ?_
 cases op<;>first|exact aj _|exact fu _ trivial
instance (op:BinOp) (a b:z_):Nt P (Op.addrCmp op a b):=⟨vA _ _ _⟩
def rU (P:U') (f:w_):Bool:=match P.funcs[f]? with
 |some fn=>fn.body.isSome&&fn.name != "runtime.NumGoroutine"
 |none=>false
theorem yw {op:BinOp} {t:Q'} {x y:Operand} (h:JB P op t x y=true) (a:Act):ag P (binOp op t (a.eval x) (a.eval y)):=by
 by_cases he:op=.eql\/op=.neq
 ·have hq:MP P t x y=true:=by rcases he with rfl|rfl<;>exact h
  have hE:=tK hq a
  revert hE
  generalize a.eval x=u;generalize a.eval y=v
  intro hE
  unfold binOp
  rcases he with rfl|rfl
  all_goals
   split<;>first
    |(simp_all;done)
    |skip
   all_goals exact nt
 ·have ht:(match P.underlying t with|some (.int _)|some .string=>true|_=>false)=true:=by
   unfold JB at h
   cases op<;>first|exact h|exact absurd (.inl rfl) he|exact absurd (.inr rfl) he
  clear h
  generalize a.eval x=u;generalize a.eval y=v
  have Zd:∀p q,ag P (do if (<-underlying t) matches .unsafePointer then movedPointer t p q else movedNumber t p q):=fun p q=>by
   refine bf t fun d hd=> ?_
   have:=Eo ht hd
   cases d<;>first|exact kq _ _ _|exact absurd rfl this
  unfold binOp
  split<;>first
   |(exact absurd (.inl rfl) he)
   |(exact absurd (.inr rfl) he)
   |exact Zd _ _
   |skip
  repeat' first|(with_reducible first|exact Nt.out|assumption|refine zY _ (fun _=> ?_) (fun _ _ b=>by cases b<;>first|exact .inl rfl|exact .inr fun _ _ h=>h)|refine af ?_ fun _=> ?_|refine dZ ?_|refine fL (fun _=> ?_) (fun _=> ?_))|split|(exact absurd (.inl rfl) he)|(exact absurd (.inr rfl) he)
theorem kr:∀(l:List FieldStep) (t:Q') (x:Option M'),ag P (followBlind l t x)
 |[],_,_=>aj _
 |s::l,t,x=>by
  have ih:=fun t x=>kr l t x
  unfold followBlind
  repeat' first|(with_reducible first|exact Nt.out|assumption|refine zY _ (fun _=> ?_) (fun _ _ b=>by cases b<;>first|exact .inl rfl|exact .inr fun _ _ h=>h)|refine af ?_ fun _=> ?_|refine dZ ?_|refine fL (fun _=> ?_) (fun _=> ?_)|exact ih _ _)|split
instance (l:List FieldStep) (t:Q') (x:Option M'):Nt P (followBlind l t x):=⟨kr _ _ _⟩
theorem mI:∀(n:Nat) (t:Q') (v:M') (s:String),ag P (nilAhead n t v s)
 |0,_,_,_=>aj _
 |n+1,t,v,s=>by
  have ih:=fun t v s=>mI n t v s
  unfold nilAhead
  repeat' first|(with_reducible first|exact Nt.out|assumption|refine zY _ (fun _=> ?_) (fun _ _ b=>by cases b<;>first|exact .inl rfl|exact .inr fun _ _ h=>h)|refine af ?_ fun _=> ?_|refine dZ ?_|refine fL (fun _=> ?_) (fun _=> ?_)|exact ih _ _ _)|split
instance (n:Nat) (t:Q') (v:M') (s:String):Nt P (nilAhead n t v s):=⟨mI _ _ _ _⟩
def En (P:U') (ok:w_->Bool) (c:Call):Bool:=
 match c.callee with
 | .value (.func f)=>ok f&&rU P f
 | .builtin .append| .builtin .len| .builtin .cap| .builtin .copy| .builtin .min| .builtin .max| .builtin .clear=>true
 | .builtin .delete=>(match c.argTypes[0]? with|some t=>iR P t|none=>true)
 |_=>false
def fN (P:U') (ok:w_->Bool) (o:Oper):Bool:=
 match o.op with
 | .move _| .assign _| .pick ..| .alloc _| .box ..| .build ..| .buildSlice ..| .load ..| .store ..| .unOp ..| .makeFunc ..| .makeMap ..| .makeChan ..| .makeSlice ..
 | .slice ..| .fieldAddr ..| .field ..| .indexAddr ..| .index ..| .range ..| .extract ..| .nilCheck _| .makeInterface ..| .panic _=>true
 | .lookup t ..| .mapUpdate t ..| .insert t ..=>iR P t
 | .binOp op t x y _=>JB P op t x y
 | .convert a b _=>(match P.underlying a,P.underlying b with
   |some (.int _),some (.int _)=>true
   |some (.slice e),some .string=>(match P.underlying e with|some (.int .u8)=>true|_=>false)
   |_,_=>false)
 | .call c=>En P ok c
 |_=>false
theorem vu {x y:Q'} (h:(match P.underlying x,P.underlying y with
 |some (.int _),some (.int _)=>true
 |some (.slice e),some .string=>(match P.underlying e with|some (.int .u8)=>true|_=>false)
 |_,_=>false)=true) (v:M'):ag P (convert x y v):=by
 split at h
 ·rename_i h1 h2;exact qj h1 h2 v
 ·rename_i e h1 h2
  split at h
  ·rename_i h3;exact qh h1 h2 h3 v
  ·cases h
 ·cases h
theorem tL {f:w_} (h:rU P f=true) (args:Array M'):ag P (callFunc f args):=by
 unfold rU at h
 split at h
 ·rename_i fn xF
  simp only [Bool.and_eq_true,bne_iff_ne,ne_eq] at h
  obtain ⟨hb,hn⟩:=h
  refine bE (s':=Sem.pure (.enter f args)) (fun w es=> ?_) (bo _)
  show ((Sem.program Sem.pure).bind _).runT P w es=_
  simp only [Sem.bind,Sem.runT,xF]
  have h1:(fn.name== "runtime.NumGoroutine")=false:=by simpa using hn
  have h2:fn.body.isNone=false:=by cases hx:fn.body<;>simp [hx] at hb ⊢
  simp only [h1,h2,qp,if_false]
  rfl
 ·cases h
theorem yt (ts:Array Q') (u:Q') (a:Array M'):ag P (Builtin.clear_ ts u a):=by
 unfold Builtin.clear_
 split
 ·rename_i t x heq
  refine bf t fun d hd=> ?_
  split
  ·exact aj _
  ·exact aj _
  ·exact aj _
  ·rename_i r
   show ag P ((getObj r).bind _)
   refine cJ r (fun o ho=> ?_) (fun o o' hb=>by cases hb<;>first|exact .inl rfl|exact .inr fun _ _ h=>h)
   split
   ·rename_i es clock
    refine tM ?_ (tD (r:=r) (o:=.map es clock) rfl)
    exact mK (jN r) (jU r _ rfl rfl rfl rfl) fun _=>(aj _).c
   ·exact (bn _).c
  ·exact af (lO _) fun _=>af (eE _ _ _) fun _=>aj _
  ·exact bn _
 ·exact bn _
def Ds {α:Type} (P:U') (s:Sem α):Prop:=∀wl w es,bI wl wl->bI wl w->LM (s.runT P wl es).1/\∀a w₁,(s.runT P wl es).1=.ok a w₁->(∀i,wl.drawn+i<(s.runT P wl es).1.wd.drawn->w.tape (w.drawn+i)=wl.tape (wl.drawn+i))->∃w',Same P s wl w es w'
theorem ag.fe {s:Sem α} (h:ag P s):Ds P s:=fun wl w es _ hw=>⟨(h wl w es trivial hw).1,fun a w₁ e hs=>(h wl w es trivial hw).2 (by rw [e];trivial) hs⟩
theorem uq:∀(a:Ask α) (w:J'),(w.ask a).2.heap=w.heap/\(w.ask a).2.output=w.output
 | .done _,_=>⟨rfl,rfl⟩
 | .ask what range k,w=>by
   unfold World.ask
   simp only []
   split
   ·exact uq (k 0) w
   ·exact uq (k _) _
theorem GX (w:J') (c:Sys):(w.sys c).2.heap=w.heap/\(w.sys c).2.output=w.output:=by
 have h:=uq (Kernel.perform c w.os) w
 unfold World.sys
 split
 ·exact ⟨rfl,rfl⟩
 ·rename_i r os w1 e
  rw [e] at h
  exact h
theorem IK (h:bI w w) (c:Sys):bI (w.sys c).2 (w.sys c).2:=by
 have e:=(GX w c).1
 exact ⟨rfl,fun b o o' h1 h2=>h.obj b o o' (by rw [<-e];exact h1) (by rw [<-e];exact h2),rfl,rfl,fun b o h1=>h.ic b o (by rw [<-e];exact h1)⟩
theorem Ah (w:J') (es:Array Event) (hw:bI w w):(∃n w' es',Instr.panicnil.runT P w es=(.ok n w',es')/\bI w' w')\/∃m w' es',Instr.panicnil.runT P w es=(.halt (.stuck m) w',es'):=by
 have hs:=IK hw .env
 unfold Instr.panicnil
 show (∃n w' es',((Sem.sys .env Sem.pure).bind _).runT P w es=_/\_)\/∃m w' es',((Sem.sys .env Sem.pure).bind _).runT P w es=_
 simp only [Sem.bind,Sem.runT]
 generalize (w.sys .env).1=r
 cases r with
 |strings env=>exact .inl ⟨_,_,_,rfl,hs⟩
 |_=>exact .inr ⟨"strings expected",_,_,rfl⟩
theorem Eg (e:RuntimeError):∀(w:J') (a:M') (w':J'),(runtimePanic e:Sem M').run P w≠.ok a w':=by
 have hb:∀{β γ:Type} {s:Sem β} {f:β->Sem γ},(∀b w a w',(f b).run P w≠.ok a w')->∀w a w',(s>>=f).run P w≠.ok a w':=fun {β γ s f} h w a w' hx=>by
  change (s.bind f).run P w=_ at hx
  rw [Sem.run_bind'] at hx
  cases hs:s.run P w with
  |ok b w1=>rw [hs] at hx;exact h b w1 a w' hx
  |halt hh w1=>rw [hs] at hx;cases hx
 have hh:∀{γ:Type} (h:Halt) (w:J') (a:γ) (w':J'),(Sem.halt h:Sem γ).run P w≠.ok a w':=fun h w a w' hx=>by cases hx
 unfold runtimePanic
 refine hb fun p=> ?_
 cases e<;>first
  |exact hh _
  |exact hb fun _=>hb fun _=>hh _
theorem Cr (x:M'):Ds P (Instr.panic x>>=fun a=>Pure.pure (Next.value a)):=by
 have key:∀wl es,bI wl wl->∃h w' es',(Instr.panic x).runT P wl es=(.halt h w',es')/\pL h:=by
  intro wl es hw
  unfold Instr.panic
  split
  ·exact ⟨_,_,_,rfl,trivial⟩
  ·have e:=Sem.runT_bind' P Instr.panicnil (fun n=>if (n==1)=true then goPanic .nilIface else (runtimePanic .panicNil:Sem M')) wl es
   change ∃h w' es',(Instr.panicnil.bind _).runT P wl es=(.halt h w',es')/\pL h
   rw [e]
   rcases Ah wl es hw with ⟨n,w',es',h1,h2⟩|⟨m,w',es',h1⟩
   ·rw [h1]
    simp only []
    split
    ·exact ⟨_,_,_,rfl,trivial⟩
    ·have h3:=((yz (P:=P) (α:=M') .panicNil) w' w' es' trivial h2).1
     have h4:=Eg (P:=P) .panicNil w'
     cases hr:(runtimePanic .panicNil:Sem M').runT P w' es' with
     |mk r aCw=>
      rw [hr] at h3
      cases r with
      |ok a w2=>exact absurd (by rw [<-Sem.runT_fst P _ w' es',hr]) (h4 a w2)
      |halt h w2=>exact ⟨h,w2,aCw,rfl,h3⟩
   ·rw [h1]
    exact ⟨_,_,_,rfl,trivial⟩
  ·exact ⟨_,_,_,rfl,trivial⟩
 intro wl w es cf _
 obtain ⟨h,w',es',h1,h2⟩:=key wl es cf
 have e:=Sem.runT_bind' P (Instr.panic x) (fun a=>(Pure.pure (Next.value a):Sem Next)) wl es
 have e2:(Instr.panic x>>=fun a=>(Pure.pure (Next.value a):Sem Next)).runT P wl es=(.halt h w',es'):=by
  change ((Instr.panic x).bind _).runT P wl es=_
  rw [e,h1]
 rw [e2]
 exact ⟨h2,fun a w₁ e=>by cases e⟩
theorem Aw {ok:w_->Bool} {c:Call} (h:En P ok c=true) (t:Q') (a:Act):ag P (do let d <-resolve a.eval c t;invoke d.target d.args):=by
 obtain ⟨callee,args,argTypes⟩:=c
 cases callee with
 |value f=>
  cases f with
  |func f=>
   have hf:rU P f=true:=(Bool.and_eq_true_iff.1 h).2
   exact bE (s':=callFunc f ((#[]++args.map a.eval)++#[])) (fun _ _=>rfl) (tL hf _)
  |_=>cases h
 |invoke r n=>cases h
 |builtin b=>
  cases b with
  |append=>exact bE (s':=(Builtin.append_ argTypes t (args.map a.eval)>>=fun v=>Pure.pure (Next.value v))) (fun _ _=>rfl) (af (xh _ _ _) fun _=>aj _)
  |len=>exact bE (s':=(Builtin.len_ argTypes t (args.map a.eval)>>=fun v=>Pure.pure (Next.value v))) (fun _ _=>rfl) (af (Co _ _ _) fun _=>aj _)
  |cap=>exact bE (s':=(Builtin.cap_ argTypes t (args.map a.eval)>>=fun v=>Pure.pure (Next.value v))) (fun _ _=>rfl) (af (Cp _ _ _) fun _=>aj _)
  |copy=>exact bE (s':=(Builtin.copy_ argTypes t (args.map a.eval)>>=fun v=>Pure.pure (Next.value v))) (fun _ _=>rfl) (af (Au _ _ _) fun _=>aj _)
  |min=>exact bE (s':=(Builtin.min_ argTypes t (args.map a.eval)>>=fun v=>Pure.pure (Next.value v))) (fun _ _=>rfl) (af (Cm _ _ _) fun _=>aj _)
  |clear=>exact bE (s':=(Builtin.clear_ argTypes t (args.map a.eval)>>=fun v=>Pure.pure (Next.value v))) (fun _ _=>rfl) (af (yt _ _ _) fun _=>aj _)
  |max=>exact bE (s':=(Builtin.max_ argTypes t (args.map a.eval)>>=fun v=>Pure.pure (Next.value v))) (fun _ _=>rfl) (af (Cn _ _ _) fun _=>aj _)
  |delete=>exact bE (s':=(Builtin.delete_ argTypes t (args.map a.eval)>>=fun v=>Pure.pure (Next.value v))) (fun _ _=>rfl) (af (xf (fun u hu=>by simp only [En,hu] at h;exact h) _ _) fun _=>aj _)
  |_=>cases h
theorem jh {ok:w_->Bool} {o:Oper} (h:fN P ok o=true) (a:Act):Ds P (execOp a.eval o):=by
 obtain ⟨dst,op,type,pos,after,guard⟩:=o
 cases op with
 |panic x=>exact Cr _
 |move x=>exact ag.fe<|aj _
 |assign x=>exact ag.fe<|aj _
 |pick c x y=>exact ag.fe<|af (lj _) fun b=>aj _
 |alloc e=>exact ag.fe<|af (yy _ _ _) fun _=>aj _
 |box e x=>exact ag.fe<|af (Cq _ _) fun _=>aj _
 |build t ps=>exact ag.fe<|af (yv _ _) fun _=>aj _
 |buildSlice t n ps=>exact ag.fe<|af (qZ _ _ _) fun _=>aj _
 |load t x=>exact ag.fe<|af (xb _ _) fun _=>aj _
 |store t x y=>exact ag.fe<|af (uZ _ _ _) fun _=>aj _
 |unOp op t x=>exact ag.fe<|af (yl _ _) fun _=>aj _
 |makeFunc f x y=>exact ag.fe<|af (aj _) fun _=>aj _
 |makeMap t r=>exact ag.fe<|af (vf _ _) fun _=>aj _
 |makeChan t s=>exact ag.fe<|af (tI _ _) fun _=>aj _
 |makeSlice t l c=>exact ag.fe<|af (r9 _ _ _) fun _=>aj _
 |slice t x l hh m=>exact ag.fe<|af (vc _ _ _ _ _) fun _=>aj _
 |fieldAddr t x f=>exact ag.fe<|af (vm _ _ _) fun _=>aj _
 |field t x f=>exact ag.fe<|af (yr _ _ _) fun _=>aj _
 |indexAddr t x i=>exact ag.fe<|af (vh _ _ _) fun _=>aj _
 |index t x i=>exact ag.fe<|af (yq _ _ _) fun _=>aj _
 |range t x=>exact ag.fe<|af (yo _ _) fun _=>aj _
 |extract x i=>exact ag.fe<|af (vn _ _) fun _=>aj _
 |makeInterface t x=>exact ag.fe<|af (oC _ _) fun _=>aj _
 |lookup t x i b=>exact ag.fe<|af (xa h _ _ _) fun _=>aj _
 |mapUpdate t m k v=>exact ag.fe<|af (lQ h _ _ _) fun _=>aj _
 |insert t m k v=>exact ag.fe<|af (lQ h _ _ _) fun _=>aj _
 |binOp op t x y u=>exact ag.fe<|af (af (vq _ _ _ _ _ _) fun _=>yw h a) fun _=>aj _
 |convert x y z=>exact ag.fe<|af (vu h _) fun _=>aj _
 |nilCheck x=>
  refine ag.fe ?_
  unfold execOp
  simp only []
  generalize a.eval x=v
  all_goals exact nt
 |call c=>exact ag.fe<|Aw h _ _
 |ready g=>exact absurd h (by simp [fN])
 |waits g=>exact absurd h (by simp [fN])
 |sliceToArrayPointer d x=>exact absurd h (by simp [fN])
 |mapEntry t m k=>exact absurd h (by simp [fN])
 |entryStore t m s v=>exact absurd h (by simp [fN])
 |next i b=>exact absurd h (by simp [fN])
 |entry i=>exact absurd h (by simp [fN])
 |typeAssert x t u b=>exact absurd h (by simp [fN])
 |go c=>exact absurd h (by simp [fN])
 |defer c=>exact absurd h (by simp [fN])
 |send c x=>exact absurd h (by simp [fN])
 |recv t c b=>exact absurd h (by simp [fN])
 |select cs b=>exact absurd h (by simp [fN])
end
end Go.aC
