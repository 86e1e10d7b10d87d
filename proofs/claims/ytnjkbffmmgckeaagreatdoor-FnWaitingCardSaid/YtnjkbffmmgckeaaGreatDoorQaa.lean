/-
  The trace's side of a company in which one goroutine holds the memory, others sit or walk to their s
-/
import Derived.Conc.TokenTrace
import Derived.Calls
import Derived.Conc.Events
import Derived.Below
import Derived.Laws.Sem
import Derived.Conc.Own
import Derived.Conc.Beside
import Derived.Conc.CrowdComm
import Derived.Conc.CrowdSel
import Derived.Conc.MarkLaws
import Derived.Conc.JoinTrace
set_option linter.all false
set_option maxRecDepth 100000
set_option maxHeartbeats 32000000
open Go renaming World->J',Value->M',Goroutine->O',TypeId->Q',Program->U',execOp->V',Frame->Y',FuncId->w_,Item->x_,Addr->z_
open Nat renaming le_refl->C_,le_trans->D_,lt_of_lt_of_le->E_
open Array renaming getElem?_eq_getElem->H_,getElem?_setIfInBounds_ne->I_,size_setIfInBounds->X_,getElem?_setIfInBounds->Y_,mem_of_getElem?->l_
open Go.ConcN renaming upd_same->O_,upd_ne->P_
open List renaming mem_cons->R_
open Bool renaming and_eq_true->T_,false_eq_true->qp
open Classical renaming byContradiction->j_
open Go.MemOp renaming ofEvents->cC
open Go.Frame renaming enter->fZ
open Ne renaming symm->ru
namespace Go.aC
section
open Go Go.Conc
theorem vw {a:Act} {t:Nat} {v:M'} (h:a.eval (.tmp t)=v):a.eval (.tmp t)=v/\a.tmps[t]?.getD undef=v:=⟨h,by rw [<-Array.getD_eq_getD_getElem?];exact h⟩
variable {α:Type}
theorem so {a:Option α} {x y:α} (h:a=some y) (e:a=some x):y=x:=Option.some.inj (h.symm.trans e)
variable {i:Nat}
theorem cI {a:Array α} {x:α} (h:a[i]?=some x):i<a.size:=(Array.getElem?_eq_some_iff.1 h).1
theorem bT {bs:Array M'} {n:Nat} (h:bs.size=n) (t:Nat) (ht:t<n):t<bs.size:=h▸ht
theorem sB:(∀p:Prop,(False↔p)=¬p)/\(∀p:Prop,(True↔p)=p)/\(∀p:Prop,(p↔False)=¬p)/\(∀p:Prop,(p↔True)=p)/\(∀{α:Type} [BEq α] [LawfulBEq α] {a b:α},(a !=b)=true↔a≠b)/\(∀{α:Type} (a b:α),(a≠b)=¬(a=b))/\(∀{α:Type} [BEq α] [LawfulBEq α] {a b:α},(a==b)=true↔a=b)/\(∀{α:Type} [BEq α] [LawfulBEq α] {a b:α},(a !=b)=false↔a=b)/\(∀{α:Type} [BEq α] [LawfulBEq α] {a b:α},(a==b)=false↔a≠b)/\(∀(p:Prop) [Decidable p],(decide p=true)=p)/\(∀a b:Bool,((a&&b)=true)=(a=true/\b=true))/\(∀a b:Bool,((a||b)=true)=(a=true\/b=true))/\((false=true)=False)/\(∀p:Prop,(True/\p)=p)/\(∀p:Prop,(False/\p)=False)/\(∀p:Prop,(p/\True)=p)/\(∀p:Prop,(p\/False)=p)/\(∀p:Prop,(False\/p)=p)/\(∀p:Prop,(p\/True)=True)/\(∀p:Prop,(True\/p)=True)/\(∀p:Prop,(p/\False)=False):=⟨false_iff,true_iff,iff_false,iff_true,bne_iff_ne,ne_eq,beq_iff_eq,bne_eq_false_iff_eq,beq_eq_false_iff_ne,fun _ _=>decide_eq_true_eq,T_,Bool.or_eq_true,qp,true_and,false_and,and_true,or_false,false_or,or_true,true_or,and_false⟩
theorem ff {b c:Bool} (e:c=false) (h:b=true->c=true):b=false:=by cases b;rfl;rw [h rfl] at e;cases e
variable {j:Nat}
theorem E5 {n:Nat} {p:Prop} (h:(Array.replicate n false).getD j false=true):p:=by
 rw [show (Array.replicate n false).getD j false=false by simp [Array.getD]] at h;cases h
structure cS where
 St:Nat->Loc->Prop
 Pv:Nat->Loc->Prop
 Sh:Loc->Prop
 Gr:Loc->Prop
 Dd:Nat->Prop
 on:Prop
 ad:z_
structure cS.Ok (C:cS):Prop where
 apart:∀g g' l,C.Pv g l->g≠g'->¬C.Pv g' l/\¬C.St g' l
 off:∀g l,C.Sh l->¬C.Pv g l/\¬C.St g l
 gr:∀l,C.Gr l->¬C.Sh l/\∀g,¬C.Pv g l/\¬C.St g l
structure Tr (C:cS) (dU rel:Nat->Prop) (n:Nat) (dd:Nat->Nat) (K:Nat->Prop) (t:Trace):Prop where
 clean:∀said,¬Race said t
 known:∀i a,touchAt t i=some a->a.loc.isMemory=true->¬C.Sh a.loc->¬C.Gr a.loc->K i\/∃g,t.g? i=some g/\(C.Pv g a.loc\/a.write=false/\C.St g a.loc)/\(dU g\/∃p,rel p/\Before t i p)
 sh:∀i a,touchAt t i=some a->C.Sh a.loc->(∀g,g<n->¬C.Dd g->Knows t g i)\/(a.kind=.atomic/\(t.g? i=some 0\/¬t.heard i))\/(a.kind=.said/\t.g? i=some 0)
 gr:∀i a,touchAt t i=some a->C.Gr a.loc->Knows t 0 i\/(a.kind=.atomic/\(t.g? i=some 0\/¬t.heard i))\/(a.kind=.said/\t.g? i=some 0)
 wrote:∀i a g,touchAt t i=some a->a.write=true->C.St g a.loc->g<n->Knows t g i
 Hg:∀i a g,touchAt t i=some a->C.Pv g a.loc->g<n->Knows t g i
 deaf:∀g,Deaf t g=dd g
 Hc:∀p,rel p->t.act? p=some (.mark (.releaseMerge C.ad))/\t.heard p
 norel:∀op∈t,∀x,op.act≠.mark (.release x)
inductive qP (C:cS) (dU:Nat->Prop) (n g:Nat) (H heard:Prop) (op:MemOp):Prop
 |mute:op.act.touch?=none->qP C dU n g H heard op
 |hold {b:Touch}:op.act.touch?=some b->H->¬C.Sh b.loc->¬C.Gr b.loc->(∀g',¬C.Pv g' b.loc)->(∀g',C.St g' b.loc->b.write=false)->qP C dU n g H heard op
 |own {b:Touch}:op.act.touch?=some b->dU g->g<n->¬C.Sh b.loc->(C.Pv g b.loc\/b.write=false/\C.St g b.loc)->qP C dU n g H heard op
 |book {b:Touch}:op.act.touch?=some b->g<n->¬C.Dd g->C.Sh b.loc->(b.kind=.atomic/\(g=0\/¬heard)\/b.kind=.said/\g=0)->qP C dU n g H heard op
theorem some_inj {x y:α} (h:some x=some y):x=y:=by cases h;rfl
theorem mX {t u:Trace} {x:MemOp} (h:(t++u)[i]?=some x):(i<t.size/\t[i]?=some x)\/∃k,i=t.size+k/\u[k]?=some x:=by
 by_cases hi:i<t.size
 ·exact .inl ⟨hi,by rw [<-getElem?_append_old (u:=u) hi];exact h⟩
 ·refine .inr ⟨i - t.size,by omega, ?_⟩
  rw [Array.getElem?_append_right (by omega)] at h
  exact h
theorem fQ {t:Trace} {g:Nat} (h:t.g? i=some g):Knows t g i:=by
 obtain ⟨op,ho,hg⟩:=Option.map_eq_some_iff.1 h
 exact hg▸knows_own ho
variable {C:cS} {dU rel:Nat->Prop} {n:Nat} {dd dd':Nat->Nat} {K K':Nat->Prop} {t u:Trace} {g:Nat} {H:Prop}
theorem Tr.one (X:C.Ok) (T:Tr C dU rel n dd K t) (hu:∀op∈u,op.g=g) (hm:∀(k:Nat) op,u[k]?=some op->qP C dU n g H ((t++u).heard (t.size+k)) op) (hK:∀i,K i->K' i)
 (hH:H->(∀i,K i->Knows t g i)/\∀k,k<u.size->K' (t.size+k)) (hd:∀g',Deaf (t++u) g'=dd' g') (hn:∀op∈u,∀x,op.act≠.mark (.release x)):Tr C dU rel n dd' K' (t++u):=by
 have hlt:∀{p:Nat} {a:MemAct},t.act? p=some a->p<t.size:=fun h=>lt_of_act? h
 have JG:∀(k:Nat) op,u[k]?=some op->(t++u).g? (t.size+k)=some g:=fun k op hk=>by
  rw [g?_of (op:=op) (by rw [at_new];exact hk),hu op (l_ hk)]
 refine ⟨fun said=> ?_,fun i a ha yJ fI lH=> ?_,fun i a ha fI=> ?_,fun i a ha lH=> ?_,fun i a g' ha hw hs iJ=> ?_,fun i a g' ha hs iJ=> ?_,hd,fun p hp=> ?_,fun op hop=>(Array.mem_append.1 hop).elim (T.norel op) (hn op)⟩
 ·refine noRace_append (T.clean said) hu fun i a ha op hop b hb hc=> ?_
  obtain ⟨k,hk⟩:=Array.mem_iff_getElem?.1 hop
  cases hm k op hk with
  |mute h=>rw [h] at hb;cases hb
  |hold h h0 h1 HQ h2 h3=>
   rw [h] at hb;cases hb
   rcases T.known i a ha hc.2.1 (hc.1▸h1) (hc.1▸HQ) with fS|⟨g',_,hp|⟨hw,hs⟩,_⟩
   ·exact (hH h0).1 i fS
   ·exact absurd (hc.1▸hp) (h2 g')
   ·have CV:=h3 g' (hc.1▸hs)
    rcases hc.2.2.1 with x|x
    ·rw [hw] at x;cases x
    ·rw [CV] at x;cases x
  |own h h0 h1 h2 h3=>
   rw [h] at hb;cases hb
   rcases h3 with hp|⟨hw,hs⟩
   ·exact T.Hg i a g ha (hc.1▸hp) h1
   ·rcases hc.2.2.1 with x|x
    ·exact T.wrote i a g ha x (hc.1▸hs) h1
    ·rw [hw] at x;cases x
  |book h h0 ND h1 h2=>
   rw [h] at hb;cases hb
   rcases T.sh i a ha (hc.1▸h1) with fS|⟨ka,_⟩|⟨ka,g0⟩
   ·exact fS g h0 ND
   ·exfalso
    have hcc:=hc.2.2.2
    rw [ka] at hcc
    rcases h2 with ⟨h2,_⟩|⟨h2,_⟩<;>rw [h2] at hcc<;>simp at hcc
   ·rcases h2 with ⟨h2,_⟩|⟨h2,rfl⟩
    ·exfalso
     have hcc:=hc.2.2.2
     rw [ka,h2] at hcc
     simp at hcc
    ·exact fQ g0
 ·obtain ⟨x,hx,iI⟩:=touch_of ha
  rcases mX hx with ⟨hi,yE⟩|⟨k,rfl,hk⟩
  ·rcases T.known i a (by rw [touchAt_of yE];exact iI) yJ fI lH with h|⟨g',h1,h2,h3⟩
   ·exact .inl (hK i h)
   ·exact .inr ⟨g',by rw [g?_old hi];exact h1,h2,h3.imp id fun ⟨p,hp,hb⟩=>⟨p,hp,hb.app u⟩⟩
  ·cases hm k x hk with
   |mute h=>rw [h] at iI;cases iI
   |hold h h0=>exact .inl ((hH h0).2 k (cI hk))
   |own h h0 h1 h2 h3=>rw [h] at iI;cases iI;exact .inr ⟨g,JG k x hk,h3,.inl h0⟩
   |book h h0 ND h1=>rw [h] at iI;cases iI;exact absurd h1 fI
 ·obtain ⟨x,hx,iI⟩:=touch_of ha
  rcases mX hx with ⟨hi,yE⟩|⟨k,rfl,hk⟩
  ·rcases T.sh i a (by rw [touchAt_of yE];exact iI) fI with h|h|h
   ·exact .inl fun g' iJ HG=>(h g' iJ HG).app u
   ·exact .inr (.inl ⟨h.1,h.2.imp (fun q=>by rw [g?_old hi];exact q) (fun q=>by rw [heard_old hi];exact q)⟩)
   ·exact .inr (.inr ⟨h.1,by rw [g?_old hi];exact h.2⟩)
  ·cases hm k x hk with
   |mute h=>rw [h] at iI;cases iI
   |hold h h0 h1=>rw [h] at iI;cases iI;exact absurd fI h1
   |own h h0 h1 h2=>rw [h] at iI;cases iI;exact absurd fI h2
   |book h h0 ND h1 h2=>
    rw [h] at iI;cases iI
    rcases h2 with ⟨h2,h3⟩|⟨h2,h3⟩
    ·exact .inr (.inl ⟨h2,h3.imp (fun q=>by rw [JG k x hk,q]) id⟩)
    ·exact .inr (.inr ⟨h2,by rw [JG k x hk,h3]⟩)
 ·obtain ⟨x,hx,iI⟩:=touch_of ha
  rcases mX hx with ⟨hi,yE⟩|⟨k,rfl,hk⟩
  ·rcases T.gr i a (by rw [touchAt_of yE];exact iI) lH with h|h|h
   ·exact .inl (h.app u)
   ·exact .inr (.inl ⟨h.1,h.2.imp (fun q=>by rw [g?_old hi];exact q) (fun q=>by rw [heard_old hi];exact q)⟩)
   ·exact .inr (.inr ⟨h.1,by rw [g?_old hi];exact h.2⟩)
  ·cases hm k x hk with
   |mute h=>rw [h] at iI;cases iI
   |hold h h0 h1 HQ=>rw [h] at iI;cases iI;exact absurd lH HQ
   |own h h0 h1 h2 h3=>rw [h] at iI;cases iI;exact h3.elim (fun q=>absurd q ((X.gr _ lH).2 g).1) fun q=>absurd q.2 ((X.gr _ lH).2 g).2
   |book h h0 ND h1 h2=>rw [h] at iI;cases iI;exact absurd h1 (X.gr _ lH).1
 ·obtain ⟨x,hx,iI⟩:=touch_of ha
  rcases mX hx with ⟨hi,yE⟩|⟨k,rfl,hk⟩
  ·exact (T.wrote i a g' (by rw [touchAt_of yE];exact iI) hw hs iJ).app u
  ·cases hm k x hk with
   |mute h=>rw [h] at iI;cases iI
   |hold h h0 h1 HQ h2 h3=>rw [h] at iI;cases iI;rw [h3 g' hs] at hw;cases hw
   |own h h0 h1 h2 h3=>
    rw [h] at iI;cases iI
    rcases h3 with hp|⟨gC,_⟩
    ·by_cases e:g=g'
     ·subst e;exact fQ (JG k x hk)
     ·exact absurd hs (X.apart g g' _ hp e).2
    ·rw [hw] at gC;cases gC
   |book h h0 ND h1=>rw [h] at iI;cases iI;exact absurd hs (X.off g' _ h1).2
 ·obtain ⟨x,hx,iI⟩:=touch_of ha
  rcases mX hx with ⟨hi,yE⟩|⟨k,rfl,hk⟩
  ·exact (T.Hg i a g' (by rw [touchAt_of yE];exact iI) hs iJ).app u
  ·cases hm k x hk with
   |mute h=>rw [h] at iI;cases iI
   |hold h h0 h1 HQ h2 h3=>rw [h] at iI;cases iI;exact absurd hs (h2 g')
   |own h h0 h1 h2 h3=>
    rw [h] at iI;cases iI
    by_cases e:g=g'
    ·subst e;exact fQ (JG k x hk)
    ·rcases h3 with hp|⟨_,hq⟩
     ·exact absurd hs (X.apart g g' _ hp e).1
     ·exact absurd hq (X.apart g' g _ hs (ru e)).2
   |book h h0 ND h1=>rw [h] at iI;cases iI;exact absurd hs (X.off g' _ h1).1
 ·obtain ⟨h1,h2⟩:=T.Hc p hp
  exact ⟨by rw [act?_old (hlt h1)];exact h1,(heard_old (hlt h1)).2 h2⟩
theorem Tr.mute (T:Tr C dU rel n dd K t) (hm:∀op∈u,op.act.touch?=none) (hK:∀i,K i->K' i) (hd:∀g',Deaf (t++u) g'=dd' g') (hn:∀op∈u,∀x,op.act≠.mark (.release x)):Tr C dU rel n dd' K' (t++u):=by
 have hlt:∀{p:Nat} {a:MemAct},t.act? p=some a->p<t.size:=fun h=>lt_of_act? h
 have old:∀{i:Nat} {a:Touch},touchAt (t++u) i=some a->i<t.size/\touchAt t i=some a:=by
  intro i a ha
  obtain ⟨x,hx,iI⟩:=touch_of ha
  rcases getElem?_append_cases hx with ⟨hi,yE⟩|⟨_,TR⟩
  ·exact ⟨hi,by rw [touchAt_of yE];exact iI⟩
  ·rw [hm x TR] at iI;cases iI
 refine ⟨fun said=>noRace_appendMute (T.clean said) hm,fun i a ha yJ fI lH=> ?_,fun i a ha fI=> ?_,fun i a ha lH=> ?_,fun i a g' ha hw hs iJ=>(T.wrote i a g' (old ha).2 hw hs iJ).app u,fun i a g' ha hs iJ=>(T.Hg i a g' (old ha).2 hs iJ).app u,hd,fun p hp=> ?_,fun op hop=>(Array.mem_append.1 hop).elim (T.norel op) (hn op)⟩
 ·obtain ⟨hi,ha'⟩:=old ha
  rcases T.known i a ha' yJ fI lH with h|⟨g',h1,h2,h3⟩
  ·exact .inl (hK i h)
  ·exact .inr ⟨g',by rw [g?_old hi];exact h1,h2,h3.imp id fun ⟨p,hp,hb⟩=>⟨p,hp,hb.app u⟩⟩
 ·obtain ⟨hi,ha'⟩:=old ha
  rcases T.sh i a ha' fI with h|h|h
  ·exact .inl fun g' iJ HG=>(h g' iJ HG).app u
  ·exact .inr (.inl ⟨h.1,h.2.imp (fun q=>by rw [g?_old hi];exact q) (fun q=>by rw [heard_old hi];exact q)⟩)
  ·exact .inr (.inr ⟨h.1,by rw [g?_old hi];exact h.2⟩)
 ·obtain ⟨hi,ha'⟩:=old ha
  rcases T.gr i a ha' lH with h|h|h
  ·exact .inl (h.app u)
  ·exact .inr (.inl ⟨h.1,h.2.imp (fun q=>by rw [g?_old hi];exact q) (fun q=>by rw [heard_old hi];exact q)⟩)
  ·exact .inr (.inr ⟨h.1,by rw [g?_old hi];exact h.2⟩)
 ·obtain ⟨h1,h2⟩:=T.Hc p hp
  exact ⟨by rw [act?_old (hlt h1)];exact h1,(heard_old (hlt h1)).2 h2⟩
theorem Tr.n9 {Fp bZ:Nat->Prop} (T:Tr C dU rel n dd K t) (hr:∀p,bZ p->rel p\/(t.act? p=some (.mark (.releaseMerge C.ad))/\t.heard p))
 (h:∀i a,touchAt t i=some a->a.loc.isMemory=true->¬C.Sh a.loc->¬C.Gr a.loc->(K i->K' i\/∃g,t.g? i=some g/\(C.Pv g a.loc\/a.write=false/\C.St g a.loc)/\(Fp g\/∃p,bZ p/\Before t i p))/\
  ∀g,t.g? i=some g->(dU g\/∃p,rel p/\Before t i p)->K' i\/(Fp g\/∃p,bZ p/\Before t i p)):Tr C Fp bZ n dd K' t:=by
 refine ⟨T.clean,fun i a ha hm hs lH=> ?_,T.sh,T.gr,T.wrote,T.Hg,T.deaf,fun p hp=>(hr p hp).elim (T.Hc p) id,T.norel⟩
 obtain ⟨h1,h2⟩:=h i a ha hm hs lH
 rcases T.known i a ha hm hs lH with k|⟨g,k1,k2,k3⟩
 ·exact h1 k
 ·rcases h2 g k1 k3 with k4|k4
  ·exact .inl k4
  ·exact .inr ⟨g,k1,k2,k4⟩
variable {h:Nat}
theorem Tr.both (T:Tr C dU rel n dd K t) (hh:dd h=0) (hj:dd j=0) (fh:w_) (ph:String) (fj:w_) (pj:String) (c k:Nat):
 ∀i,Knows t h i\/Knows t j i->Knows (t++met h j fh ph fj pj c k 0) h i/\Knows (t++met h j fh ph fj pj c k 0) j i:=by
 generalize hu:met h j fh ph fj pj c k 0=u
 have hq:∀g,∀op∈u,∀d,deafStep g d op=d:=fun g=>hu▸met_quiet h j fh ph fj pj c k 0 g
 have e0:(t++u)[t.size]?=some {g:=h,fn:=fh,pos:=ph,act:=.send c k}:=by subst hu;simp [met]
 have e1:(t++u)[t.size+1]?=some {g:=j,fn:=fj,pos:=pj,act:=.recv c k 0}:=by subst hu;simp [met]
 have e2:(t++u)[t.size+2]?=some {g:=h,fn:=fh,pos:=ph,act:=.sendDone c k}:=by subst hu;simp [met]
 have e3:(t++u)[t.size+3]?=some {g:=j,fn:=fj,pos:=pj,act:=.recvDone c k}:=by subst hu;simp [met]
 have hsz:u.size=4:=by subst hu;simp [met]
 have hear:∀(x:Nat) (m:Nat) op,m<=u.size->(t++u)[t.size+m]?=some op->op.g=x->dd x=0->(t++u).heard (t.size+m):=fun x m op hm ho hx hd=>
  ⟨x,by rw [g?_of ho,hx],by rw [deaf_quiet (hq x) m hm,T.deaf x,hd]⟩
 have VI:HappensBefore (t++u) t.size (t.size+3):=Relation.TransGen.single (.inr ⟨.handOver (act?_of e0) (act?_of e3),hear h 0 _ (by omega) e0 rfl hh,hear j 3 _ (by omega) e3 rfl hj⟩)
 have VH:HappensBefore (t++u) (t.size+1) (t.size+2):=Relation.TransGen.single (.inr ⟨.room (act?_of e1) (by rw [act?_of e2];rfl),hear j 1 _ (by omega) e1 rfl hj,hear h 2 _ (by omega) e2 rfl hh⟩)
 rintro i (hk|hk)
 ·exact ⟨hk.app u,⟨t.size+3,_,e3,rfl,.inr ((hk.hb_new (C_ _) e0 rfl).trans VI)⟩⟩
 ·exact ⟨⟨t.size+2,_,e2,rfl,.inr ((hk.hb_new (by omega) e1 rfl).trans VH)⟩,hk.app u⟩
theorem Tr.meet (T:Tr C dU rel n dd K t) (hK:∀i,K i->Knows t h i\/Knows t j i) (hh:dd h=0) (hj:dd j=0) (fh:w_) (ph:String) (fj:w_) (pj:String) (c k:Nat):
 Tr C (fun g=>dU g/\g≠h/\g≠j) rel n dd (fun i=>Knows (t++met h j fh ph fj pj c k 0) h i/\Knows (t++met h j fh ph fj pj c k 0) j i) (t++met h j fh ph fj pj c k 0):=by
 have both:=T.both hh hj fh ph fj pj c k
 revert both
 generalize hu:met h j fh ph fj pj c k 0=u
 intro both
 have hn:∀op∈u,op.act.touch?=none:=hu▸met_mute h j fh ph fj pj c k 0
 have hq:∀g,∀op∈u,∀d,deafStep g d op=d:=fun g=>hu▸met_quiet h j fh ph fj pj c k 0 g
 refine (T.mute (K':=fun i=>Knows (t++u) h i/\Knows (t++u) j i) (dd':=dd) hn (fun i hi=>both i (hK i hi)) (fun g=>(Deaf_quiet (hq g)).trans (T.deaf g)) (fun op hop=> ?_)).n9 (fun p hp=>.inl hp) (fun i a ha hm hs _=>⟨fun hk=>.inl hk,fun g hg hl=> ?_⟩)
 ·subst hu
  simp only [met,List.mem_toArray,R_,List.not_mem_nil,or_false] at hop
  intro x
  rcases hop with rfl|rfl|rfl|rfl<;>simp
 ·rcases hl with hl|hl
  ·by_cases e:g=h\/g=j
   ·left
    obtain ⟨x,hx,iI⟩:=touch_of ha
    rcases getElem?_append_cases hx with ⟨hi,yE⟩|⟨_,TR⟩
    ·have hk:Knows t g i:=fQ (by rw [<-g?_old (u:=u) hi];exact hg)
     rcases e with rfl|rfl
     ·exact both i (.inl hk)
     ·exact both i (.inr hk)
    ·rw [hn x TR] at iI;cases iI
   ·exact .inr (.inl ⟨hl,fun x=>e (.inl x),fun x=>e (.inr x)⟩)
  ·exact .inr (.inr hl)
def cS.hire (C:cS) (n:Nat) (S Q:Loc->Prop):cS:={St:=fun g l=>C.St g l\/g=n/\S l,Pv:=fun g l=>C.Pv g l\/g=n/\Q l,Sh:=C.Sh,Gr:=C.Gr,Dd:=C.Dd,on:=C.on,ad:=C.ad}
variable {S:Loc->Prop}
theorem Tr.hire {Q:Loc->Prop} (T:Tr C dU rel n dd K t) (hK:∀i,K i->Knows t h i) (hlt:h<n) (hhd:¬C.Dd h) (hh:dd h=0) (hc:dd n=0) (lG:∀g l,C.St g l\/C.Pv g l->g<n)
 (hS:∀l,S l->l.isMemory=true/\¬C.Sh l/\¬C.Gr l/\∀g,¬C.Pv g l) (hQ:∀l,Q l->l.isMemory=true/\¬C.Sh l/\¬C.Gr l/\∀g,¬C.Pv g l/\¬C.St g l) (fh:w_) (ph:String) (fc:w_)
 (hK':∀i,Knows (t++#[{g:=h,fn:=fh,pos:=ph,act:=.go n},{g:=n,fn:=fc,pos:=ph,act:=.start}]) h i->Knows (t++#[{g:=h,fn:=fh,pos:=ph,act:=.go n},{g:=n,fn:=fc,pos:=ph,act:=.start}]) n i->K' i):
 Tr (C.hire n S Q) (fun g=>dU g\/g=n) rel (n+1) dd K' (t++#[{g:=h,fn:=fh,pos:=ph,act:=.go n},{g:=n,fn:=fc,pos:=ph,act:=.start}]):=by
 generalize hu:(#[{g:=h,fn:=fh,pos:=ph,act:=.go n},{g:=n,fn:=fc,pos:=ph,act:=.start}]:Trace)=u at hK' ⊢
 have hn:∀op∈u,op.act.touch?=none:=by
  intro op hop
  subst hu
  simp only [List.mem_toArray,R_,List.not_mem_nil,or_false] at hop
  rcases hop with rfl|rfl<;>rfl
 have hq:∀g,∀op∈u,∀d,deafStep g d op=d:=by
  intro g op hop d
  subst hu
  simp only [List.mem_toArray,R_,List.not_mem_nil,or_false] at hop
  rcases hop with rfl|rfl<;>rfl
 have e0:(t++u)[t.size]?=some {g:=h,fn:=fh,pos:=ph,act:=.go n}:=by subst hu;simp
 have e1:(t++u)[t.size+1]?=some {g:=n,fn:=fc,pos:=ph,act:=.start}:=by subst hu;simp
 have edge:HappensBefore (t++u) t.size (t.size+1):=
  Relation.TransGen.single (.inr ⟨.spawn (act?_of e0) (act?_of e1) (g?_of e1),⟨h,g?_of e0,by rw [deaf_old (C_ _)];exact (T.deaf h).trans hh⟩,⟨n,g?_of e1,by rw [deaf_quiet (hq n) 1 (by subst hu;simp)];exact (T.deaf n).trans hc⟩⟩)
 have pass:∀{i},Knows t h i->Knows (t++u) n i:=fun hk=>⟨t.size+1,_,e1,rfl,.inr ((hk.hb_new (C_ _) e0 rfl).trans edge)⟩
 have old:∀{i:Nat} {a:Touch},touchAt (t++u) i=some a->i<t.size/\touchAt t i=some a:=by
  intro i a ha
  obtain ⟨x,hx,iI⟩:=touch_of ha
  rcases getElem?_append_cases hx with ⟨hi,yE⟩|⟨_,TR⟩
  ·exact ⟨hi,by rw [touchAt_of yE];exact iI⟩
  ·rw [hn x TR] at iI;cases iI
 have T':=T.mute (K':=K') (dd':=dd) hn (fun i hi=>hK' i ((hK i hi).app u) (pass (hK i hi))) (fun g=>(Deaf_quiet (hq g)).trans (T.deaf g)) (fun op hop=>by
  subst hu
  simp only [List.mem_toArray,R_,List.not_mem_nil,or_false] at hop
  intro x
  rcases hop with rfl|rfl<;>simp)
 refine ⟨T'.clean,fun i a ha hm hs lH=> ?_,fun i a ha hs=> ?_,T'.gr,fun i a g ha hw hs hg=> ?_,fun i a g ha hs hg=> ?_,T'.deaf,T'.Hc,T'.norel⟩
 ·rcases T'.known i a ha hm hs lH with k|⟨g,k1,k2,k3⟩
  ·exact .inl k
  ·exact .inr ⟨g,k1,k2.imp .inl fun x=>⟨x.1,.inl x.2⟩,k3.imp .inl id⟩
 ·obtain ⟨hi,ha'⟩:=old ha
  rcases T.sh i a ha' hs with k|k|k
  ·refine .inl fun g hg hd=> ?_
   by_cases e:g=n
   ·subst e;exact pass (k h hlt hhd)
   ·exact (k g (by omega) hd).app u
  ·exact .inr (.inl ⟨k.1,k.2.imp (fun q=>by rw [g?_old hi];exact q) (fun q=>by rw [heard_old hi];exact q)⟩)
  ·exact .inr (.inr ⟨k.1,by rw [g?_old hi];exact k.2⟩)
 ·rcases hs with hs|⟨rfl,hs⟩
  ·exact T'.wrote i a g ha hw hs (lG g _ (.inl hs))
  ·obtain ⟨q1,q2,Yq,q3⟩:=hS _ hs
   rcases T.known i a (old ha).2 q1 q2 Yq with k|⟨g',_,k|⟨k,_⟩,_⟩
   ·exact pass (hK i k)
   ·exact absurd k (q3 g')
   ·rw [hw] at k;cases k
 ·rcases hs with hs|⟨rfl,hs⟩
  ·exact T'.Hg i a g ha hs (lG g _ (.inr hs))
  ·obtain ⟨q1,q2,Yq,q3⟩:=hQ _ hs
   rcases T.known i a (old ha).2 q1 q2 Yq with k|⟨g',_,k|⟨_,k⟩,_⟩
   ·exact pass (hK i k)
   ·exact absurd k (q3 g').1
   ·exact absurd k (q3 g').2
theorem Tr.release (T:Tr C dU rel n dd K t) (hK:∀i,K i->K' i) (hg:dd g=0) (fn:w_) (pos:String) (hu:u=#[{g:=g,fn:=fn,pos:=pos,act:=.mark (.releaseMerge C.ad)}]):
 Tr C (fun x=>dU x/\x≠g) (fun p=>rel p\/p=t.size) n dd K' (t++u)/\∀i,Knows t g i->Before (t++u) i t.size:=by
 have e0:(t++u)[t.size]?=some {g:=g,fn:=fn,pos:=pos,act:=.mark (.releaseMerge C.ad)}:=by subst hu;simp
 have hn:∀op∈u,op.act.touch?=none:=by
  intro op hop
  subst hu
  simp only [List.mem_toArray,R_,List.not_mem_nil,or_false] at hop
  subst hop;rfl
 have hq:∀g,∀op∈u,∀d,deafStep g d op=d:=by
  intro g op hop d
  subst hu
  simp only [List.mem_toArray,R_,List.not_mem_nil,or_false] at hop
  subst hop;rfl
 have bef:∀i,Knows t g i->Before (t++u) i t.size:=fun i hk=>.inr (hk.hb_new (C_ _) e0 rfl)
 refine ⟨(T.mute (K':=K') (dd':=dd) hn hK (fun g'=>(Deaf_quiet (hq g')).trans (T.deaf g')) (fun op hop=> ?_)).n9 (fun p hp=> ?_) (fun i a ha hm hs _=>⟨fun hk=>.inl hk,fun x hx hl=> ?_⟩),bef⟩
 ·subst hu
  simp only [List.mem_toArray,R_,List.not_mem_nil,or_false] at hop
  intro x;subst hop;simp
 ·rcases hp with hp|rfl
  ·exact .inl hp
  ·exact .inr ⟨act?_of e0,g,g?_of e0,by rw [deaf_old (C_ _)];exact (T.deaf g).trans hg⟩
 ·rcases hl with hl|⟨p,hp,hb⟩
  ·by_cases e:x=g
   ·subst e
    obtain ⟨y,hy,hya⟩:=touch_of ha
    rcases getElem?_append_cases hy with ⟨hi,_⟩|⟨_,hyu⟩
    ·exact .inr (.inr ⟨t.size,.inr rfl,bef i (fQ (by rw [<-g?_old (u:=u) hi];exact hx))⟩)
    ·rw [hn y hyu] at hya;cases hya
   ·exact .inr (.inl ⟨hl,e⟩)
  ·exact .inr (.inr ⟨p,.inl hp,hb⟩)
theorem Tr.acquire (T:Tr C dU rel n dd K t) (hK:∀i,K i->Knows t 0 i\/∃p,rel p/\Before t i p) (hg:dd 0=0) (fn:w_) (pos:String) (hu:u=#[{g:=0,fn:=fn,pos:=pos,act:=.mark (.acquire C.ad)}]):
 Tr C dU (fun _=>False) n dd (Knows (t++u) 0) (t++u):=by
 have e0:(t++u)[t.size]?=some {g:=0,fn:=fn,pos:=pos,act:=.mark (.acquire C.ad)}:=by subst hu;simp
 have hn:∀op∈u,op.act.touch?=none:=by
  intro op hop
  subst hu
  simp only [List.mem_toArray,R_,List.not_mem_nil,or_false] at hop
  subst hop;rfl
 have hq:∀g,∀op∈u,∀d,deafStep g d op=d:=by
  intro g op hop d
  subst hu
  simp only [List.mem_toArray,R_,List.not_mem_nil,or_false] at hop
  subst hop;rfl
 have edge:∀p,rel p->HappensBefore (t++u) p t.size:=by
  intro p hp
  obtain ⟨h1,h2⟩:=T.Hc p hp
  have hlt:=lt_of_act? h1
  refine Relation.TransGen.single (.inr ⟨.marked hlt (.inr (by rw [act?_old hlt];exact h1)) (act?_of e0) (fun k _ hk ho=> ?_),(heard_old hlt).2 h2,⟨0,g?_of e0,by rw [deaf_old (C_ _)];exact (T.deaf 0).trans hg⟩⟩)
  rw [act?_old hk] at ho
  obtain ⟨op,Gd,Uo⟩:=Option.map_eq_some_iff.1 (show (t[k]?).map (·.act)=_ from ho)
  exact T.norel op (l_ Gd) _ Uo
 have now:∀i,(∃p,rel p/\Before t i p)->Knows (t++u) 0 i:=fun i ⟨p,hp,hb⟩=>⟨t.size,_,e0,rfl,.inr ((hb.app u).hb (edge p hp))⟩
 refine (T.mute (K':=Knows (t++u) 0) (dd':=dd) hn (fun i hi=>(hK i hi).elim (fun x=>x.app u) (now i)) (fun g'=>(Deaf_quiet (hq g')).trans (T.deaf g')) (fun op hop=> ?_)).n9 (fun p hp=>hp.elim) (fun i a ha hm hs _=>⟨fun hk=>.inl hk,fun x hx hl=> ?_⟩)
 ·subst hu
  simp only [List.mem_toArray,R_,List.not_mem_nil,or_false] at hop
  intro x;subst hop;simp
 ·rcases hl with hl|⟨p,hp,hb⟩
  ·exact .inr (.inl hl)
  ·exact .inl ⟨t.size,_,e0,rfl,.inr (hb.hb (edge p hp))⟩
theorem Tr.handed (T:Tr C dU rel n dd (Knows t 0) t) (hn:0<n) (ZE:¬C.Dd 0) (hL:∀g,¬dU g) (hr:∀p,¬rel p):t.HandedOver:=by
 intro i g hg hne hc
 obtain ⟨x,hx,hm,hk⟩:=hc
 have fin:Knows t 0 i->∃j,t.g? j=some 0/\HappensBefore t i j:=by
  rintro ⟨q,z,hq,hz,hb⟩
  rcases hb with rfl|hb
  ·rw [g?_of hq,hz] at hg
   exact absurd (some_inj hg).symm hne
  ·exact ⟨q,by rw [g?_of hq,hz],hb⟩
 by_cases hs:C.Sh x.loc
 ·rcases T.sh i x hx hs with h|⟨h1,h2⟩|⟨_,h2⟩
  ·exact fin (h 0 hn ZE)
  ·rcases h2 with h2|h2
   ·rw [hg] at h2;exact absurd (some_inj h2) hne
   ·rcases hk with hk|hk
    ·exact absurd h1 hk
    ·exact absurd hk h2
  ·rw [hg] at h2;exact absurd (some_inj h2) hne
 ·by_cases lH:C.Gr x.loc
  ·rcases T.gr i x hx lH with h|⟨h1,h2⟩|⟨_,h2⟩
   ·exact fin h
   ·rcases h2 with h2|h2
    ·rw [hg] at h2;exact absurd (some_inj h2) hne
    ·rcases hk with hk|hk
     ·exact absurd h1 hk
     ·exact absurd hk h2
   ·rw [hg] at h2;exact absurd (some_inj h2) hne
  rcases T.known i x hx hm hs lH with h|⟨g',_,_,h|⟨p,h,_⟩⟩
  ·exact fin h
  ·exact absurd h (hL g')
  ·exact absurd h (hr p)
def cS.anew (C:cS) (n:Nat) (S:Loc->Prop) (on:Prop) (ad:z_):cS:={St:=fun _ _=>False,Pv:=fun _ _=>False,Sh:=S,Gr:=fun l=>C.Gr l\/C.Sh l,Dd:=fun g=>0<g/\g<n,on:=on,ad:=ad}
theorem Tr.anew {on:Prop} {ad:z_} (T:Tr C dU rel n dd (Knows t 0) t) (hn:0<n) (ZE:¬C.Dd 0) (hL:∀g,¬dU g) (hr:∀p,¬rel p) (hS:∀l,S l->l.isMemory=true/\¬C.Sh l/\¬C.Gr l):
 Tr (C.anew n S on ad) (fun _=>False) (fun _=>False) n dd (Knows t 0) t:=by
 have know:∀i a,touchAt t i=some a->a.loc.isMemory=true->¬C.Sh a.loc->¬C.Gr a.loc->Knows t 0 i:=fun i a ha hm hs hg=>by
  rcases T.known i a ha hm hs hg with h|⟨g',_,_,h|⟨p,h,_⟩⟩
  ·exact h
  ·exact absurd h (hL g')
  ·exact absurd h (hr p)
 refine ⟨T.clean,fun i a ha hm _ hg=>.inl (know i a ha hm (fun h=>hg (.inr h)) (fun h=>hg (.inl h))),fun i a ha hs=>.inl fun g hg hd=> ?_,fun i a ha hg=> ?_,fun i a g ha _ h=>h.elim,fun i a g ha h=>h.elim,T.deaf,fun p hp=>hp.elim,T.norel⟩
 ·obtain ⟨h1,h2,h3⟩:=hS _ hs
  obtain rfl:g=0:=by
   rcases Nat.eq_zero_or_pos g with h|h
   ·exact h
   ·exact absurd ⟨h,hg⟩ hd
  exact know i a ha h1 h2 h3
 ·rcases hg with hg|hg
  ·exact T.gr i a ha hg
  ·rcases T.sh i a ha hg with h|h|h
   ·exact .inl (h 0 hn ZE)
   ·exact .inr (.inl h)
   ·exact .inr (.inr h)
def cS.drop (C:cS) (i:Nat):cS:={St:=fun g l=>g≠i/\C.St g l,Pv:=fun g l=>g≠i/\C.Pv g l,Sh:=C.Sh,Gr:=C.Gr,Dd:=C.Dd,on:=C.on,ad:=C.ad}
theorem Tr.drop (T:Tr C dU rel n dd K t) (hi:¬dU i) (hr:∀p x a,rel p->Before t x p->t.g? x=some i->touchAt t x=some a->K x):Tr (C.drop i) dU rel n dd K t:=by
 refine ⟨T.clean,fun x a ha hm hs hg=> ?_,T.sh,T.gr,fun x a g ha hw hs=>T.wrote x a g ha hw hs.2,fun x a g ha hs=>T.Hg x a g ha hs.2,T.deaf,T.Hc,T.norel⟩
 rcases T.known x a ha hm hs hg with h|⟨g,h1,h2,h3⟩
 ·exact .inl h
 ·by_cases e:g=i
  ·subst e
   rcases h3 with h3|⟨p,hp,hb⟩
   ·exact absurd h3 hi
   ·exact .inl (hr p x a hp hb h1 ha)
  ·exact .inr ⟨g,h1,h2.imp (fun h=>⟨e,h⟩) (fun h=>⟨h.1,e,h.2⟩),h3⟩
end
section
open Go
def gd (f:Nat × Nat) (k:Nat):Bool:=f.1<=k&&k<f.2
def vV:Obj->Bool
 | .cells ..=>true
 |_=>false
def MR:Obj->Bool
 | .view a _=>a.spot.isNone
 | .pending ..=>true
 |_=>false
inductive na:Obj->Obj->Prop
 |view (a a':z_) (t:Q'):na (.view a t) (.view a' t)
 |late (c:Array M') (e:Q'):na (.coro none) (.pending c e)
 |map (es:Array MapEntry) (clock:Nat):na (.coro none) (.map es clock)
 |chan (cap:Nat) (buf:Array M') (cl:Bool) (s r:Nat) (tm:Bool):na (.chan cap buf true s r tm) (.chan cap buf cl s r tm)
def isMap:Obj->Bool
 | .map ..=>true
 |_=>false
variable {o':Obj}
theorem na.cells {o:Obj} (h:na o o'):vV o=false/\vV o'=false:=by cases h<;>exact ⟨rfl,rfl⟩
theorem na.Jd {o:Obj} (h:na o o'):o'.isChan=o.isChan:=by cases h<;>rfl
theorem na.TH {o:Obj} (h:na o o'):isMap o=false:=by cases h<;>rfl
theorem uD {o:Obj} (h:isMap o=true):vV o=false/\o.isChan=false:=by cases o<;>first|(cases h;done)|exact ⟨rfl,rfl⟩
def pL:Halt->Prop
 | .panic _| .stuck _=>True
 | .unsupported (.initOrder _)=>False
 | .unsupported _=>True
 |_=>False
def LM {α:Type}:Result α->Prop
 | .ok _ _=>True
 | .halt h _=>pL h
inductive LN:Obj->Obj->Prop
 |same (o:Obj):LN o o
 |blind {o o':Obj} (h:na o o'):LN o o'
 |cut {c c':Array M'} {e:Q'} {f f':Nat × Nat} (hs:c.size<=c'.size) (hc:∀k,k<c.size->c'[k]?=c[k]?) (hf:∀k,gd f' k=true->gd f k=true):LN (.cells c e f) (.cells c' e f')
structure bI (wl w:J'):Prop where
 size:wl.heap.size=w.heap.size
 obj:∀(b:Nat) (o o':Obj),wl.heap[b]?=some o->w.heap[b]?=some o'->LN o o'
 os:wl.os=w.os
 out:wl.output=w.output
 ic:∀(b:Nat) (o:Obj),wl.heap[b]?=some o->MR o=false
variable {wl w:J'}
theorem bI.self (k:bI wl w):bI wl wl:=⟨rfl,fun _ _ _ h h'=>by rw [h] at h';cases h';exact .same _,rfl,rfl,k.ic⟩
variable {b:Nat}
theorem bI.get (h:bI wl w) {o:Obj} (hb:wl.heap[b]?=some o):∃o',w.heap[b]?=some o'/\LN o o':=by
 have hl:b<w.heap.size:=h.size▸(cI hb)
 exact ⟨_,H_ hl,h.obj b o _ hb (H_ hl)⟩
structure oA (wl w w':J'):Prop where
 size:w.heap.size<=w'.heap.size
 cells:∀(b:Nat) (c:Array M') (e:Q') (f:Nat × Nat),w.heap[b]?=some (.cells c e f)->∃c',w'.heap[b]?=some (.cells c' e f)/\c'.size=c.size/\∀k,(wl.cell? ⟨b,k,none⟩=none\/wl.frozen? ⟨b,k,none⟩=true)->c'[k]?=c[k]?
 chan:∀(b:Nat) (o:Obj),w.heap[b]?=some o->o.isChan=true->w'.heap[b]?=some o
 gz:∀(b:Nat) (o:Obj),w.heap[b]?=some o->vV o=false->∃o',w'.heap[b]?=some o'/\vV o'=false/\(o.isChan=false->o'.isChan=false)/\(isMap o=true->isMap o'=true)
 still:∀(b:Nat) (o:Obj),wl.heap[b]?=some o->vV o=false->isMap o=false->w'.heap[b]?=w.heap[b]?
 os:w'.os=w.os
 out:w'.output=w.output
 tape:w'.tape=w.tape
theorem oA.refl (wl w:J'):oA wl w w:=⟨C_ _,fun _ c _ _ h=>⟨c,h,rfl,fun _ _=>rfl⟩,fun _ _ h _=>h,fun _ o h ho=>⟨o,h,ho,id,id⟩,fun _ _ _ _ _=>rfl,rfl,rfl,rfl⟩
variable {k:Nat}
theorem oA.there (h:oA wl wl w) (hb:b<wl.heap.size):(w.cell? ⟨b,k,none⟩=none↔wl.cell? ⟨b,k,none⟩=none)/\w.frozen? ⟨b,k,none⟩=wl.frozen? ⟨b,k,none⟩:=by
 obtain ⟨o,ho⟩:∃o,wl.heap[b]?=some o:=⟨_,H_ hb⟩
 cases hc:vV o with
 |true=>
  cases o<;>simp [vV] at hc
  obtain ⟨c',h1,h2,_⟩:=h.cells b _ _ _ ho
  simp [World.cell?,World.frozen?,ho,h1,h2]
 |false=>
  obtain ⟨o',h1,h2,_⟩:=h.gz b o ho hc
  cases o<;>simp [vV] at hc<;>cases o'<;>simp [vV] at h2<;>simp [World.cell?,World.frozen?,ho,h1]
variable {wm:J'}
theorem oA.trans {w1 w2:J'} (hl:oA wl wl wm) (hs:wl.heap.size=w.heap.size) (h:oA wl w w1) (h':oA wm w1 w2):oA wl w w2:=by
 refine ⟨D_ h.size h'.size,fun b c e f hb=> ?_,fun b o hb ho=>h'.chan b o (h.chan b o hb ho) ho,fun b o hb ho=> ?_,fun b o hb ho hm=>(h'.still b o ((hl.still b o hb ho hm).trans hb) ho hm).trans (h.still b o hb ho hm),h'.os.trans h.os,h'.out.trans h.out,h'.tape.trans h.tape⟩
 ·obtain ⟨c1,h1,h2,h3⟩:=h.cells b c e f hb
  obtain ⟨c2,h4,h5,h6⟩:=h'.cells b c1 e f h1
  have hlt:b<wl.heap.size:=hs▸(cI hb)
  refine ⟨c2,h4,h5.trans h2,fun k hk=>(h6 k ?_).trans (h3 k hk)⟩
  obtain ⟨e1,e2⟩:=hl.there (k:=k) hlt
  rcases hk with hk|hk
  ·exact .inl (e1.2 hk)
  ·exact .inr (e2.trans hk)
 ·obtain ⟨o1,h1,h2,h3⟩:=h.gz b o hb ho
  obtain ⟨o2,h4,h5,h6⟩:=h'.gz b o1 h1 h2
  exact ⟨o2,h4,h5,fun h=>h6.1 (h3.1 h),fun h=>h6.2 (h3.2 h)⟩
def vR (wl:J') (top:Nat) (e:Event):Prop:=
 match e.loc with
 | .cell a=>a.block<top/\e.sync=false/\(wl.heap.size<=a.block\/((∃v,wl.cell? a=some v)/\(e.write=true->wl.frozen? a=false)))
 | .obj r=>r<top/\(∀o:Obj,wl.heap[r]?=some o->vV o=false)/\(e.sync=true->e.write=false)
 | .mark .noRoom=>True
 |_=>False
def _root_.Go.Result.wd {α:Type}:Result α->J'
 | .ok _ w=>w
 | .halt _ w=>w
def _root_.Go.Result.D6 {α:Type} (w':J'):Result α->Result α
 | .ok a _=>.ok a w'
 | .halt h _=>.halt h w'
def rE {α:Type}:Result α->Prop
 | .ok _ _=>True
 | .halt (.panic _) _=>True
 |_=>False
structure Same {α:Type} (P:U') (s:Sem α) (wl w:J') (es:Array Event) (w':J'):Prop where
 run:s.runT P w es=((s.runT P wl es).1.D6 w',(s.runT P wl es).2)
 weak:bI (s.runT P wl es).1.wd w'
 mono:wl.drawn<=(s.runT P wl es).1.wd.drawn
 drawn:w'.drawn+wl.drawn=w.drawn+(s.runT P wl es).1.wd.drawn
 upd:oA wl w w'
 gR:oA wl wl (s.runT P wl es).1.wd
 evs:∃l:List Event,(s.runT P wl es).2=es++l.toArray/\∀e∈l,vR wl (s.runT P wl es).1.wd.heap.size e
 heap:wl.heap=w.heap->(s.runT P wl es).1.wd.heap=w'.heap
def U8 {α:Type} (P:U') (C:J'->Prop) (s:Sem α):Prop:=
 ∀wl w es,C wl->bI wl w->LM (s.runT P wl es).1/\(rE (s.runT P wl es).1->(∀i,wl.drawn+i<(s.runT P wl es).1.wd.drawn->w.tape (w.drawn+i)=wl.tape (wl.drawn+i))->∃w',Same P s wl w es w')
def ag {α:Type} (P:U') (s:Sem α):Prop:=U8 P (fun _=>True) s
variable {α:Type} {P:U'} {C:J'->Prop}
theorem ag.c {s:Sem α} (h:ag P s):U8 P C s:=fun wl w es _=>h wl w es trivial
def LI (C:J'->Prop):Prop:=∀wl wm,C wl->oA wl wl wm->C wm
theorem vR.mono {t t':Nat} {e:Event} (h:vR wl t e) (ht:t<=t'):vR wl t' e:=by
 unfold vR at *
 split<;>simp_all
 ·omega
 ·omega
theorem vR.back {t:Nat} {e:Event} (h:vR wm t e) (hl:oA wl wl wm):vR wl t e:=by
 unfold vR at *
 split<;>simp_all
 ·rename_i a _
  by_cases hb:wl.heap.size<=a.block
  ·exact .inl hb
  ·refine .inr ?_
   have A8:a.block<wl.heap.size:=by omega
   rcases h.2.2 with h3|⟨⟨v,hv⟩,h4⟩
   ·have:=hl.size;omega
   ·have hsp:a.spot=none:=by
     cases hs:a.spot with
     |none=>rfl
     |some x=>
      unfold World.cell? at hv
      split at hv<;>simp [hs] at hv
    obtain ⟨bb,oo,ss⟩:=a
    simp only at hsp;subst hsp
    obtain ⟨e1,e2⟩:=hl.there (b:=bb) (k:=oo) A8
    refine ⟨?_,fun hw=>e2▸h4 hw⟩
    cases hcv:wl.cell? ⟨bb,oo,none⟩ with
    |some v'=>exact ⟨v',rfl⟩
    |none=>rw [e1.2 hcv] at hv;cases hv
 ·rename_i r _
  intro o ho
  cases hc:vV o with
  |false=>rfl
  |true=>
   cases o<;>simp [vV] at hc
   obtain ⟨c',h1,_⟩:=hl.cells _ _ _ _ ho
   have:=h.2.1 _ h1
   simp [vV] at this
theorem bo (a:α):ag P (Sem.pure a):=by
 intro wl w es _ hw
 refine ⟨trivial,fun _ _=> ?_⟩
 exact ⟨w,rfl,hw,C_ _,by simp [Sem.runT,Result.wd],oA.refl _ _,oA.refl _ _,⟨[],by simp [Sem.runT],by simp⟩,fun h=>h⟩
theorem bd (h:Halt) (hh:pL h):ag P (Sem.halt h:Sem α):=by
 intro wl w es _ hw
 refine ⟨hh,fun _ _=> ?_⟩
 exact ⟨w,rfl,hw,C_ _,by simp [Sem.runT,Result.wd],oA.refl _ _,oA.refl _ _,⟨[],by simp [Sem.runT],by simp⟩,fun h=>h⟩
variable {β:Type} {x:Sem α} {f:α->Sem β} {es:Array Event}
theorem zw (h:rE ((x.bind f).runT P w es).1):rE (x.runT P w es).1:=by
 rw [Sem.runT_bind'] at h
 cases hx:x.runT P w es with
 |mk r es'=>
  rw [hx] at h
  cases r with
  |ok a w'=>trivial
  |halt hh w'=>cases hh<;>exact h
theorem mK (hC:LI C) (hx:U8 P C x) (hf:∀a,U8 P C (f a)):U8 P C (x.bind f):=by
 intro wl w es rq hw
 refine ⟨?_,fun fg C6=> ?_⟩
 ·have hb:=Sem.runT_bind' P x f wl es
  cases Dw:x.runT P wl es with
  |mk r WX=>
   rw [Dw] at hb
   cases r with
   |halt h GK=>rw [hb];have:=(hx wl wl es rq hw.self).1;rw [Dw] at this;exact this
   |ok a GK=>
    simp only at hb
    rw [hb]
    obtain ⟨_,Kg⟩:=(hx wl wl es rq hw.self).2 (by rw [Dw];trivial) (fun _ _=>rfl)
    have J5:=Kg.weak
    have J6:=Kg.gR
    rw [Dw] at J5 J6
    exact (hf a GK GK WX (hC _ _ rq J6) J5.self).1
 have U0:=zw fg
 have hb:=Sem.runT_bind' P x f wl es
 have CV:=Sem.runT_bind' P x f w es
 have key:∀v,bI wl v->(∀i,wl.drawn+i<(x.runT P wl es).1.wd.drawn->v.tape (v.drawn+i)=wl.tape (wl.drawn+i))->∃w',Same P x wl v es w':=fun v h1 h2=>(hx wl v es rq h1).2 U0 h2
 cases Dw:x.runT P wl es with
 |mk r WX=>
  rw [Dw] at hb U0 key
  cases r with
  |halt h GK=>
   simp only at hb
   rw [hb] at C6
   obtain ⟨w',hs⟩:=key w hw C6
   have hrun:=hs.run
   rw [Dw] at hrun
   rw [hrun] at CV
   simp only [Result.D6] at CV
   refine ⟨w', ?_, ?_, ?_, ?_,hs.upd, ?_, ?_, ?_⟩
   ·rw [hb,CV];rfl
   ·rw [hb];have:=hs.weak;rw [Dw] at this;exact this
   ·rw [hb];have:=hs.mono;rw [Dw] at this;exact this
   ·rw [hb];have:=hs.drawn;rw [Dw] at this;exact this
   ·rw [hb];have:=hs.gR;rw [Dw] at this;exact this
   ·rw [hb];have:=hs.evs;rw [Dw] at this;exact this
   ·rw [hb];have:=hs.heap;rw [Dw] at this;exact this
  |ok a GK=>
   simp only at hb
   rw [hb] at fg C6
   obtain ⟨_,Kg⟩:=key wl hw.self (fun _ _=>rfl)
   have J5:=Kg.weak
   have J6:=Kg.gR
   rw [Dw] at J5 J6
   have BK:C GK:=hC _ _ rq J6
   obtain ⟨_,Sv⟩:=(hf a GK GK WX BK J5.self).2 fg (fun _ _=>rfl)
   have hm:=Sv.mono
   obtain ⟨w1,hs⟩:=key w hw (fun i hi=>C6 i (E_ hi hm))
   have hrun:=hs.run
   have hd:=hs.drawn
   have Ze:=hs.mono
   have vC:=hs.weak
   have Ir:=hs.gR
   have uO:=hs.evs
   rw [Dw] at hrun hd Ze vC Ir uO
   simp only [Result.wd,Result.D6] at hrun hd Ze vC Ir uO
   obtain ⟨w',xv⟩:=(hf a GK w1 WX BK vC).2 fg (fun i hi=>by
    have e1:GK.drawn=wl.drawn+(GK.drawn - wl.drawn):=by omega
    have e2:w1.drawn+i=w.drawn+((GK.drawn - wl.drawn)+i):=by omega
    have:=C6 ((GK.drawn - wl.drawn)+i) (by omega)
    rw [hs.upd.tape,e2,this,Ir.tape]
    congr 1;omega)
   rw [hrun] at CV
   simp only at CV
   have hhp:=hs.heap
   rw [Dw] at hhp
   refine ⟨w', ?_, ?_, ?_, ?_, ?_, ?_, ?_,fun hh=>by rw [hb];exact xv.heap (hhp hh)⟩
   ·rw [hb,CV];exact xv.run
   ·rw [hb];exact xv.weak
   ·rw [hb];exact D_ Ze xv.mono
   ·rw [hb];have:=xv.drawn;omega
   ·exact oA.trans Ir hw.size hs.upd xv.upd
   ·rw [hb];exact oA.trans Ir rfl Ir xv.gR
   ·rw [hb]
    obtain ⟨l1,h1,h2⟩:=uO
    obtain ⟨l2,h3,h4⟩:=xv.evs
    refine ⟨l1++l2,by rw [h3,h1];simp,fun e he=> ?_⟩
    rcases List.mem_append.1 he with he|he
    ·exact (h2 e he).mono xv.gR.size
    ·exact (h4 e he).back Ir
theorem sd (hx:ag P x) (hf:∀a,ag P (f a)):ag P (x.bind f):=mK (fun _ _ _ _=>trivial) hx hf
variable {a:z_}
theorem bI.cell (h:bI wl w) {v:M'} (hc:wl.cell? a=some v):w.cell? a=some v:=by
 unfold World.cell? at *
 split at hc
 ·rename_i c e f hb
  split at hc
  ·cases hc
  rename_i hs
  obtain ⟨o',h1,h2⟩:=h.get hb
  cases h2 with
  |blind hb=>have:=hb.cells.1;simp [vV] at this
  |same=>rw [h1];simp only [hs,if_false];exact hc
  |cut g1 g2 g3=>
   rw [h1];simp only [hs,if_false]
   rw [g2 _ (cI hc)];exact hc
 ·cases hc
theorem Kd {v:M'} (hc:w.cell? a=some v):a=⟨a.block,a.off,none⟩:=by
 unfold World.cell? at hc
 split at hc
 ·split at hc
  ·cases hc
  ·rename_i hs
   obtain ⟨b,o,s⟩:=a
   cases s with
   |none=>rfl
   |some x=>simp at hs
 ·cases hc
theorem dF {v:M'} (hc:w.cell? a=some v):∃c e f,w.heap[a.block]?=some (.cells c e f)/\c[a.off]?=some v:=by
 unfold World.cell? at hc
 split at hc
 ·rename_i c e f hb
  split at hc
  ·cases hc
  ·exact ⟨c,e,f,hb,hc⟩
 ·cases hc
theorem bI.frozen (h:bI wl w) {v:M'} (hc:wl.cell? a=some v) (hf:wl.frozen? a=false):w.frozen? a=false:=by
 obtain ⟨c,e,f,hb,hv⟩:=dF hc
 obtain ⟨o',h1,h2⟩:=h.get hb
 unfold World.frozen? at *
 rw [hb] at hf
 rw [h1]
 cases h2 with
 |blind hb=>have:=hb.cells.1;simp [vV] at this
 |same=>exact hf
 |cut g1 g2 g3=>
  rename_i c' f'
  cases kj:gd f' a.off with
  |false=>exact kj
  |true=>have:=g3 _ kj;unfold gd at this;exact absurd hf (by simp only at this ⊢;rw [this];decide)
theorem Db {b:Bool} (hv:∀o,w.heap[a.block]?=some o->MR o=false):∃h,w.farLoad P a b=.error h/\pL h/\∀α (w':J'),¬rE (Result.halt h w':Result α):=by
 unfold World.farLoad
 split
 ·rename_i x u hb
  have hs:x.spot.isSome=true:=by
   have:=hv _ hb
   simp only [MR] at this
   cases hx:x.spot with
   |none=>rw [hx] at this;cases this
   |some y=>rfl
  have:w.viewLoad P x u a b=.error "memory seen as another type: a place without cells" :=by
   unfold World.viewLoad World.seen
   simp only [hs,Bool.or_true,if_true]
   rfl
  rw [this]
  exact ⟨_,rfl,trivial,fun _ _ h=>h⟩
 ·refine ⟨_,rfl, ?_,fun α w'=> ?_⟩
  ·unfold World.noCell
   split
   ·rename_i hb;exact absurd (hv _ hb) (by simp [MR])
   ·trivial
   ·trivial
  ·unfold World.noCell
   split<;>exact fun h=>h
theorem zy {v:M'} {b:Bool} (hv:∀o,w.heap[a.block]?=some o->MR o=false):∃h,w.farStore P a v b=.error h/\pL h/\∀α (w':J'),¬rE (Result.halt h w':Result α):=by
 unfold World.farStore
 split
 ·rename_i x u hb
  have hs:x.spot.isSome=true:=by
   have:=hv _ hb
   simp only [MR] at this
   cases hx:x.spot with
   |none=>rw [hx] at this;cases this
   |some y=>rfl
  have:∃why,w.viewStore P x u a v b=.error why:=by
   unfold World.viewStore World.seen
   by_cases ht:tight P P.depth u=true
   ·simp only [ht,hs,Bool.or_true,if_true,Bool.not_true,qp,if_false]
    exact ⟨_,rfl⟩
   ·simp only [Bool.not_eq_true] at ht
    simp only [ht,Bool.not_false,if_true]
    exact ⟨_,rfl⟩
  obtain ⟨why,this⟩:=this
  rw [this]
  exact ⟨_,rfl,trivial,fun _ _ h=>h⟩
 ·refine ⟨_,rfl, ?_,fun α w'=> ?_⟩
  ·unfold World.noCell
   split
   ·rename_i hb;exact absurd (hv _ hb) (by simp [MR])
   ·trivial
   ·trivial
  ·unfold World.noCell
   split<;>exact fun h=>h
theorem nL (a:z_):ag P (load a):=by
 intro wl w es _ hw
 refine ⟨?_,fun fg C6=> ?_⟩
 ·show LM ((Sem.load .plain a Sem.pure).runT P wl es).1
  cases hc:wl.cell? a with
  |some v=>simp only [Sem.runT,hc];trivial
  |none=>
   obtain ⟨h,h1,h2,_⟩:=Db (P:=P) (a:=a) (b:=Mode.plain==.atomic) (fun o ho=>hw.ic a.block o ho)
   simp only [Sem.runT,hc,h1];exact h2
 show ∃w',Same P (Sem.load .plain a Sem.pure) wl w es w'
 have iO:rE ((Sem.load .plain a Sem.pure).runT P wl es).1:=fg
 cases hc:wl.cell? a with
 |none=>
  obtain ⟨h,h1,_,h2⟩:=Db (P:=P) (a:=a) (b:=Mode.plain==.atomic) (fun o ho=>hw.ic a.block o ho)
  simp only [Sem.runT,hc,h1] at iO
  exact absurd iO (h2 _ _)
 |some v=>
  have hc':=hw.cell hc
  have e1:(Sem.load .plain a Sem.pure).runT P wl es=(.ok v wl,es.push ⟨.cell a,false,false⟩):=by simp only [Sem.runT,hc];rfl
  have e2:(Sem.load .plain a Sem.pure).runT P w es=(.ok v w,es.push ⟨.cell a,false,false⟩):=by simp only [Sem.runT,hc'];rfl
  refine ⟨w,by rw [e1,e2];rfl,by rw [e1];exact hw,by rw [e1];exact C_ _,by rw [e1];simp [Result.wd],oA.refl _ _,by rw [e1];exact oA.refl _ _,⟨[⟨.cell a,false,false⟩],by rw [e1];simp, ?_⟩,by rw [e1];exact fun h=>h⟩
  intro e he
  simp only [List.mem_singleton] at he
  subst he
  obtain ⟨c,ee,f,hb,_⟩:=dF hc
  rw [e1]
  exact ⟨(cI hb),rfl,.inr ⟨⟨v,hc⟩,fun h=>by cases h⟩⟩
theorem heap_setCell (w:J') (a:z_) (v:M') (b:Nat):(w.setCell a v).heap[b]?=if a.block=b then (w.heap[b]?).map (fun| .cells c elem frozen=>.cells (if a.spot.isSome then c else c.setIfInBounds a.off v) elem frozen|o=>o) else w.heap[b]?:=by
 simp only [World.setCell,Array.getElem?_modify]
 split<;>rfl
theorem qC (a:z_) (v:M'):ag P (store a v):=by
 intro wl w es _ hw
 refine ⟨?_,fun fg C6=> ?_⟩
 ·show LM ((Sem.store .plain a v (Sem.pure ())).runT P wl es).1
  by_cases hv:(∃x,v=.agg x)\/(∃x,v=.tuple x)
  ·rcases hv with ⟨x,rfl⟩|⟨x,rfl⟩<;>trivial
  ·have er:∀u:J',(Sem.store .plain a v (Sem.pure ())).runT P u es=match u.cell? a with
    |some _=>if u.frozen? a then (.halt (.unsupported (.unsafePointer "a write to bytes that a string shares")) u,es) else (.ok () (u.setCell a v),es.push ⟨.cell a,true,false⟩)
    |none=>match u.farStore P a v (Mode.plain==.atomic) with
     | .ok (w,touched)=>(.ok () w,es++touched.toArray.map (⟨.cell ·,true,Mode.plain==.atomic⟩))
     | .error h=>(.halt h u,es):=by
    intro u
    cases v<;>first|exact absurd (.inl ⟨_,rfl⟩) hv|exact absurd (.inr ⟨_,rfl⟩) hv|rfl
   rw [er]
   cases hc:wl.cell? a with
   |some v0=>simp only [];split<;>trivial
   |none=>
    obtain ⟨h,h1,h2,_⟩:=zy (P:=P) (a:=a) (v:=v) (b:=Mode.plain==.atomic) (fun o ho=>hw.ic a.block o ho)
    simp only [h1];exact h2
 show ∃w',Same P (Sem.store .plain a v (Sem.pure ())) wl w es w'
 have iO:rE ((Sem.store .plain a v (Sem.pure ())).runT P wl es).1:=fg
 have Km:(∀x,v≠.agg x)/\(∀x,v≠.tuple x):=by
  constructor<;>rintro x rfl<;>exact iO.elim
 have er:∀u:J',(Sem.store .plain a v (Sem.pure ())).runT P u es=match u.cell? a with
  |some _=>if u.frozen? a then (.halt (.unsupported (.unsafePointer "a write to bytes that a string shares")) u,es) else (.ok () (u.setCell a v),es.push ⟨.cell a,true,false⟩)
  |none=>match u.farStore P a v (Mode.plain==.atomic) with
   | .ok (w,touched)=>(.ok () w,es++touched.toArray.map (⟨.cell ·,true,Mode.plain==.atomic⟩))
   | .error h=>(.halt h u,es):=by
  intro u
  cases v<;>first|exact absurd rfl (Km.1 _)|exact absurd rfl (Km.2 _)|rfl
 cases hc:wl.cell? a with
 |none=>
  obtain ⟨h,h1,_,h2⟩:=zy (P:=P) (a:=a) (v:=v) (b:=Mode.plain==.atomic) (fun o ho=>hw.ic a.block o ho)
  rw [er,hc] at iO
  simp only [h1] at iO
  exact absurd iO (h2 _ _)
 |some v0=>
  cases hf:wl.frozen? a with
  |true=>rw [er,hc] at iO;simp only [hf,if_true] at iO;exact iO.elim
  |false=>
   have hc':=hw.cell hc
   have ZA:=hw.frozen hc hf
   have e1:(Sem.store .plain a v (Sem.pure ())).runT P wl es=(.ok () (wl.setCell a v),es.push ⟨.cell a,true,false⟩):=by rw [er,hc];simp only [hf,qp,if_false]
   have e2:(Sem.store .plain a v (Sem.pure ())).runT P w es=(.ok () (w.setCell a v),es.push ⟨.cell a,true,false⟩):=by rw [er,hc'];simp only [ZA,qp,if_false]
   obtain ⟨c,ee,f,hb,BG⟩:=dF hc
   have hsp:=Kd hc
   have QC:a.spot.isSome=false:=by rw [hsp];rfl
   have upd:∀u:J',bI wl u->oA wl u (u.setCell a v):=by
    intro u hu
    refine ⟨by simp [World.setCell],fun b c1 e1 f1 eo=> ?_,fun b o eo ho=> ?_,fun b o eo ho=> ?_,fun b o eo ho _=> ?_,rfl,rfl,rfl⟩
    ·rw [heap_setCell]
     by_cases KN:a.block=b
     ·subst KN
      refine ⟨c1.setIfInBounds a.off v,by simp [eo,QC],by simp,fun k hk=> ?_⟩
      rw [Y_]
      by_cases hka:a.off=k
      ·subst hka
       rw [<-hsp] at hk
       rcases hk with hk|hk
       ·rw [hc] at hk;cases hk
       ·rw [hf] at hk;cases hk
      ·simp [hka]
     ·exact ⟨c1,by simp [KN,eo],rfl,fun _ _=>rfl⟩
    ·rw [heap_setCell]
     split
     ·cases o<;>first|(cases ho;done)|(rw [eo];rfl)
     ·exact eo
    ·rw [heap_setCell]
     split
     ·refine ⟨o, ?_,ho,id,id⟩;cases o<;>first|(cases ho;done)|(rw [eo];rfl)
     ·exact ⟨o,eo,ho,id,id⟩
    ·rw [heap_setCell]
     have hne:a.block≠b:=by rintro rfl;rw [hb] at eo;cases eo;cases ho
     rw [if_neg hne]
   refine ⟨w.setCell a v,by rw [e1,e2];rfl, ?_,by rw [e1];exact C_ _,by rw [e1];simp [Result.wd,World.setCell],upd w hw,by rw [e1];exact upd wl hw.self,⟨[⟨.cell a,true,false⟩],by rw [e1];simp, ?_⟩,fun h=>by rw [e1];simp only [Result.wd,World.setCell,h]⟩
   ·rw [e1]
    refine ⟨by simp [World.setCell,hw.size,Result.wd],fun b o o' h1 h2=> ?_,hw.os,hw.out,fun b o h=> ?_⟩
    ·simp only [Result.wd,heap_setCell] at h1 h2
     by_cases KN:a.block=b
     ·simp only [KN,if_true] at h1 h2
      obtain ⟨p,hp,rfl⟩:=Option.map_eq_some_iff.1 h1
      obtain ⟨q,hq,rfl⟩:=Option.map_eq_some_iff.1 h2
      cases hw.obj b p q hp hq with
      |blind hb=>cases hb<;>first|exact .blind (.view _ _ _)|exact .blind (.late _ _)|exact .blind (.map _ _)|exact .blind (.chan _ _ _ _ _ _)
      |same=>exact .same _
      |cut g1 g2 g3=>
       refine .cut (by simp only [QC,qp,if_false,X_];exact g1) (fun k hk=> ?_) g3
       simp only [QC,qp,if_false,X_] at hk ⊢
       rw [Y_,Y_]
       by_cases e:a.off=k
       ·subst e;simp [hk,E_ hk g1]
       ·simp [e,g2 k hk]
     ·simp only [KN,if_false] at h1 h2
      exact hw.obj b o o' h1 h2
    ·simp only [Result.wd,heap_setCell] at h
     split at h
     ·obtain ⟨p,hp,hq⟩:=Option.map_eq_some_iff.1 h
      have Ui:=hw.ic _ _ hp
      subst hq
      cases p<;>first|rfl|exact Ui
     ·exact hw.ic _ _ h
   ·intro e he
    simp only [List.mem_singleton] at he
    subst he
    rw [e1]
    exact ⟨by simp only [Result.wd,World.setCell,Array.size_modify];exact (cI hb),rfl,.inr ⟨⟨v0,hc⟩,fun _=>hf⟩⟩
theorem eZ (o:Obj) (hv:MR o=false):ag P (newObj o):=by
 intro wl w es _ hw
 refine ⟨trivial,fun fg C6=> ?_⟩
 show ∃w',Same P (Sem.new o Sem.pure) wl w es w'
 have e1:(Sem.new o Sem.pure).runT P wl es=(.ok wl.heap.size {wl with heap:=wl.heap.push o},es):=rfl
 have e2:(Sem.new o Sem.pure).runT P w es=(.ok w.heap.size {w with heap:=w.heap.push o},es):=rfl
 have upd:∀u:J',wl.heap.size=u.heap.size->oA wl u {u with heap:=u.heap.push o}:=fun u hsu=>
  ⟨by simp,fun b c e f hb=>⟨c,by rw [Array.getElem?_push_lt (cI hb)];rw [Array.getElem?_eq_some_iff] at hb;obtain ⟨h1,h2⟩:=hb;rw [h2],rfl,fun _ _=>rfl⟩,
   fun b x hb _=>by rw [Array.getElem?_push_lt (cI hb)];obtain ⟨h1,h2⟩:=Array.getElem?_eq_some_iff.1 hb;rw [h2],
   fun b x hb hx=>⟨x,by rw [Array.getElem?_push_lt (cI hb)];obtain ⟨h1,h2⟩:=Array.getElem?_eq_some_iff.1 hb;rw [h2],hx,id,id⟩,
   fun b x hb _ _=>by have hlt:b<u.heap.size:=hsu▸(cI hb);show (u.heap.push o)[b]?=_;rw [Array.getElem?_push,if_neg (by omega)],rfl,rfl,rfl⟩
 refine ⟨{w with heap:=w.heap.push o},by rw [e1,e2,hw.size];rfl, ?_,by rw [e1];exact C_ _,by rw [e1];simp [Result.wd],upd w hw.size,by rw [e1];exact upd wl rfl,⟨[],by rw [e1];simp,by simp⟩,fun h=>by rw [e1];simp only [Result.wd,h]⟩
 rw [e1]
 refine ⟨by simp [Result.wd,hw.size],fun b p q h1 h2=> ?_,hw.os,hw.out,fun b x h=> ?_⟩
 ·simp only [Result.wd,Array.getElem?_push] at h1 h2
  rw [hw.size] at h1
  split at h1
  ·rename_i hb;rw [if_pos hb] at h2;cases h1;cases h2;exact .same _
  ·rename_i hb;rw [if_neg hb] at h2;exact hw.obj b p q h1 h2
 ·simp only [Result.wd,Array.getElem?_push] at h
  split at h
  ·cases h;exact hv
  ·exact hw.ic _ _ h
theorem lg (q:Question):ag P (choose q):=by
 intro wl w es _ hw
 refine ⟨?_,fun fg C6=> ?_⟩
 ·show LM ((Sem.choose q Sem.pure).runT P wl es).1
  by_cases hq:q.forced=true
  ·simp [-Sem.runT_eq,Sem.runT,hq,LM]
  ·simp [-Sem.runT_eq,Sem.runT,hq,LM]
 show ∃w',Same P (Sem.choose q Sem.pure) wl w es w'
 have Ke:∀i,wl.drawn+i<((Sem.choose q Sem.pure).runT P wl es).1.wd.drawn->w.tape (w.drawn+i)=wl.tape (wl.drawn+i):=C6
 by_cases hq:q.forced=true
 ·have e:∀u:J',(Sem.choose q Sem.pure).runT P u es=(.ok 0 u,es):=fun u=>by simp [Sem.runT,hq]
  exact ⟨w,by rw [e,e];rfl,by rw [e];exact hw,by rw [e];exact C_ _,by rw [e];simp [Result.wd],oA.refl _ _,by rw [e];exact oA.refl _ _,⟨[],by rw [e];simp,by simp⟩,fun h=>by rw [e];exact h⟩
 ·have e:∀u:J',(Sem.choose q Sem.pure).runT P u es=(.ok (q.cut (u.tape u.drawn q)) {u with drawn:=u.drawn+1},es):=fun u=>by simp [Sem.runT,hq]
  rw [e] at Ke
  have ht:=Ke 0 (by simp [Result.wd])
  simp only [Nat.add_zero] at ht
  have upd:∀u:J',oA wl u {u with drawn:=u.drawn+1}:=fun u=>⟨C_ _,fun _ c _ _ h=>⟨c,h,rfl,fun _ _=>rfl⟩,fun _ _ h _=>h,fun _ o h ho=>⟨o,h,ho,id,id⟩,fun _ _ _ _ _=>rfl,rfl,rfl,rfl⟩
  exact ⟨{w with drawn:=w.drawn+1},by rw [e,e,ht];rfl,by rw [e];exact ⟨hw.size,hw.obj,hw.os,hw.out,hw.ic⟩,by rw [e];simp [Result.wd],by rw [e];simp [Result.wd];omega,upd w,by rw [e];exact upd wl,⟨[],by rw [e];simp,by simp⟩,fun h=>by rw [e];exact h⟩
theorem vd (k:U'->Sem α) (h:ag P (k P)):ag P (Sem.program k):=fun wl w es h0 h1=>⟨(h wl w es h0 h1).1,fun h2 h3=>let ⟨w',hs⟩:=(h wl w es h0 h1).2 h2 h3;⟨w',hs.run,hs.weak,hs.mono,hs.drawn,hs.upd,hs.gR,hs.evs,hs.heap⟩⟩
theorem oW:ag P (mark .noRoom):=by
 intro wl w es _ hw
 refine ⟨trivial,fun fg C6=> ?_⟩
 show ∃w',Same P (Sem.mark .noRoom (Sem.pure ())) wl w es w'
 have e:∀u:J',(Sem.mark .noRoom (Sem.pure ())).runT P u es=(.ok () u,es.push ⟨.mark .noRoom,false,true⟩):=fun u=>rfl
 exact ⟨w,by rw [e,e];rfl,by rw [e];exact hw,by rw [e];exact C_ _,by rw [e];simp [Result.wd],oA.refl _ _,by rw [e];exact oA.refl _ _,⟨[⟨.mark .noRoom,false,true⟩],by rw [e];simp,by simp [vR]⟩,fun h=>by rw [e];exact h⟩
def xZ (r:Nat) (w:J'):Prop:=∀o:Obj,w.heap[r]?=some o->isMap o=true
theorem jN (r:Nat):LI (fun w=>r<w.heap.size/\xZ r w):=by
 rintro wl wm ⟨hl,h⟩ hu
 refine ⟨E_ hl hu.size,fun o ho=> ?_⟩
 obtain ⟨o0,h0⟩:∃o,wl.heap[r]?=some o:=⟨_,H_ hl⟩
 have hm:=h _ h0
 obtain ⟨o',h1,_,_,h3⟩:=hu.gz _ _ h0 (uD hm).1
 rw [h1] at ho;cases ho
 exact h3 hm
theorem jU (r:Nat) (o:Obj) (h1:vV o=false) (h2:o.isChan=false) (h3:MR o=false) (h4:isMap o=true):U8 P (fun w=>r<w.heap.size/\xZ r w) (setObj r o):=by
 rintro wl w es ⟨hlt,hno⟩ hw
 refine ⟨?_,fun fg C6=> ?_⟩
 ·show LM ((Sem.setObj r o (Sem.pure ())).runT P wl es).1
  cases hr:wl.heap[r]? with
  |none=>simp only [Sem.runT,hr];trivial
  |some p=>cases p<;>simp only [Sem.runT,hr]<;>trivial
 show ∃w',Same P (Sem.setObj r o (Sem.pure ())) wl w es w'
 have iO:rE ((Sem.setObj r o (Sem.pure ())).runT P wl es).1:=fg
 cases hr:wl.heap[r]? with
 |none=>simp only [Sem.runT,hr] at iO;exact iO.elim
 |some p=>
  cases hc:vV p with
  |true=>cases p<;>simp [vV] at hc;simp only [Sem.runT,hr] at iO;exact iO.elim
  |false=>
   obtain ⟨p',g1,g2⟩:=hw.get hr
   have hpm:=hno _ hr
   have QI:p'=p:=by cases g2 with
    |same=>rfl
    |cut=>simp [vV] at hc
    |blind hb=>rw [hb.TH] at hpm;cases hpm
   subst QI
   have hc':=hc
   have Wv:=(uD hpm).2
   have e:∀(u:J') (p':Obj),vV p'=false->u.heap[r]?=some p'->(Sem.setObj r o (Sem.pure ())).runT P u es=(.ok () {u with heap:=u.heap.setIfInBounds r o},es.push ⟨.obj r,true,o.isChan⟩):=by
    intro u p' hc hu
    cases p'<;>first|(simp [vV] at hc;done)|(simp only [Sem.runT,hu])
   have upd:∀(u:J') (q:Obj),vV q=false->q.isChan=false->u.heap[r]?=some q->oA wl u {u with heap:=u.heap.setIfInBounds r o}:=by
    intro u _ hc Wv hu
    refine ⟨by simp,fun b c ee f hb=>⟨c, ?_,rfl,fun _ _=>rfl⟩,fun b q hb hq=> ?_,fun b q hb hq=> ?_,fun b q hb hq hqm=> ?_,rfl,rfl,rfl⟩
    ·have hne:r≠b:=by rintro rfl;rw [hu] at hb;cases hb;simp [vV] at hc
     simpa [I_ hne] using hb
    ·have hne:r≠b:=by rintro rfl;rw [hu] at hb;cases hb;rw [Wv] at hq;cases hq
     simpa [I_ hne] using hb
    ·by_cases po:r=b
     ·subst po
      exact ⟨o,by simp [(cI hu)],h1,fun _=>h2,fun _=>h4⟩
     ·exact ⟨q,by simpa [I_ po] using hb,hq,id,id⟩
    ·have hne:r≠b:=by rintro rfl;rw [hr] at hb;cases hb;rw [hpm] at hqm;cases hqm
     simp [I_ hne]
   have hl:=e wl _ hc hr
   refine ⟨{w with heap:=w.heap.setIfInBounds r o},by rw [hl,e w _ hc' g1];rfl, ?_,by rw [hl];exact C_ _,by rw [hl];simp [Result.wd],upd w _ hc' Wv g1,by rw [hl];exact upd wl _ hc Wv hr,⟨[⟨.obj r,true,o.isChan⟩],by rw [hl];simp, ?_⟩,fun h=>by rw [hl];simp only [Result.wd,h]⟩
   ·rw [hl]
    refine ⟨by simp [Result.wd,hw.size],fun b q q' k1 k2=> ?_,hw.os,hw.out,fun b x k=> ?_⟩
    ·simp only [Result.wd,Y_] at k1 k2
     by_cases po:r=b
     ·subst po
      simp only [if_true] at k1 k2
      rw [if_pos hlt] at k1;rw [if_pos (hw.size▸hlt)] at k2
      cases k1;cases k2;exact .same _
     ·simp only [po,if_false] at k1 k2
      exact hw.obj b q q' k1 k2
    ·simp only [Result.wd,Y_] at k
     split at k
     ·first
       |(cases k;exact h3)
       |(split at k
         ·cases k;exact h3
         ·cases k)
     ·exact hw.ic _ _ k
   ·intro ev he
    simp only [List.mem_singleton] at he
    subst he
    rw [hl]
    exact ⟨by simp only [Result.wd,X_];exact hlt,fun o' ho=>by rw [hr] at ho;cases ho;exact hc,fun h=>by rw [h2] at h;cases h⟩
theorem cJ (r:Nat) {f:Obj->Sem α} (h:∀o,vV o=false->U8 P (fun w=>w.heap[r]?=some o) (f o)) (lW:∀o o',na o o'->f o'=f o\/∀w es,¬rE ((f o).runT P w es).1):ag P ((getObj r).bind f):=by
 intro wl w es _ hw
 refine ⟨?_,fun fg C6=> ?_⟩
 ·rw [Sem.runT_bind']
  rw [show getObj r=Sem.getObj r Sem.pure from rfl]
  cases hr:wl.heap[r]? with
  |none=>simp only [Sem.runT,hr];trivial
  |some o=>
   cases hc:vV o with
   |true=>cases o<;>simp [vV] at hc;simp only [Sem.runT,hr];trivial
   |false=>
    have e:(Sem.getObj r Sem.pure).runT P wl es=(.ok o wl,es.push ⟨.obj r,false,o.isChan⟩):=by
     cases o<;>first|(simp [vV] at hc;done)|(simp only [Sem.runT,hr])
    rw [e]
    exact (h o hc wl wl _ hr hw.self).1
 have U0:=zw fg
 cases hr:wl.heap[r]? with
 |none=>exact absurd U0 (by show ¬rE ((Sem.getObj r Sem.pure).runT P wl es).1;simp only [Sem.runT,hr];exact fun h=>h)
 |some o=>
  cases hc:vV o with
  |true=>cases o<;>simp [vV] at hc;exact absurd U0 (by show ¬rE ((Sem.getObj r Sem.pure).runT P wl es).1;simp only [Sem.runT,hr];exact fun h=>h)
  |false=>
   have e:∀u:J',u.heap[r]?=some o->((getObj r).bind f).runT P u es=(f o).runT P u (es.push ⟨.obj r,false,o.isChan⟩):=by
    intro u hu
    rw [Sem.runT_bind']
    have:(getObj r).runT P u es=(.ok o u,es.push ⟨.obj r,false,o.isChan⟩):=by
     show (Sem.getObj r Sem.pure).runT P u es=_
     cases o<;>first|(simp [vV] at hc;done)|(simp only [Sem.runT,hu])
    rw [this]
   obtain ⟨o',h1,h2⟩:=hw.get hr
   have e':((getObj r).bind f).runT P w es=(f o).runT P w (es.push ⟨.obj r,false,o.isChan⟩):=by
    cases h2 with
    |same=>exact e _ h1
    |cut=>simp [vV] at hc
    |blind hb=>
     rw [Sem.runT_bind']
     have:(getObj r).runT P w es=(.ok o' w,es.push ⟨.obj r,false,o'.isChan⟩):=by
      show (Sem.getObj r Sem.pure).runT P w es=_
      have hc':=hb.cells.2
      cases o'<;>first|(simp [vV] at hc';done)|(simp only [Sem.runT,h1])
     rw [this,hb.Jd]
     rcases lW _ _ hb with ZN|ZN
     ·simp only [ZN]
     ·rw [e _ hr] at fg;exact absurd fg (ZN _ _)
   rw [e _ hr] at fg C6
   obtain ⟨w',hs⟩:=(h o hc wl w (es.push ⟨.obj r,false,o.isChan⟩) hr hw).2 fg C6
   refine ⟨w',by rw [e _ hr,e'];exact hs.run,by rw [e _ hr];exact hs.weak,by rw [e _ hr];exact hs.mono,by rw [e _ hr];exact hs.drawn,hs.upd,by rw [e _ hr];exact hs.gR, ?_,fun h=>by rw [e _ hr];exact hs.heap h⟩
   rw [e _ hr]
   obtain ⟨l,h3,h4⟩:=hs.evs
   refine ⟨⟨.obj r,false,o.isChan⟩::l,by rw [h3];apply Array.ext';simp,fun ev he=> ?_⟩
   rcases List.mem_cons.1 he with rfl|he
   ·exact ⟨E_ (cI hr) hs.gR.size,fun o ho=>by rw [hr] at ho;cases ho;exact hc,fun _=>rfl⟩
   ·exact h4 ev he
class Nt {α:Type} (P:U') (s:Sem α):Prop where
 out:ag P s
theorem nt {s:Sem α} (h:ag P s:=by repeat' first|(with_reducible first|exact Nt.out|assumption|refine zY _ (fun _=> ?_) (fun _ _ b=>by cases b<;>first|exact .inl rfl|exact .inr fun _ _ h=>h)|refine af ?_ fun _=> ?_|refine dZ ?_|refine fL (fun _=> ?_) (fun _=> ?_)|refine jg (fun _ _=> ?_) _ _|refine jf (fun _ _=> ?_) _ _|refine gp (fun _ _=> ?_) _ _|refine jO (fun _=> ?_) _)|split):ag P s:=h
instance (q:Question):Nt P (choose q):=⟨lg _⟩
instance (a:z_):Nt P (load a):=⟨nL _⟩
instance:Nt P (mark .noRoom):=⟨oW⟩
instance (a:α):Nt P (Sem.pure a):=⟨bo _⟩
instance (a:z_) (v:M'):Nt P (store a v):=⟨qC _ _⟩
theorem af (hx:ag P x) (hf:∀a,ag P (f a)):ag P (x>>=f):=sd hx hf
theorem zY (r:Nat) {f:Obj->Sem α} (h:∀o,ag P (f o)) (hb:∀o o',na o o'->f o'=f o\/∀w es,¬rE ((f o).runT P w es).1):ag P (getObj r>>=f):=cJ r (fun o _=>(h o).c) hb
theorem dZ {f:α->β} (hx:ag P x):ag P (Functor.map f x):=sd hx (fun a=>bo (f a))
theorem aj (a:α):ag P (Pure.pure a:Sem α):=bo a
instance (a:α):Nt P (Pure.pure a:Sem α):=⟨aj _⟩
theorem xy (a:String):ag P (stuck a:Sem α):=bd _ trivial
instance (a:String):Nt P (stuck a:Sem α):=⟨xy _⟩
theorem fu (a:Unsupported) (h:pL (.unsupported a)):ag P (unsupported a:Sem α):=bd _ h
theorem wX (a:String):ag P (unsupported (.noEntry a):Sem α):=bd _ trivial
instance (a:String):Nt P (unsupported (.noEntry a):Sem α):=⟨wX _⟩
theorem wW (a:String):ag P (unsupported (.unsafePointer a):Sem α):=bd _ trivial
instance (a:String):Nt P (unsupported (.unsafePointer a):Sem α):=⟨wW _⟩
theorem oV (a:String):ag P (unsupported (.resourceLimit a):Sem α):=bd _ trivial
instance (a:String):Nt P (unsupported (.resourceLimit a):Sem α):=⟨oV _⟩
theorem wY:ag P (unsupported .addressObserved:Sem α):=bd _ trivial
instance:Nt P (unsupported .addressObserved:Sem α):=⟨wY⟩
theorem vk (a:M'):ag P (goPanic a:Sem α):=bd _ trivial
instance (a:M'):Nt P (goPanic a:Sem α):=⟨vk _⟩
theorem gW:ag P program:=vd _ (bo _)
instance:Nt P program:=⟨gW⟩
theorem bE {s s':Sem α} (h:∀w es,s.runT P w es=s'.runT P w es) (hs:ag P s'):ag P s:=by
 intro wl w es h0 h1
 refine ⟨by rw [h];exact (hs wl w es h0 h1).1,fun h2 h3=> ?_⟩
 rw [h] at h2 h3
 obtain ⟨w',k⟩:=(hs wl w es h0 h1).2 h2 h3
 exact ⟨w',by rw [h,h];exact k.run,by rw [h];exact k.weak,by rw [h];exact k.mono,by rw [h];exact k.drawn,k.upd,by rw [h];exact k.gR,by rw [h];exact k.evs,fun hh=>by rw [h];exact k.heap hh⟩
theorem gV (t:Q'):ag P (typeInfo t):=by
 unfold typeInfo
 refine af gW fun p=> ?_
 split
 ·exact bo _
 ·exact bd _ trivial
instance (t:Q'):Nt P (typeInfo t):=⟨gV _⟩
theorem cE (t:Q'):ag P (underlying t):=by
 unfold underlying
 refine af gW fun p=> ?_
 split
 ·exact bo _
 ·exact bd _ trivial
instance (t:Q'):Nt P (underlying t):=⟨cE _⟩
theorem bf (t:Q') {f:TypeDesc->Sem α} (h:∀d,P.underlying t=some d->ag P (f d)):ag P (underlying t>>=f):=by
 cases hu:P.underlying t with
 |none=>
  refine bE (s':=Sem.halt (.stuck "no such type")) (fun w es=> ?_) (bd _ trivial)
  show ((underlying t).bind f).runT P w es=_
  rw [Sem.runT_bind']
  have:(underlying t).runT P w es=(.halt (.stuck "no such type") w,es):=by
   show ((Sem.program Sem.pure).bind _).runT P w es=_
   simp only [Sem.bind,Sem.runT,hu]
   rfl
  rw [this];rfl
 |some d=>
  refine bE (s':=f d) (fun w es=> ?_) (h d hu)
  show ((underlying t).bind f).runT P w es=_
  rw [Sem.runT_bind']
  have:(underlying t).runT P w es=(.ok d w,es):=by
   show ((Sem.program Sem.pure).bind _).runT P w es=_
   simp only [Sem.bind,Sem.runT,hu]
   rfl
  rw [this]
theorem gI (t:Q'):ag P (sizeOf t):=af (gV t) fun _=>bo _
instance (t:Q'):Nt P (sizeOf t):=⟨gI _⟩
theorem lO (t:Q'):ag P (zeroValue t):=by
 unfold zeroValue
 refine af (gV t) fun p=> ?_
 split
 ·exact bo _
 ·exact bd _ trivial
instance (t:Q'):Nt P (zeroValue t):=⟨lO _⟩
theorem mg (t:Q'):ag P (isAgg t):=by
 unfold isAgg
 refine af (cE t) fun p=> ?_
 split<;>exact bo _
instance (t:Q'):Nt P (isAgg t):=⟨mg _⟩
theorem Ap (t:Q') (cs:Array M') (off:Nat):ag P (part t cs off):=by
 unfold part
 refine af (mg t) fun b=> ?_
 split
 ·exact af (gI t) fun _=>bo _
 ·split
  ·exact bo _
  ·exact bd _ trivial
instance (t:Q') (cs:Array M') (off:Nat):Nt P (part t cs off):=⟨Ap _ _ _⟩
theorem jC (a:z_):∀(n i:Nat) (acc:Array M'),ag P (loadCellsFrom a i n acc)
 |0,_,_=>bo _
 |n+1,i,acc=>af (nL _) fun v=>jC a n (i+1) (acc.push v)
theorem lR (a:z_) (n:Nat):ag P (loadCells a n):=jC a n 0 #[]
instance (a:z_) (n:Nat):Nt P (loadCells a n):=⟨lR _ _⟩
theorem eE (a:z_):∀(vs:List M') (i:Nat),ag P (storeCells a vs i)
 |[],_=>bo _
 |_::rest,i=>af (qC _ _) fun _=>eE a rest (i+1)
instance (a:z_) (vs:List M') (i:Nat):Nt P (storeCells a vs i):=⟨eE _ _ _⟩
theorem oh (t:Q') (a:z_):ag P (loadVar t a):=by
 unfold loadVar
 refine af (mg t) fun b=> ?_
 split
 ·exact af (gI t) fun n=>af (lR a n) fun _=>bo _
 ·exact nL a
instance (t:Q') (a:z_):Nt P (loadVar t a):=⟨oh _ _⟩
theorem tG (t:Q') (a:z_) (v:M'):ag P (storeVar t a v):=by
 unfold storeVar
 refine af (gI t) fun n=> ?_
 split
 ·exact af (bd _ trivial) fun _=>eE a _ 0
 ·exact eE a _ 0
instance (t:Q') (a:z_) (v:M'):Nt P (storeVar t a v):=⟨tG _ _ _⟩
theorem oY (t:Q') (c:Array M'):ag P (newRow t c):=af (eZ _ rfl) fun _=>bo _
instance (t:Q') (c:Array M'):Nt P (newRow t c):=⟨oY _ _⟩
theorem oX (t:Q') (v:M'):ag P (newVar t v):=oY t _
instance (t:Q') (v:M'):Nt P (newVar t v):=⟨oX _ _⟩
theorem xe (t:Q'):ag P (elemOf t):=by
 unfold elemOf
 refine af (cE t) fun d=> ?_
 split
 ·exact bo _
 ·exact bd _ trivial
theorem yz (e:RuntimeError):ag P (runtimePanic e:Sem α):=by
 unfold runtimePanic
 refine af gW fun p=> ?_
 cases e<;>first
  |exact bd _ trivial
  |(refine af (xe _) fun t=>af (oX _ _) fun _=>bd _ trivial)
instance (e:RuntimeError):Nt P (runtimePanic e:Sem α):=⟨yz _⟩
theorem qk (k:IntKind) (x y:Int) (c:BoundsCode):ag P (boundsPanic k x y c:Sem α):=by
 unfold boundsPanic
 simp only []
 split
 ·exact af (dZ (lg _)) fun s=>yz _
 ·exact af (bo _) fun s=>yz _
instance (k:IntKind) (x y:Int) (c:BoundsCode):Nt P (boundsPanic k x y c:Sem α):=⟨qk _ _ _ _⟩
theorem oi (v:M'):ag P (asIntOf v):=by
 unfold asIntOf
 split<;>first|exact bo _|exact bd _ trivial
instance (v:M'):Nt P (asIntOf v):=⟨oi _⟩
theorem jP (v:M'):ag P (asInt v):=af (oi v) fun _=>bo _
instance (v:M'):Nt P (asInt v):=⟨jP _⟩
theorem lj (v:M'):ag P (asBool v):=by
 unfold asBool
 split<;>first|exact bo _|exact bd _ trivial
instance (v:M'):Nt P (asBool v):=⟨lj _⟩
theorem yx (v:M'):ag P (asAgg v):=by
 unfold asAgg
 split<;>first|exact bo _|exact bd _ trivial
instance (v:M'):Nt P (asAgg v):=⟨yx _⟩
theorem pd (v:M'):ag P (asAddr v):=by
 unfold asAddr
 split<;>first|exact bo _|exact bd _ trivial|exact yz _
instance (v:M'):Nt P (asAddr v):=⟨pd _⟩
theorem tE (v:M'):ag P (Instr.sureAddr v):=by
 unfold Instr.sureAddr
 split<;>first|exact bo _|exact bd _ trivial
instance (v:M'):Nt P (Instr.sureAddr v):=⟨tE _⟩
theorem vx (n:Nat):ag P (askRoom n):=by
 unfold askRoom
 split
 ·exact oW
 ·exact bo _
instance (n:Nat):Nt P (askRoom n):=⟨vx _⟩
theorem Vp (t:Q') (b:Bool) (v:M'):ag P (Instr.alloc t b v):=by
 unfold Instr.alloc
 try simp only []
 all_goals exact nt
theorem Cq (t:Q') (v:M'):ag P (Instr.box t v):=by
 unfold Instr.box
 try simp only []
 all_goals exact nt
theorem xb (t:Q') (v:M'):ag P (Instr.loadAt t v):=by
 unfold Instr.loadAt
 try simp only []
 all_goals exact nt
theorem uZ (t:Q') (a v:M'):ag P (Instr.storeAt t a v):=by
 unfold Instr.storeAt
 try simp only []
 all_goals exact nt
theorem vh (t:Q') (a v:M'):ag P (Instr.indexAt t a v):=by
 unfold Instr.indexAt
 try simp only []
 all_goals exact nt
theorem yq (t:Q') (a v:M'):ag P (Instr.index t a v):=by
 unfold Instr.index
 try simp only []
 all_goals exact nt
theorem yr (t:Q') (a:M') (n:Nat):ag P (Instr.field t a n):=by
 unfold Instr.field
 try simp only []
 all_goals exact nt
theorem vn (a:M') (n:Nat):ag P (Instr.extract a n):=by
 unfold Instr.extract
 try simp only []
 all_goals exact nt
theorem r9 (t:Q') (a b:M'):ag P (Instr.makeSlice t a b):=by
 unfold Instr.makeSlice
 try simp only []
 all_goals exact nt
theorem qU (a:M') (n:Nat) (c:BoundsCode):ag P (Instr.sliceBound a n c):=by
 unfold Instr.sliceBound
 try simp only []
 all_goals exact nt
instance (a:M') (n:Nat) (c:BoundsCode):Nt P (Instr.sliceBound a n c):=⟨qU _ _ _⟩
theorem qg (s:Bool) (l c:Nat) (x y z:Option M'):ag P (Instr.sliceBounds s l c x y z):=by
 unfold Instr.sliceBounds
 try simp only []
 all_goals exact nt
instance (s:Bool) (l c:Nat) (x y z:Option M'):Nt P (Instr.sliceBounds s l c x y z):=⟨qg _ _ _ _ _ _⟩
theorem ym (t:Q') (v:M') (x y z:Option M'):ag P (Instr.slice t v x y z):=by
 unfold Instr.slice
 try simp only []
 all_goals exact nt
instance (t:Q') (v:M') (x y z:Option M'):Nt P (Instr.slice t v x y z):=⟨ym _ _ _ _ _⟩
theorem vc (t:Q') (v:M') (x y z:Option M'):ag P (Instr.sliceAt t v x y z):=by
 unfold Instr.sliceAt
 try simp only []
 all_goals exact nt
theorem tJ (op:BinOp) (k:IntKind) (x y:Int):ag P (Op.intArith op k x y):=by
 unfold Op.intArith
 try simp only []
 all_goals exact nt
instance (op:BinOp) (k:IntKind) (x y:Int):Nt P (Op.intArith op k x y):=⟨tJ _ _ _ _⟩
theorem xc (op:BinOp) (k:IntKind) (x y:Int):ag P (Op.intDiv op k x y):=by
 unfold Op.intDiv
 try simp only []
 all_goals exact nt
instance (op:BinOp) (k:IntKind) (x y:Int):Nt P (Op.intDiv op k x y):=⟨xc _ _ _ _⟩
theorem xd (op:BinOp) (x y:Int):ag P (Op.intCmp op x y):=by
 unfold Op.intCmp
 try simp only []
 all_goals exact nt
instance (op:BinOp) (x y:Int):Nt P (Op.intCmp op x y):=⟨xd _ _ _⟩
theorem vg (op:BinOp) (k:IntKind) (x y:Int):ag P (Op.intBits op k x y):=by
 unfold Op.intBits
 try simp only []
 all_goals exact nt
instance (op:BinOp) (k:IntKind) (x y:Int):Nt P (Op.intBits op k x y):=⟨vg _ _ _ _⟩
theorem yn (op:BinOp) (k k':IntKind) (x y:Int):ag P (Op.shift op k x k' y):=by
 unfold Op.shift
 try simp only []
 all_goals exact nt
instance (op:BinOp) (k k':IntKind) (x y:Int):Nt P (Op.shift op k x k' y):=⟨yn _ _ _ _ _⟩
theorem tF (op:BinOp) (x y:ByteArray):ag P (Op.stringOp op x y):=by
 unfold Op.stringOp
 try simp only []
 all_goals exact nt
instance (op:BinOp) (x y:ByteArray):Nt P (Op.stringOp op x y):=⟨tF _ _ _⟩
theorem yl (op:UnOp) (x:M'):ag P (Op.unary op x):=by
 unfold Op.unary
 try simp only []
 all_goals exact nt
theorem yp (x:M'):ag P (Builtin.lenOf x):=by
 unfold Builtin.lenOf
 try simp only []
 all_goals exact nt
instance (x:M'):Nt P (Builtin.lenOf x):=⟨yp _⟩
theorem qX (s n:Nat) (x:M'):ag P (Builtin.firstCells s n x):=by
 unfold Builtin.firstCells
 try simp only []
 all_goals exact nt
instance (s n:Nat) (x:M'):Nt P (Builtin.firstCells s n x):=⟨qX _ _ _⟩
theorem Co (t:Array Q') (u:Q') (a:Array M'):ag P (Builtin.len_ t u a):=by
 unfold Builtin.len_
 try simp only []
 all_goals exact nt
theorem Cp (t:Array Q') (u:Q') (a:Array M'):ag P (Builtin.cap_ t u a):=by
 unfold Builtin.cap_
 try simp only []
 all_goals exact nt
theorem Au (t:Array Q') (u:Q') (a:Array M'):ag P (Builtin.copy_ t u a):=by
 unfold Builtin.copy_
 try simp only []
 all_goals exact nt
theorem Aq (a b:M'):ag P (Builtin.min2 a b):=by
 unfold Builtin.min2
 try simp only []
 all_goals exact nt
theorem Ar (a b:M'):ag P (Builtin.max2 a b):=by
 unfold Builtin.max2
 try simp only []
 all_goals exact nt
theorem kY {f:M'->α->Sem M'} (h:∀x y,ag P (f x y)):∀(l:List α) (x:M'),ag P (l.foldlM f x)
 |[],_=>bo _
 |a::l,x=>by rw [List.foldlM_cons];exact af (h x a) fun y=>kY h l y
theorem Cm (t:Array Q') (u:Q') (a:Array M'):ag P (Builtin.min_ t u a):=by
 unfold Builtin.min_
 split
 ·exact bd _ trivial
 ·exact kY Aq _ _
theorem Cn (t:Array Q') (u:Q') (a:Array M'):ag P (Builtin.max_ t u a):=by
 unfold Builtin.max_
 split
 ·exact bd _ trivial
 ·exact kY Ar _ _
theorem fL {c:Prop} [Decidable c] {y:Sem α} (h1:c->ag P x) (h2:¬c->ag P y):ag P (if c then x else y):=by
 split
 ·exact h1 ‹_›
 ·exact h2 ‹_›
theorem fP (r:Nat) {k:Option (Q' × Nat)->Sem α} (h:∀s,ag P (k s)) (hn:∀e n n',k (some (e,n))=k (some (e,n'))):ag P (shape r>>=k):=by
 intro wl w es h0 hw
 have e:∀u:J',(shape r>>=k).runT P u es=(k (u.shape? r)).runT P u es:=fun u=>by
  show ((shape r).bind k).runT P u es=_
  rw [Sem.runT_bind'];rfl
 refine ⟨by rw [e];exact (h (wl.shape? r) wl w es h0 hw).1,fun fg C6=> ?_⟩
 have hk:k (w.shape? r)=k (wl.shape? r):=by
  unfold World.shape?
  cases hr:wl.heap[r]? with
  |none=>
   have:w.heap[r]?=none:=by
    rw [Array.getElem?_eq_none_iff] at hr ⊢;rw [<-hw.size];exact hr
   rw [this]
  |some o=>
   obtain ⟨o',h1,h2⟩:=hw.get hr
   rw [h1]
   cases h2 with
   |same=>rfl
   |blind hb=>cases hb<;>rfl
   |cut g1 g2 g3=>exact hn _ _ _
 rw [e] at fg C6
 obtain ⟨w',hs⟩:=(h (wl.shape? r) wl w es h0 hw).2 fg C6
 exact ⟨w',by rw [e,e,hk];exact hs.run,by rw [e];exact hs.weak,by rw [e];exact hs.mono,by rw [e];exact hs.drawn,hs.upd,by rw [e];exact hs.gR,by rw [e];exact hs.evs,fun hh=>by rw [e];exact hs.heap hh⟩
theorem kp (r:Nat) {f:Option (z_ × Q')->Sem α} (h:∀v,ag P (f v)) (hs:∀v v',f (some v)=f (some v')):ag P (viewAt r>>=f):=by
 unfold viewAt
 simp only [bind_assoc]
 refine fP r (fun s=> ?_) (fun _ _ _=>rfl)
 split
 ·simp only [pure_bind];exact h _
 ·simp only [bind_assoc]
  refine cJ r (fun o ho=> ?_) (fun o o' hb=>by cases hb<;>first|exact .inl (hs _ _)|exact .inl rfl)
  split<;>(simp only [pure_bind];exact (h _).c)
theorem mH (r:Nat):ag P (numberAt r):=by
 unfold numberAt
 refine fP r (fun s=> ?_) (fun _ _ _=>rfl)
 split
 ·exact aj _
 ·refine cJ r (fun o ho=> ?_) (fun o o' hb=>by cases hb<;>first|exact .inl rfl|exact .inr fun _ _ h=>h)
  split<;>exact (aj _).c
instance (r:Nat):Nt P (numberAt r):=⟨mH _⟩
theorem o9 (a:z_):ag P (behindNumber a):=af (mH _) fun _=>aj _
instance (a:z_):Nt P (behindNumber a):=⟨o9 _⟩
theorem wZ (a:z_):ag P (noView a):=by
 unfold noView
 refine kp _ (fun b=> ?_) (fun _ _=>rfl)
 split
 ·exact fu _ trivial
 ·exact aj _
theorem lh (a:z_):ag P (byteOf a):=by
 unfold byteOf
 split
 ·exact aj _
 refine af gW fun p=>af (wZ a) fun _=>fP _ (fun s=> ?_) (fun _ _ _=>rfl)
 split
 ·simp only []
  split
  ·exact aj _
  ·split
   ·exact aj _
   ·exact xy _
 ·exact xy _
instance (a:z_):Nt P (byteOf a):=⟨lh _⟩
theorem qY (a:z_) (f:Field):ag P (fieldPlace a f):=by
 unfold fieldPlace partAt
 refine af (gI _) fun n=> ?_
 split
 ·exact af (lh _) fun _=>af (lh _) fun _=>aj _
 ·exact aj _
instance (a:z_) (f:Field):Nt P (fieldPlace a f):=⟨qY _ _⟩
theorem gp {f:α->β->Sem (ForInStep β)} (h:∀a b,ag P (f a b)):∀(l:List α) (b:β),ag P (forIn l b f)
 |[],b=>by rw [List.forIn_nil];exact aj _
 |a::l,b=>by
  rw [List.forIn_cons]
  refine af (h a b) fun s=> ?_
  cases s with
  |done b'=>exact aj _
  |yield b'=>exact gp h l b'
theorem jg {f:α->β->Sem (ForInStep β)} (h:∀a b,ag P (f a b)) (l:Array α) (b:β):ag P (forIn l b f):=by
 rw [<-Array.forIn_toList];exact gp h _ _
theorem jf {f:Nat->β->Sem (ForInStep β)} (h:∀a b,ag P (f a b)) (r:Std.Legacy.Range) (b:β):ag P (forIn r b f):=by
 rw [Std.Legacy.Range.forIn_eq_forIn_range'];exact gp h _ _
theorem r8 {f:α->Sem β} (h:∀a,ag P (f a)):∀(l:List α),ag P (l.mapM f)
 |[]=>by rw [List.mapM_nil];exact aj _
 |a::l=>by rw [List.mapM_cons];exact af (h a) fun _=>af (r8 h l) fun _=>aj _
theorem jO (h:∀a,ag P (f a)) (l:Array α):ag P (l.mapM f):=by
 rw [Array.mapM_eq_mapM_toList];exact dZ (r8 h _)
def Du {α:Type} (P:U') (s:Sem α):Prop:=∀w es,¬rE (s.runT P w es).1/\LM (s.runT P w es).1
def Calm {α:Type} (P:U') (s:Sem α):Prop:=∀w es h w',(s.runT P w es).1≠.halt h w'
theorem At {s:Sem α} (h:Du P s):ag P s:=fun wl _ es _ _=>⟨(h wl es).2,fun hf _=>absurd hf (h wl es).1⟩
theorem E8 (a:String):Du P (unsupported (.resourceLimit a):Sem α):=fun _ _=>⟨fun h=>h,trivial⟩
theorem zE (hx:Calm P x) (hf:∀a,Du P (f a)):Du P (x>>=f):=by
 intro w es
 have e:=Sem.runT_bind' P x f w es
 change ¬rE ((x.bind f).runT P w es).1/\LM ((x.bind f).runT P w es).1
 rw [e]
 cases hr:x.runT P w es with
 |mk r es'=>
  cases r with
  |ok a w'=>exact hf a w' es'
  |halt hh w'=>exact absurd (by rw [hr]) (hx w es hh w')
theorem zK (hx:Calm P x) (hf:∀a,Calm P (f a)):Calm P (x>>=f):=by
 intro w es v SW h
 have e:=Sem.runT_bind' P x f w es
 change ((x.bind f).runT P w es).1=_ at h
 rw [e] at h
 cases hr:x.runT P w es with
 |mk r es'=>
  rw [hr] at h
  cases r with
  |ok a w'=>exact hf a w' es' v SW h
  |halt hh w'=>exact absurd (by rw [hr]) (hx w es hh w')
theorem zJ (a:α):Calm P (Pure.pure a:Sem α):=fun _ _ _ _ h=>by cases h
theorem Fe (r:Nat):Calm P (shape r):=fun _ _ _ _ h=>by cases h
theorem Dm (a:z_):Calm P (frozen a):=fun _ _ _ _ h=>by cases h
theorem Dl:Calm P (mark .noRoom):=fun _ _ _ _ h=>by cases h
theorem vN (a:z_) (n:Nat):Calm P (Builtin.holdsCells a n):=by
 unfold Builtin.holdsCells
 refine zK (Fe _) fun s=> ?_
 split<;>exact zJ _
theorem yS (a b c:Nat) (d:Option z_) (v:M'):Calm P (Builtin.mayShare a b c d v):=by
 unfold Builtin.mayShare
 simp only []
 repeat' first
  |with_reducible exact zJ _
  |with_reducible exact vN _ _
  |with_reducible exact Dm _
  |with_reducible refine zK ?_ fun _=> ?_
  |split
theorem vm (t:Q') (a:M') (n:Nat):ag P (Instr.fieldAt t a n):=by
 unfold Instr.fieldAt
 try simp only []
 all_goals exact nt
theorem yv (t:Q') (ps:Array (Nat × M')):ag P (Instr.build t ps):=by
 unfold Instr.build
 try simp only []
 all_goals exact nt
theorem qZ (t:Q') (n:Nat) (ps:Array (Nat × M')):ag P (Instr.buildSlice t n ps):=by
 unfold Instr.buildSlice
 try simp only []
 all_goals exact nt
theorem vf (t:Q') (r:Option M'):ag P (Instr.makeMap t r):=by
 unfold Instr.makeMap
 cases r with
 |none=>exact af (eZ _ rfl) fun _=>aj _
 |some h=>
  refine af (cE _) fun d=> ?_
  split
  ·exact af (jP _) fun _=>af (eZ _ rfl) fun _=>aj _
  ·exact xy _
theorem tI (t:Q') (v:M'):ag P (Instr.makeChan t v):=by
 unfold Instr.makeChan
 refine af (jP _) fun n=>af (cE _) fun d=> ?_
 split
 ·refine af (gV _) fun i=> ?_
  split
  ·exact af (yz _) fun _=>af (eZ _ rfl) fun _=>aj _
  ·exact af (eZ _ rfl) fun _=>aj _
 ·exact xy _
theorem oC (t:Q') (v:M'):ag P (Instr.makeInterface t v):=by
 unfold Instr.makeInterface
 refine af (cE _) fun d=> ?_
 split
 ·exact xy _
 ·exact aj _
theorem oD (v:M'):ag P (Conv.bytesToString v):=by
 unfold Conv.bytesToString
 try simp only []
 all_goals exact nt
def rN:TypeDesc->Bool
 | .bool| .int _| .string| .chan ..=>true
 |_=>false
def iG (P:U') (t:Q'):Bool:=(P.underlying t).any rN
theorem vp {t:Q'} (ht:iG P t=true) (n:Nat) (x y:M'):ag P (Op.equalIn (n+1) t x y):=by
 unfold Op.equalIn
 refine bf t fun d hd=> ?_
 have hs:rN d=true:=by simpa [iG,hd] using ht
 split<;>first
  |(simp [rN] at hs;done)
  |skip
 all_goals exact nt
theorem qD {t:Q'} (ht:iG P t=true) (x y:M'):ag P (Op.equal t x y):=vp ht 9999 x y
theorem gX {t:Q'} (ht:iG P t=true) (b:Bool) (n:Nat) (x:M'):ag P (Instr.checkKey b (n+1) t x):=by
 unfold Instr.checkKey
 refine bf t fun d hd=> ?_
 have hs:rN d=true:=by simpa [iG,hd] using ht
 split<;>first
  |(simp [rN] at hs;done)
  |exact aj _
theorem lf {t:Q'} (ht:iG P t=true) (k:M'):∀(l:List MapEntry) (i:Nat),ag P (Instr.findAsking t k l i)
 |[],_=>aj _
 |e::l,i=>by
  unfold Instr.findAsking
  refine af (qD ht _ _) fun b=> ?_
  split
  ·exact aj _
  ·exact lf ht k l (i+1)
theorem kg {t:Q'} (ht:iG P t=true) (k:M') (l:List MapEntry):ag P (Instr.findKey t k l):=by
 unfold Instr.findKey
 refine af (cE _) fun d=> ?_
 split
 ·exact aj _
 ·exact lf ht k l 0
def iR (P:U') (t:Q'):Bool:=match P.underlying t with|some (.map k _)=>iG P k|_=>true
theorem xa {t:Q'} (ht:iR P t=true) (x i:M') (b:Bool):ag P (Instr.lookup t x i b):=by
 unfold Instr.lookup
 refine bf t fun d hd=> ?_
 split
 ·rename_i key elem
  have hk:iG P key=true:=by simpa [iR,hd] using ht
  repeat' first|(with_reducible first|exact Nt.out|assumption|refine zY _ (fun _=> ?_) (fun _ _ b=>by cases b<;>first|exact .inl rfl|exact .inr fun _ _ h=>h)|refine af ?_ fun _=> ?_|refine dZ ?_|refine fL (fun _=> ?_) (fun _=> ?_)|refine jg (fun _ _=> ?_) _ _|refine jf (fun _ _=> ?_) _ _|refine gp (fun _ _=> ?_) _ _|refine jO (fun _=> ?_) _|exact gX hk _ 9999 _|exact kg hk _ _)|split
 ·exact xy _
theorem ln {r:Nat} (hx:ag P x) (hf:∀a,U8 P (fun w=>r<w.heap.size/\xZ r w) (f a)):U8 P (fun w=>r<w.heap.size/\xZ r w) (x>>=f):=mK (jN r) hx.c hf
theorem tM {C':J'->Prop} {s:Sem α} (h:U8 P C s) (hc:∀w,C' w->C w):U8 P C' s:=fun wl w es h0=>h wl w es (hc _ h0)
theorem tD {r:Nat} {o:Obj} (h:isMap o=true):∀w:J',w.heap[r]?=some o->r<w.heap.size/\xZ r w:=fun w hw=>⟨(cI hw),fun o' ho=>by rw [hw] at ho;cases ho;exact h⟩
theorem oZ (a b:M'):ag P (Instr.keyThatStays a b):=by
 unfold Instr.keyThatStays
 all_goals exact nt
theorem lQ {t:Q'} (ht:iR P t=true) (m k v:M'):ag P (Instr.mapUpdate t m k v):=by
 unfold Instr.mapUpdate
 refine bf t fun d hd=> ?_
 split
 ·rename_i key elem
  have hk:iG P key=true:=by simpa [iR,hd] using ht
  split
  ·exact yz _
  ·rename_i r
   refine cJ r (fun o ho=> ?_) (fun o o' hb=>by cases hb<;>first|exact .inl rfl|exact .inr fun _ _ h=>h)
   split
   ·rename_i es clock
    refine tM ?_ (tD (r:=r) (o:=.map es clock) rfl)
    refine ln (gX hk _ 9999 _) fun _=>ln (kg hk _ _) fun q=> ?_
    split
    ·exact ln (oZ _ _) fun _=>jU r _ rfl rfl rfl rfl
    ·exact jU r _ rfl rfl rfl rfl
   ·exact (xy _).c
  ·exact xy _
 ·exact xy _
theorem xf {ts:Array Q'} (ht:∀t,ts[0]?=some t->iR P t=true) (u:Q') (a:Array M'):ag P (Builtin.delete_ ts u a):=by
 unfold Builtin.delete_
 split
 ·rename_i t m k heq
  have h1:ts[0]?=some t:=(Prod.mk.inj heq).1
  refine bf t fun d hd=> ?_
  split
  ·rename_i key elem
   have hk:iG P key=true:=by simpa [iR,hd] using ht t h1
   split
   ·exact af (gX hk _ 9999 _) fun _=>aj _
   ·rename_i r
    show ag P ((getObj r).bind _)
    refine cJ r (fun o ho=> ?_) (fun o o' hb=>by cases hb<;>first|exact .inl rfl|exact .inr fun _ _ h=>h)
    split
    ·rename_i es clock
     refine tM ?_ (tD (r:=r) (o:=.map es clock) rfl)
     refine ln (gX hk _ 9999 _) fun _=>ln (kg hk _ _) fun q=> ?_
     split
     ·exact mK (jN r) (jU r _ rfl rfl rfl rfl) fun _=>(aj _).c
     ·exact mK (jN r) (jU r _ rfl rfl rfl rfl) fun _=>(aj _).c
    ·exact (xy _).c
   ·exact xy _
  ·exact xy _
 ·exact xy _
theorem yo (t:Q') (x:M'):ag P (Instr.range t x):=by
 unfold Instr.range
 refine af (cE t) fun d=> ?_
 split
 ·simp only [pure_bind];exact af (eZ _ rfl) fun _=>aj _
 ·simp only [pure_bind];exact af (eZ _ rfl) fun _=>aj _
 ·refine cJ _ (fun o ho=> ?_) (fun o o' hb=>by cases hb<;>first|exact .inl rfl|exact .inr fun _ _ h=>h)
  split
  ·simp only [pure_bind];exact (af (eZ _ rfl) fun _=>aj _).c
  ·exact (xy _).c
 ·exact bE (s':=Sem.halt (.stuck "Range: string or map expected")) (fun _ _=>rfl) (bd _ trivial)
theorem Lr {c:Prop} [Decidable c] {y:Sem α} (h1:Du P x) (h2:Du P y):Du P (if c then x else y):=by
 split
 ·exact h1
 ·exact h2
theorem xh (ts:Array Q') (u:Q') (a:Array M'):ag P (Builtin.append_ ts u a):=by
 unfold Builtin.append_
 simp only []
 repeat' first|(with_reducible first|exact Nt.out|refine At (zE (yS _ _ _ _ _) fun _=> ?_)|exact E8 _|refine Lr ?_ ?_|refine zE Dl fun _=> ?_|assumption|refine zY _ (fun _=> ?_) (fun _ _ b=>by cases b<;>first|exact .inl rfl|exact .inr fun _ _ h=>h)|refine af ?_ fun _=> ?_|refine dZ ?_|refine fL (fun _=> ?_) (fun _=> ?_)|refine jg (fun _ _=> ?_) _ _|refine jf (fun _ _=> ?_) _ _|refine gp (fun _ _=> ?_) _ _|refine jO (fun _=> ?_) _)|split
theorem fO (a:Unsupported) (f:α->Sem β) (h:pL (.unsupported a)):ag P (unsupported a>>=f):=bE (s':=Sem.halt (.unsupported a)) (fun _ _=>rfl) (bd _ h)
theorem qe (a:String) (f:α->Sem β):ag P (unsupported (.noEntry a)>>=f):=fO _ _ trivial
instance {α β:Type} (a:String) (f:α->Sem β):Nt P (unsupported (.noEntry a)>>=f):=⟨qe _ _⟩
theorem qc (a:String) (f:α->Sem β):ag P (unsupported (.unsafePointer a)>>=f):=fO _ _ trivial
instance {α β:Type} (a:String) (f:α->Sem β):Nt P (unsupported (.unsafePointer a)>>=f):=⟨qc _ _⟩
theorem qd (a:String) (f:α->Sem β):ag P (unsupported (.resourceLimit a)>>=f):=fO _ _ trivial
instance {α β:Type} (a:String) (f:α->Sem β):Nt P (unsupported (.resourceLimit a)>>=f):=⟨qd _ _⟩
theorem qf (f:α->Sem β):ag P (unsupported .addressObserved>>=f):=fO _ _ trivial
instance {α β:Type} (f:α->Sem β):Nt P (unsupported .addressObserved>>=f):=⟨qf _⟩
theorem qT (a:String) (f:α->Sem β):ag P (stuck a>>=f):=bE (s':=Sem.halt (.stuck a)) (fun _ _=>rfl) (bd _ trivial)
instance {α β:Type} (a:String) (f:α->Sem β):Nt P (stuck a>>=f):=⟨qT _ _⟩
theorem qW (s:FloatKind) (b:Nat) (k:IntKind):ag P (Conv.floatToInt s b k):=by
 unfold Conv.floatToInt
 simp only []
 all_goals exact nt
theorem qj {src dst:Q'} {k k':IntKind} (h1:P.underlying src=some (.int k)) (h2:P.underlying dst=some (.int k')) (x:M'):ag P (convert src dst x):=by
 unfold convert
 refine bf src fun d hd=>bf dst fun d' HG=> ?_
 rw [h1] at hd;rw [h2] at HG;cases hd;cases HG
 split<;>first
  |exact aj _
  |exact fu _ trivial
  |(simp_all;done)
  |(rename_i h;cases h;done)
  |(rename_i h;cases h;exact qW _ _ _)
theorem qh {src dst e:Q'} (h1:P.underlying src=some (.slice e)) (h2:P.underlying dst=some .string) (h3:P.underlying e=some (.int .u8)) (x:M'):ag P (convert src dst x):=by
 unfold convert
 refine bf src fun d hd=>bf dst fun d' HG=> ?_
 rw [h1] at hd;rw [h2] at HG;cases hd;cases HG
 split
 all_goals first
  |exact aj _
  |exact fu _ trivial
  |(simp_all;done)
  |(rename_i h;cases h;done)
  |(rename_i HQ WR;cases HQ;cases WR;done)
  |(refine bf _ fun d hd=> ?_
    simp_all
    exact oD _)
  |skip
def MP (P:U') (t:Q') (x y:Operand):Bool:=
 iG P t||(match P.underlying t with
  |some (.pointer _)=>(match x,y with
   | .const (.pointer none),_|_,.const (.pointer none)=>true
   |_,_=>false)
  |some (.slice _)|some (.map _ _)=>true
  |_=>false)
theorem tK {t:Q'} {x y:Operand} (h:MP P t x y=true) (a:Act):ag P (Op.equal t (a.eval x) (a.eval y)):=by
 unfold MP at h
 rcases (Bool.or_eq_true_iff.1 h) with h|h
 ·exact qD h _ _
 ·show ag P (Op.equalIn (9999+1) t _ _)
  unfold Op.equalIn
  refine bf t fun d hd=> ?_
  rw [hd] at h
  cases d<;>simp only [qp] at h
  ·split at h
   ·simp only [Act.eval]
    split<;>first|exact aj _|exact xy _|(simp_all;done)|skip
   ·simp only [Act.eval]
    split<;>first|exact aj _|exact xy _|(simp_all;done)|skip
   ·cases h
  ·split<;>first|exact aj _|exact xy _|(simp_all;done)
  ·split<;>first|exact aj _|exact xy _|(simp_all;done)
theorem lS:∀(n:Nat) (t:Q') (x y:M'),ag P (Op.eqGuardIn n t x y)
 |0,_,_,_=>oV _
 |n+1,t,x,y=>by
  have ih:=fun t x y=>lS n t x y
  unfold Op.eqGuardIn
  repeat' first|(with_reducible first|exact Nt.out|assumption|refine zY _ (fun _=> ?_) (fun _ _ b=>by cases b<;>first|exact .inl rfl|exact .inr fun _ _ h=>h)|refine af ?_ fun _=> ?_|refine dZ ?_|refine fL (fun _=> ?_) (fun _=> ?_)|exact ih _ _ _|refine jg (fun _ _=> ?_) _ _|refine jf (fun _ _=> ?_) _ _)|split
  all_goals (dsimp only;split<;>exact aj _)
instance (n:Nat) (t:Q') (x y:M'):Nt P (Op.eqGuardIn n t x y):=⟨lS _ _ _ _⟩
theorem vq (op:BinOp) (t:Q') (x y:Operand) (a b:M'):ag P (eqGuard op t x y a b):=by
 unfold eqGuard
 all_goals exact nt
def JB (P:U') (op:BinOp) (t:Q') (x y:Operand):Bool:=
 match op with
 | .eql| .neq=>MP P t x y
 |_=>match P.underlying t with
  |some (.int _)|some .string=>true
  |_=>false
theorem Eo {t:Q'} {d:TypeDesc} (h:(match P.underlying t with|some (.int _)|some .string=>true|_=>false)=true) (hd:P.underlying t=some d):d≠.unsafePointer:=by
 rintro rfl;rw [hd] at h;cases h
theorem kZ (op:BinOp) (k:FloatKind) (x y:Nat):ag P (Op.floatArith op k x y):=by
 unfold Op.floatArith
 simp only []
 all_goals exact nt
instance (op:BinOp) (k:FloatKind) (x y:Nat):Nt P (Op.floatArith op k x y):=⟨kZ _ _ _ _⟩
theorem mJ (op:BinOp) (k:FloatKind) (x y:Nat):ag P (Op.floatCmp op k x y):=by
 unfold Op.floatCmp
 simp only []
 all_goals exact nt
instance (op:BinOp) (k:FloatKind) (x y:Nat):Nt P (Op.floatCmp op k x y):=⟨mJ _ _ _ _⟩
theorem o8 (s:FloatKind) (x:Nat) (d:FloatKind):ag P (Conv.floatToFloat s x d):=by
 unfold Conv.floatToFloat
 simp only []
 all_goals exact nt
theorem xg (op:BinOp) (k:FloatKind) (x y:Nat):ag P (Op.Complex.arith op k x y):=by
 unfold Op.Complex.arith
 refine af (kZ _ _ _ _) fun v=> ?_
 split<;>first|exact aj _|exact xy _
instance (op:BinOp) (k:FloatKind) (x y:Nat):Nt P (Op.Complex.arith op k x y):=⟨xg _ _ _ _⟩
theorem Av (op:BinOp) (k:FloatKind) (x y:Nat):ag P (Op.Complex.cmp op k x y):=af (mJ _ _ _ _) fun v=>lj _
instance (op:BinOp) (k:FloatKind) (x y:Nat):Nt P (Op.Complex.cmp op k x y):=⟨Av _ _ _ _⟩
theorem yu (s:FloatKind) (x:Nat) (d:FloatKind):ag P (Op.Complex.conv s x d):=by
 unfold Op.Complex.conv
 split
 ·exact aj _
 ·refine af (o8 _ _ _) fun v=> ?_
  split<;>first|exact aj _|exact xy _
instance (s:FloatKind) (x:Nat) (d:FloatKind):Nt P (Op.Complex.conv s x d):=⟨yu _ _ _⟩
theorem ve (a b c d:Nat):ag P (Op.Complex.product a b c d):=by
 unfold Op.Complex.product Op.Complex.sub Op.Complex.add Op.Complex.mul
 all_goals exact nt
instance (a b c d:Nat):Nt P (Op.Complex.product a b c d):=⟨ve _ _ _ _⟩
theorem sa (s a b c d:Nat):ag P (Op.Complex.corrected s a b c d):=by
 unfold Op.Complex.corrected Op.Complex.sub Op.Complex.add Op.Complex.mul
 all_goals exact nt
instance (s a b c d:Nat):Nt P (Op.Complex.corrected s a b c d):=⟨sa _ _ _ _ _⟩
theorem tH (a b c d:Nat):ag P (Op.Complex.quotient a b c d):=by
 unfold Op.Complex.quotient Op.Complex.sub Op.Complex.add Op.Complex.mul Op.Complex.quo
 simp only []
 all_goals exact nt
instance (a b c d:Nat):Nt P (Op.Complex.quotient a b c d):=⟨tH _ _ _ _⟩
theorem sb (op:BinOp) (k:FloatKind) (a b c d:Nat):ag P (Op.complexOp op k a b c d):=by
 unfold Op.complexOp
 simp only []
 all_goals exact nt
instance (op:BinOp) (k:FloatKind) (a b c d:Nat):Nt P (Op.complexOp op k a b c d):=⟨sb _ _ _ _ _ _⟩
theorem uo {p:U'} {n:Nat} {e:Q'} {c c' off:Nat} {b:Int} {o:Nat} (h:cellAtBytes p n e c off b=some o) (hc:c<=c'):cellAtBytes p n e c' off b=some o:=by
 unfold cellAtBytes at *
 simp only [] at *
 split at h
 ·simp at h
 rename_i h1
 rw [if_neg h1]
 cases hb:byteOfCell p n e (off % p.cellsOf e) with
 |none=>rw [hb] at h;simp at h
 |some q=>
  rw [hb] at h
  simp only [pure_bind,Option.bind_eq_bind,Option.bind_some] at h ⊢
  split at h
  ·simp at h
  rename_i h2
  rw [if_neg (fun hh=>h2 ?_)]
  ·exact h
  ·simp only [Bool.or_eq_true,decide_eq_true_eq] at hh ⊢
   rcases hh with hh|hh
   ·exact .inl hh
   ·have:Int.ofNat (c * p.bytesOf e)<=Int.ofNat (c' * p.bytesOf e):=by
     have:=Nat.mul_le_mul_right (p.bytesOf e) hc
     exact Int.ofNat_le.2 this
    exact .inr (by omega)
theorem qV (r:Nat) {k:Option (Q' × Nat)->Sem α} (h:∀s,ag P (k s)) (hn:∀e n n',n<=n'->Du P (k (some (e,n)))\/∀w es,(k (some (e,n))).runT P w es=(k (some (e,n'))).runT P w es):ag P (shape r>>=k):=by
 intro wl w es h0 hw
 have e:∀u:J',(shape r>>=k).runT P u es=(k (u.shape? r)).runT P u es:=fun u=>by
  show ((shape r).bind k).runT P u es=_
  rw [Sem.runT_bind'];rfl
 refine ⟨by rw [e];exact (h (wl.shape? r) wl w es h0 hw).1,fun fg C6=> ?_⟩
 have hk:∀u es,(k (w.shape? r)).runT P u es=(k (wl.shape? r)).runT P u es:=by
  intro u es'
  rw [e] at fg
  unfold World.shape? at fg ⊢
  cases hr:wl.heap[r]? with
  |none=>
   have:w.heap[r]?=none:=by
    rw [Array.getElem?_eq_none_iff] at hr ⊢;rw [<-hw.size];exact hr
   rw [this]
  |some o=>
   rw [hr] at fg
   obtain ⟨o',h1,h2⟩:=hw.get hr
   rw [h1]
   cases h2 with
   |same=>rfl
   |blind hb=>cases hb<;>rfl
   |cut g1 g2 g3=>
    rcases hn _ _ _ g1 with hd|he
    ·exact absurd fg (hd _ _).1
    ·exact (he _ _).symm
 rw [e] at fg C6
 obtain ⟨w',hs⟩:=(h (wl.shape? r) wl w es h0 hw).2 fg C6
 exact ⟨w',by rw [e,e,hk];exact hs.run,by rw [e];exact hs.weak,by rw [e];exact hs.mono,by rw [e];exact hs.drawn,hs.upd,by rw [e];exact hs.gR,by rw [e];exact hs.evs,fun hh=>by rw [e];exact hs.heap hh⟩
theorem rP (k:U'->Sem α) (w:J') (es:Array Event):(program>>=k).runT P w es=(k P).runT P w es:=rfl
theorem rZ (u:Q') (x y:M'):ag P (Builtin.unsafeAdd_ #[] u #[x,y]):=by
 cases x with
 |pointer ptr=>
  refine af (jP y) fun n=> ?_
  by_cases hn:n=0
  ·subst hn
   cases ptr with
   |none=>exact bE (s':=Sem.halt (.unsupported (.unsafePointer "Add: from nil"))) (fun _ _=>rfl) (bd _ trivial)
   |some a=>
    refine kp _ (fun v=> ?_) (fun _ _=>rfl)
    cases v with
    |none=>exact aj _
    |some v=>exact bE (s':=Sem.halt (.unsupported (.unsafePointer "Add: at a place where no cell lies"))) (fun _ _=>rfl) (bd _ trivial)
  ·simp only [hn,if_false]
   by_cases hl:n<0
   ·simp only [hl,if_true]
    exact bE (s':=Sem.halt (.unsupported (.unsafePointer "Add: a move by a count below zero"))) (fun _ _=>rfl) (bd _ trivial)
   ·simp only [hl,if_false]
    cases ptr with
    |none=>exact fu _ trivial
    |some a=>
     refine qV _ (fun s=> ?_) (fun e c c' hc=> ?_)
     ·cases s with
      |none=>exact fu _ trivial
      |some q=>
       refine af gW fun p=> ?_
       split
       ·exact aj _
       ·exact fu _ trivial
     ·cases h:cellAtBytes P P.depth e (c / P.cellsOf e) a.off n with
      |none=>refine .inl (fun w es=> ?_);simp only [rP,h];exact ⟨fun h=>h,trivial⟩
      |some off=>refine .inr (fun w es=> ?_);simp only [rP,h,uo h (Nat.div_le_div_right hc)]
 |_=>exact bE (s':=Sem.halt (.stuck "unsafe.Add: a pointer and an integer expected")) (fun _ _=>rfl) (bd _ trivial)
instance (u:Q') (x y:M'):Nt P (Builtin.unsafeAdd_ #[] u #[x,y]):=⟨rZ _ _ _⟩
theorem kq (t:Q') (x y:M'):ag P (movedNumber t x y):=by
 unfold movedNumber asNumber
 simp only []
 repeat' first|(with_reducible first|exact Nt.out|assumption|refine zY _ (fun _=> ?_) (fun _ _ b=>by cases b<;>first|exact .inl rfl|exact .inr fun _ _ h=>h)|refine af ?_ fun _=> ?_|refine dZ ?_|refine fL (fun _=> ?_) (fun _=> ?_))|split|exact eZ _ rfl
instance (t:Q') (x y:M'):Nt P (movedNumber t x y):=⟨kq _ _ _⟩
theorem vz (k:IntKind) (a:z_) (n:Int):ag P (Op.addrMod k a n):=by
 unfold Op.addrMod
 refine fP _ (fun s=> ?_) (fun _ _ _=>rfl)
 simp only []
 all_goals exact nt
instance (k:IntKind) (a:z_) (n:Int):Nt P (Op.addrMod k a n):=⟨vz _ _ _⟩
theorem lP (a b:z_):ag P (Op.twoPlaces a b):=by
 unfold Op.twoPlaces
 simp only []
 all_goals exact nt
theorem vy (k:IntKind) (a b:z_):ag P (Op.addrSub k a b):=af (lP _ _) fun _=>aj _
instance (k:IntKind) (a b:z_):Nt P (Op.addrSub k a b):=⟨vy _ _ _⟩
theorem vA (op:BinOp) (a b:z_):ag P (Op.addrCmp op a b):=by
 unfold Op.addrCmp
 refine af (lP _ _) fun q=> ?_
 cases op<;>first|exact aj _|exact fu _ trivial
instance (op:BinOp) (a b:z_):Nt P (Op.addrCmp op a b):=⟨vA _ _ _⟩
def rU (P:U') (f:w_):Bool:=match P.funcs[f]? with
 |some fn=>fn.body.isSome&&fn.name != "runtime.NumGoroutine"
 |none=>false
theorem yw {op:BinOp} {t:Q'} {x y:Operand} (h:JB P op t x y=true) (a:Act):ag P (binOp op t (a.eval x) (a.eval y)):=by
 by_cases he:op=.eql\/op=.neq
 ·have hq:MP P t x y=true:=by rcases he with rfl|rfl<;>exact h
  have hE:=tK hq a
  revert hE
  generalize a.eval x=u;generalize a.eval y=v
  intro hE
  unfold binOp
  rcases he with rfl|rfl
  all_goals
   split<;>first
    |(simp_all;done)
    |skip
   all_goals exact nt
 ·have ht:(match P.underlying t with|some (.int _)|some .string=>true|_=>false)=true:=by
   unfold JB at h
   cases op<;>first|exact h|exact absurd (.inl rfl) he|exact absurd (.inr rfl) he
  clear h
  generalize a.eval x=u;generalize a.eval y=v
  have Zd:∀p q,ag P (do if (<-underlying t) matches .unsafePointer then movedPointer t p q else movedNumber t p q):=fun p q=>by
   refine bf t fun d hd=> ?_
   have:=Eo ht hd
   cases d<;>first|exact kq _ _ _|exact absurd rfl this
  unfold binOp
  split<;>first
   |(exact absurd (.inl rfl) he)
   |(exact absurd (.inr rfl) he)
   |exact Zd _ _
   |skip
  repeat' first|(with_reducible first|exact Nt.out|assumption|refine zY _ (fun _=> ?_) (fun _ _ b=>by cases b<;>first|exact .inl rfl|exact .inr fun _ _ h=>h)|refine af ?_ fun _=> ?_|refine dZ ?_|refine fL (fun _=> ?_) (fun _=> ?_))|split|(exact absurd (.inl rfl) he)|(exact absurd (.inr rfl) he)
theorem kr:∀(l:List FieldStep) (t:Q') (x:Option M'),ag P (followBlind l t x)
 |[],_,_=>aj _
 |s::l,t,x=>by
  have ih:=fun t x=>kr l t x
  unfold followBlind
  repeat' first|(with_reducible first|exact Nt.out|assumption|refine zY _ (fun _=> ?_) (fun _ _ b=>by cases b<;>first|exact .inl rfl|exact .inr fun _ _ h=>h)|refine af ?_ fun _=> ?_|refine dZ ?_|refine fL (fun _=> ?_) (fun _=> ?_)|exact ih _ _)|split
instance (l:List FieldStep) (t:Q') (x:Option M'):Nt P (followBlind l t x):=⟨kr _ _ _⟩
theorem mI:∀(n:Nat) (t:Q') (v:M') (s:String),ag P (nilAhead n t v s)
 |0,_,_,_=>aj _
 |n+1,t,v,s=>by
  have ih:=fun t v s=>mI n t v s
  unfold nilAhead
  repeat' first|(with_reducible first|exact Nt.out|assumption|refine zY _ (fun _=> ?_) (fun _ _ b=>by cases b<;>first|exact .inl rfl|exact .inr fun _ _ h=>h)|refine af ?_ fun _=> ?_|refine dZ ?_|refine fL (fun _=> ?_) (fun _=> ?_)|exact ih _ _ _)|split
instance (n:Nat) (t:Q') (v:M') (s:String):Nt P (nilAhead n t v s):=⟨mI _ _ _ _⟩
def En (P:U') (ok:w_->Bool) (c:Call):Bool:=
 match c.callee with
 | .value (.func f)=>ok f&&rU P f
 | .builtin .append| .builtin .len| .builtin .cap| .builtin .copy| .builtin .min| .builtin .max| .builtin .clear=>true
 | .builtin .delete=>(match c.argTypes[0]? with|some t=>iR P t|none=>true)
 |_=>false
def fN (P:U') (ok:w_->Bool) (o:Oper):Bool:=
 match o.op with
 | .move _| .assign _| .pick ..| .alloc _| .box ..| .build ..| .buildSlice ..| .load ..| .store ..| .unOp ..| .makeFunc ..| .makeMap ..| .makeChan ..| .makeSlice ..
 | .slice ..| .fieldAddr ..| .field ..| .indexAddr ..| .index ..| .range ..| .extract ..| .nilCheck _| .makeInterface ..| .panic _=>true
 | .lookup t ..| .mapUpdate t ..| .insert t ..=>iR P t
 | .binOp op t x y _=>JB P op t x y
 | .convert a b _=>(match P.underlying a,P.underlying b with
   |some (.int _),some (.int _)=>true
   |some (.slice e),some .string=>(match P.underlying e with|some (.int .u8)=>true|_=>false)
   |_,_=>false)
 | .call c=>En P ok c
 |_=>false
theorem vu {x y:Q'} (h:(match P.underlying x,P.underlying y with
 |some (.int _),some (.int _)=>true
 |some (.slice e),some .string=>(match P.underlying e with|some (.int .u8)=>true|_=>false)
 |_,_=>false)=true) (v:M'):ag P (convert x y v):=by
 split at h
 ·rename_i h1 h2;exact qj h1 h2 v
 ·rename_i e h1 h2
  split at h
  ·rename_i h3;exact qh h1 h2 h3 v
  ·cases h
 ·cases h
theorem tL {f:w_} (h:rU P f=true) (args:Array M'):ag P (callFunc f args):=by
 unfold rU at h
 split at h
 ·rename_i fn xF
  simp only [T_,bne_iff_ne,ne_eq] at h
  obtain ⟨hb,hn⟩:=h
  refine bE (s':=Sem.pure (.enter f args)) (fun w es=> ?_) (bo _)
  show ((Sem.program Sem.pure).bind _).runT P w es=_
  simp only [Sem.bind,Sem.runT,xF]
  have h1:(fn.name== "runtime.NumGoroutine")=false:=by simpa using hn
  have h2:fn.body.isNone=false:=by cases hx:fn.body<;>simp [hx] at hb ⊢
  simp only [h1,h2,qp,if_false]
  rfl
 ·cases h
theorem yt (ts:Array Q') (u:Q') (a:Array M'):ag P (Builtin.clear_ ts u a):=by
 unfold Builtin.clear_
 split
 ·rename_i t x heq
  refine bf t fun d hd=> ?_
  split
  ·exact aj _
  ·exact aj _
  ·exact aj _
  ·rename_i r
   show ag P ((getObj r).bind _)
   refine cJ r (fun o ho=> ?_) (fun o o' hb=>by cases hb<;>first|exact .inl rfl|exact .inr fun _ _ h=>h)
   split
   ·rename_i es clock
    refine tM ?_ (tD (r:=r) (o:=.map es clock) rfl)
    exact mK (jN r) (jU r _ rfl rfl rfl rfl) fun _=>(aj _).c
   ·exact (xy _).c
  ·exact af (lO _) fun _=>af (eE _ _ _) fun _=>aj _
  ·exact xy _
 ·exact xy _
def Ds {α:Type} (P:U') (s:Sem α):Prop:=∀wl w es,bI wl wl->bI wl w->LM (s.runT P wl es).1/\∀a w₁,(s.runT P wl es).1=.ok a w₁->(∀i,wl.drawn+i<(s.runT P wl es).1.wd.drawn->w.tape (w.drawn+i)=wl.tape (wl.drawn+i))->∃w',Same P s wl w es w'
theorem ag.fe {s:Sem α} (h:ag P s):Ds P s:=fun wl w es _ hw=>⟨(h wl w es trivial hw).1,fun a w₁ e hs=>(h wl w es trivial hw).2 (by rw [e];trivial) hs⟩
theorem uq:∀(a:Ask α) (w:J'),(w.ask a).2.heap=w.heap/\(w.ask a).2.output=w.output
 | .done _,_=>⟨rfl,rfl⟩
 | .ask what range k,w=>by
   unfold World.ask
   simp only []
   split
   ·exact uq (k 0) w
   ·exact uq (k _) _
theorem GX (w:J') (c:Sys):(w.sys c).2.heap=w.heap/\(w.sys c).2.output=w.output:=by
 have h:=uq (Kernel.perform c w.os) w
 unfold World.sys
 split
 ·exact ⟨rfl,rfl⟩
 ·rename_i r os w1 e
  rw [e] at h
  exact h
theorem IK (h:bI w w) (c:Sys):bI (w.sys c).2 (w.sys c).2:=by
 have e:=(GX w c).1
 exact ⟨rfl,fun b o o' h1 h2=>h.obj b o o' (by rw [<-e];exact h1) (by rw [<-e];exact h2),rfl,rfl,fun b o h1=>h.ic b o (by rw [<-e];exact h1)⟩
theorem Ah (w:J') (es:Array Event) (hw:bI w w):(∃n w' es',Instr.panicnil.runT P w es=(.ok n w',es')/\bI w' w')\/∃m w' es',Instr.panicnil.runT P w es=(.halt (.stuck m) w',es'):=by
 have hs:=IK hw .env
 unfold Instr.panicnil
 show (∃n w' es',((Sem.sys .env Sem.pure).bind _).runT P w es=_/\_)\/∃m w' es',((Sem.sys .env Sem.pure).bind _).runT P w es=_
 simp only [Sem.bind,Sem.runT]
 generalize (w.sys .env).1=r
 cases r with
 |strings env=>exact .inl ⟨_,_,_,rfl,hs⟩
 |_=>exact .inr ⟨"strings expected",_,_,rfl⟩
theorem Eg (e:RuntimeError):∀(w:J') (a:M') (w':J'),(runtimePanic e:Sem M').run P w≠.ok a w':=by
 have hb:∀{β γ:Type} {s:Sem β} {f:β->Sem γ},(∀b w a w',(f b).run P w≠.ok a w')->∀w a w',(s>>=f).run P w≠.ok a w':=fun {β γ s f} h w a w' hx=>by
  change (s.bind f).run P w=_ at hx
  rw [Sem.run_bind'] at hx
  cases hs:s.run P w with
  |ok b w1=>rw [hs] at hx;exact h b w1 a w' hx
  |halt hh w1=>rw [hs] at hx;cases hx
 have hh:∀{γ:Type} (h:Halt) (w:J') (a:γ) (w':J'),(Sem.halt h:Sem γ).run P w≠.ok a w':=fun h w a w' hx=>by cases hx
 unfold runtimePanic
 refine hb fun p=> ?_
 cases e<;>first
  |exact hh _
  |exact hb fun _=>hb fun _=>hh _
theorem Cr (x:M'):Ds P (Instr.panic x>>=fun a=>Pure.pure (Next.value a)):=by
 have key:∀wl es,bI wl wl->∃h w' es',(Instr.panic x).runT P wl es=(.halt h w',es')/\pL h:=by
  intro wl es hw
  unfold Instr.panic
  split
  ·exact ⟨_,_,_,rfl,trivial⟩
  ·have e:=Sem.runT_bind' P Instr.panicnil (fun n=>if (n==1)=true then goPanic .nilIface else (runtimePanic .panicNil:Sem M')) wl es
   change ∃h w' es',(Instr.panicnil.bind _).runT P wl es=(.halt h w',es')/\pL h
   rw [e]
   rcases Ah wl es hw with ⟨n,w',es',h1,h2⟩|⟨m,w',es',h1⟩
   ·rw [h1]
    simp only []
    split
    ·exact ⟨_,_,_,rfl,trivial⟩
    ·have h3:=((yz (P:=P) (α:=M') .panicNil) w' w' es' trivial h2).1
     have h4:=Eg (P:=P) .panicNil w'
     cases hr:(runtimePanic .panicNil:Sem M').runT P w' es' with
     |mk r aCw=>
      rw [hr] at h3
      cases r with
      |ok a w2=>exact absurd (by rw [<-Sem.runT_fst P _ w' es',hr]) (h4 a w2)
      |halt h w2=>exact ⟨h,w2,aCw,rfl,h3⟩
   ·rw [h1]
    exact ⟨_,_,_,rfl,trivial⟩
  ·exact ⟨_,_,_,rfl,trivial⟩
 intro wl w es cf _
 obtain ⟨h,w',es',h1,h2⟩:=key wl es cf
 have e:=Sem.runT_bind' P (Instr.panic x) (fun a=>(Pure.pure (Next.value a):Sem Next)) wl es
 have e2:(Instr.panic x>>=fun a=>(Pure.pure (Next.value a):Sem Next)).runT P wl es=(.halt h w',es'):=by
  change ((Instr.panic x).bind _).runT P wl es=_
  rw [e,h1]
 rw [e2]
 exact ⟨h2,fun a w₁ e=>by cases e⟩
theorem Aw {ok:w_->Bool} {c:Call} (h:En P ok c=true) (t:Q') (a:Act):ag P (do let d <-resolve a.eval c t;invoke d.target d.args):=by
 obtain ⟨callee,args,argTypes⟩:=c
 cases callee with
 |value f=>
  cases f with
  |func f=>
   have hf:rU P f=true:=(Bool.and_eq_true_iff.1 h).2
   exact bE (s':=callFunc f ((#[]++args.map a.eval)++#[])) (fun _ _=>rfl) (tL hf _)
  |_=>cases h
 |invoke r n=>cases h
 |builtin b=>
  cases b with
  |append=>exact bE (s':=(Builtin.append_ argTypes t (args.map a.eval)>>=fun v=>Pure.pure (Next.value v))) (fun _ _=>rfl) (af (xh _ _ _) fun _=>aj _)
  |len=>exact bE (s':=(Builtin.len_ argTypes t (args.map a.eval)>>=fun v=>Pure.pure (Next.value v))) (fun _ _=>rfl) (af (Co _ _ _) fun _=>aj _)
  |cap=>exact bE (s':=(Builtin.cap_ argTypes t (args.map a.eval)>>=fun v=>Pure.pure (Next.value v))) (fun _ _=>rfl) (af (Cp _ _ _) fun _=>aj _)
  |copy=>exact bE (s':=(Builtin.copy_ argTypes t (args.map a.eval)>>=fun v=>Pure.pure (Next.value v))) (fun _ _=>rfl) (af (Au _ _ _) fun _=>aj _)
  |min=>exact bE (s':=(Builtin.min_ argTypes t (args.map a.eval)>>=fun v=>Pure.pure (Next.value v))) (fun _ _=>rfl) (af (Cm _ _ _) fun _=>aj _)
  |clear=>exact bE (s':=(Builtin.clear_ argTypes t (args.map a.eval)>>=fun v=>Pure.pure (Next.value v))) (fun _ _=>rfl) (af (yt _ _ _) fun _=>aj _)
  |max=>exact bE (s':=(Builtin.max_ argTypes t (args.map a.eval)>>=fun v=>Pure.pure (Next.value v))) (fun _ _=>rfl) (af (Cn _ _ _) fun _=>aj _)
  |delete=>exact bE (s':=(Builtin.delete_ argTypes t (args.map a.eval)>>=fun v=>Pure.pure (Next.value v))) (fun _ _=>rfl) (af (xf (fun u hu=>by simp only [En,hu] at h;exact h) _ _) fun _=>aj _)
  |_=>cases h
theorem jh {ok:w_->Bool} {o:Oper} (h:fN P ok o=true) (a:Act):Ds P (V' a.eval o):=by
 obtain ⟨dst,op,type,pos,after,guard⟩:=o
 cases op with
 |panic x=>exact Cr _
 |move x=>exact ag.fe<|aj _
 |assign x=>exact ag.fe<|aj _
 |pick c x y=>exact ag.fe<|af (lj _) fun b=>aj _
 |alloc e=>exact ag.fe<|af (Vp _ _ _) fun _=>aj _
 |box e x=>exact ag.fe<|af (Cq _ _) fun _=>aj _
 |build t ps=>exact ag.fe<|af (yv _ _) fun _=>aj _
 |buildSlice t n ps=>exact ag.fe<|af (qZ _ _ _) fun _=>aj _
 |load t x=>exact ag.fe<|af (xb _ _) fun _=>aj _
 |store t x y=>exact ag.fe<|af (uZ _ _ _) fun _=>aj _
 |unOp op t x=>exact ag.fe<|af (yl _ _) fun _=>aj _
 |makeFunc f x y=>exact ag.fe<|af (aj _) fun _=>aj _
 |makeMap t r=>exact ag.fe<|af (vf _ _) fun _=>aj _
 |makeChan t s=>exact ag.fe<|af (tI _ _) fun _=>aj _
 |makeSlice t l c=>exact ag.fe<|af (r9 _ _ _) fun _=>aj _
 |slice t x l hh m=>exact ag.fe<|af (vc _ _ _ _ _) fun _=>aj _
 |fieldAddr t x f=>exact ag.fe<|af (vm _ _ _) fun _=>aj _
 |field t x f=>exact ag.fe<|af (yr _ _ _) fun _=>aj _
 |indexAddr t x i=>exact ag.fe<|af (vh _ _ _) fun _=>aj _
 |index t x i=>exact ag.fe<|af (yq _ _ _) fun _=>aj _
 |range t x=>exact ag.fe<|af (yo _ _) fun _=>aj _
 |extract x i=>exact ag.fe<|af (vn _ _) fun _=>aj _
 |makeInterface t x=>exact ag.fe<|af (oC _ _) fun _=>aj _
 |lookup t x i b=>exact ag.fe<|af (xa h _ _ _) fun _=>aj _
 |mapUpdate t m k v=>exact ag.fe<|af (lQ h _ _ _) fun _=>aj _
 |insert t m k v=>exact ag.fe<|af (lQ h _ _ _) fun _=>aj _
 |binOp op t x y u=>exact ag.fe<|af (af (vq _ _ _ _ _ _) fun _=>yw h a) fun _=>aj _
 |convert x y z=>exact ag.fe<|af (vu h _) fun _=>aj _
 |nilCheck x=>
  refine ag.fe ?_
  unfold V'
  simp only []
  generalize a.eval x=v
  all_goals exact nt
 |call c=>exact ag.fe<|Aw h _ _
 |ready g=>exact absurd h (by simp [fN])
 |waits g=>exact absurd h (by simp [fN])
 |sliceToArrayPointer d x=>exact absurd h (by simp [fN])
 |mapEntry t m k=>exact absurd h (by simp [fN])
 |entryStore t m s v=>exact absurd h (by simp [fN])
 |next i b=>exact absurd h (by simp [fN])
 |entry i=>exact absurd h (by simp [fN])
 |typeAssert x t u b=>exact absurd h (by simp [fN])
 |go c=>exact absurd h (by simp [fN])
 |defer c=>exact absurd h (by simp [fN])
 |send c x=>exact absurd h (by simp [fN])
 |recv t c b=>exact absurd h (by simp [fN])
 |select cs b=>exact absurd h (by simp [fN])
end
section
open Go Go.Conc
def je (P:U') (ok:w_->Bool):Code->Bool
 | .skip| .ret| .label _| .exit _=>true
 | .region _ ops _=>ops.all (fN P ok)
 | .seq a b=>je P ok a&&je P ok b
 | .cond _ a b=>je P ok a&&je P ok b
 | .block _ b| .loop b=>je P ok b
 |_=>false
def mf (P:U') (ok:w_->Bool):x_->Bool
 | .code c=>je P ok c
 | .inBlock _=>true
 | .inLoop b=>je P ok b
 | .inRegion ops _=>ops.all (fN P ok)
 |_=>false
def gM (P:U') (ok:w_->Bool):Prop:=∀f fn,ok f=true->P.funcs[f]?=some fn->∀c,fn.body=some c->je P ok c=true
structure OkFr (P:U') (ok:w_->Bool) (fr:Y'):Prop where
 mode:fr.mode=.run\/fr.mode=.returning
 defers:fr.defers=[]
 kind:fr.kind=.normal
 round:fr.roundOf=none
 todo:∀it∈fr.todo,mf P ok it=true
 fn:∃fn,P.funcs[fr.fn]?=some fn
variable {P:U'}
theorem OkFr.bare {ok:w_->Bool} {fr:Y'} (h:OkFr P ok fr):fr.defers=[]/\(fr.mode=.run\/fr.mode=.returning)/\∃fn,P.funcs[fr.fn]?=some fn:=⟨h.defers,h.mode,h.fn⟩
structure Bw (P:U') (ok:w_->Bool) (fr:Y'):Prop extends OkFr P ok fr where
 some:fr.todo≠[]
def ext (t:List x_) (fr:Y'):Y':={fr with todo:=fr.todo++t}
theorem ext_nil (fr:Y'):ext [] fr=fr:=by cases fr;simp [ext]
@[simp] theorem RN (t:List x_) (fr:Y'):(ext t fr).fn=fr.fn:=rfl
@[simp] theorem VE (t:List x_) (fr:Y'):(ext t fr).tmps=fr.tmps:=rfl
@[simp] theorem KZ (t:List x_) (fr:Y'):(ext t fr).mode=fr.mode:=rfl
@[simp] theorem VF (t:List x_) (fr:Y'):(ext t fr).kind=fr.kind:=rfl
@[simp] theorem E4 (t:List x_) (fr:Y'):(ext t fr).defers=fr.defers:=rfl
@[simp] theorem SN (t:List x_) (fr:Y'):(ext t fr).roundOf=fr.roundOf:=rfl
@[simp] theorem VD (t:List x_) (fr:Y'):(ext t fr).todo=fr.todo++t:=rfl
def tl (K:List x_):List Y'->List x_
 |[]=>K
 |_::_=>[]
def AE (K:List x_):List Y'->List Y'
 |[]=>[]
 |f::X=>ext (tl K X) f::AE K X
theorem aAa (X:List Y'):tl [] X=[]:=by cases X<;>rfl
theorem xO:∀X:List Y',AE [] X=X
 |[]=>rfl
 |f::X=>by simp [AE,aAa,ext_nil,xO X]
def fR:List x_:=[.code (.refuse "")]
theorem rz {t:List x_} {id:Nat}:∀{k k':List x_},exitTo id k=some k'->exitTo id (k++t)=some (k'++t)
 |[],k',h=>by simp [exitTo] at h
 |x::k,k',h=>by
  cases x<;>simp only [exitTo,List.cons_append] at h ⊢<;>first
   |exact rz h
   |(split at h
     ·rename_i hc;cases h;simp [hc]
     ·rename_i hc;simp only [hc,if_false];exact rz h)
theorem Mt {t:List x_} {id:Nat} (ht:exitTo id t=none):∀{k:List x_},exitTo id k=none->exitTo id (k++t)=none
 |[],h=>ht
 |x::k,h=>by
  cases x<;>simp only [exitTo,List.cons_append] at h ⊢<;>first
   |exact Mt ht h
   |(split at h
     ·cases h
     ·rename_i hc;simp only [hc,if_false];exact Mt ht h)
theorem nV {t:List x_} {fr:Y'} (h:fr.todo≠[]) (v:M'):(ext t fr).finish v=ext t (fr.finish v):=by
 obtain ⟨fn,tmps,todo,defers,mode,kind,roundOf⟩:=fr
 cases todo with
 |nil=>exact absurd rfl h
 |cons it k=>
  cases it<;>first
   |rfl
   |(rename_i ops td;cases td<;>rfl)
def Sync (wl w:J') (top:Nat):Prop:=∀i,wl.drawn+i<top->w.tape (w.drawn+i)=wl.tape (wl.drawn+i)
structure Mv (wl w aK w':J') (es:Array Event):Prop where
 weak:bI aK w'
 mono:wl.drawn<=aK.drawn
 drawn:w'.drawn+wl.drawn=w.drawn+aK.drawn
 upd:oA wl w w'
 gR:oA wl wl aK
 evs:∀e∈es,vR wl aK.heap.size e
 heap:wl.heap=w.heap->aK.heap=w'.heap
variable {wl w:J'}
theorem Mv.still (h:bI wl w):Mv wl w wl w #[]:=⟨h,C_ _,rfl,oA.refl _ _,oA.refl _ _,by simp,fun h=>h⟩
def U7 (P:U') (KS:List x_->Prop) (fr:Y') (X:List Y') (wl:J') (kF:Y') (X':List Y') (aK:J') (es:Array Event):Prop:=
 ∀(K:List x_) (main:Bool) (cs:List Y') (w:J'),KS K->bI wl w->Sync wl w aK.drawn->∃w',stepG P main (G (ext (tl K X) fr) (AE K X++cs)) w=.go (G (ext (tl K X') kF) (AE K X'++cs)) w' es/\Mv wl w aK w' es
theorem xN {e:Event} (g:Bool × Array Event->Event->Bool × Array Event) (hg:∀a x,(g a x).2=a.2\/(g a x).2=a.2.push x):∀(l:List Event) (a:Bool × Array Event),e∈(l.foldl g a).2->e∈a.2\/e∈l
 |[],a,h=>.inl h
 |x::l,a,h=>by
  rw [List.foldl_cons] at h
  rcases xN g hg l (g a x) h with h1|h1
  ·rcases hg a x with hp|hp
   ·exact .inl (hp▸h1)
   ·rw [hp,Array.mem_push] at h1
    rcases h1 with h1|rfl
    ·exact .inl h1
    ·exact .inr (by simp)
  ·exact .inr (by simp [h1])
variable {fn:w_} {es:Array Event}
theorem Ja {e:Event} (h:e∈seen P fn es):e∈es:=by
 unfold seen at h
 simp only [] at h
 rw [<-Array.foldl_toList] at h
 rcases xN _ (by
  rintro ⟨q,kept⟩ x
  simp only []
  split
  ·exact .inl rfl
  ·simp only []
   split
   ·exact .inl rfl
   ·exact .inr rfl) _ _ h with h|h
 ·simp at h
 ·simpa using h
def Plain (P:U') (ok:w_->Bool):Next->Prop
 | .value _| .skip=>True
 | .enter f _=>ok f=true/\rU P f=true
 |_=>False
def Yields {α:Type} (P:U') (s:Sem α) (Q:α->Prop):Prop:=∀w a w',s.run P w=.ok a w'->Q a
variable {α β:Type}
theorem xr {s:Sem α} {f:α->β} {Q:β->Prop} (h:∀a,Q (f a)):Yields P (s>>=fun a=>Pure.pure (f a)) Q:=by
 intro w b w' hb
 change (s.bind _).run P w=_ at hb
 rw [Sem.run_bind'] at hb
 cases hs:s.run P w with
 |ok a w1=>
  rw [hs] at hb
  have:(Result.ok (f a) w1:Result β)=.ok b w':=hb
  cases this;exact h a
 |halt hh w1=>rw [hs] at hb;cases hb
variable {Q:α->Prop}
theorem oM {a:α} (h:Q a):Yields P (Sem.pure a) Q:=fun _ _ _ hb=>by cases hb;exact h
theorem rJ {a:α} (h:Q a):Yields P (Pure.pure a) Q:=oM h
variable {f:α->Sem β}
theorem lL {s:Sem α} {Q:β->Prop} (h:∀a,Yields P (f a) Q):Yields P (s>>=f) Q:=by
 intro w b w' hb
 change (s.bind _).run P w=_ at hb
 rw [Sem.run_bind'] at hb
 cases hs:s.run P w with
 |ok a w1=>rw [hs] at hb;exact h a w1 b w' hb
 |halt hh w1=>rw [hs] at hb;cases hb
theorem uv {hh:Halt}:Yields P (Sem.halt hh) Q:=fun _ _ _ hb=>by cases hb
theorem zO (e:RuntimeError) (Q:α->Prop):Yields P (runtimePanic e) Q:=by
 unfold runtimePanic
 refine lL fun p=> ?_
 cases e<;>first
  |exact uv
  |exact lL fun _=>lL fun _=>uv
theorem Aa {f:w_} (h:rU P f=true) (args:Array M') (w:J'):(callFunc f args).run P w=.ok (.enter f args) w:=by
 unfold rU at h
 split at h
 ·rename_i fn xF
  simp only [T_,bne_iff_ne,ne_eq] at h
  obtain ⟨hb,hn⟩:=h
  show ((Sem.program Sem.pure).bind _).run P w=_
  simp only [Sem.bind,Sem.run,xF]
  have h1:(fn.name== "runtime.NumGoroutine")=false:=by simpa using hn
  have h2:fn.body.isNone=false:=by cases hx:fn.body<;>simp [hx] at hb ⊢
  simp only [h1,h2,qp,if_false]
  rfl
 ·cases h
theorem Vo {ok:w_->Bool} {o:Oper} (h:fN P ok o=true) (a:Act):Yields P (V' a.eval o) (Plain P ok):=by
 obtain ⟨dst,op,type,pos,after,guard⟩:=o
 cases op with
 |move x=>exact oM trivial
 |assign x=>exact oM trivial
 |pick c x y=>exact xr (fun _=>trivial)
 |alloc e=>exact xr (fun _=>trivial)
 |box e x=>exact xr (fun _=>trivial)
 |build t ps=>exact xr (fun _=>trivial)
 |buildSlice t n ps=>exact xr (fun _=>trivial)
 |load t x=>exact xr (fun _=>trivial)
 |unOp op t x=>exact xr (fun _=>trivial)
 |makeFunc f x y=>exact xr (fun _=>trivial)
 |makeMap t r=>exact xr (fun _=>trivial)
 |makeChan t s=>exact xr (fun _=>trivial)
 |makeSlice t l c=>exact xr (fun _=>trivial)
 |slice t x l hh m=>exact xr (fun _=>trivial)
 |fieldAddr t x f=>exact xr (fun _=>trivial)
 |field t x f=>exact xr (fun _=>trivial)
 |indexAddr t x i=>exact xr (fun _=>trivial)
 |index t x i=>exact xr (fun _=>trivial)
 |range t x=>exact xr (fun _=>trivial)
 |extract x i=>exact xr (fun _=>trivial)
 |makeInterface t x=>exact xr (fun _=>trivial)
 |lookup t x i b=>exact xr (fun _=>trivial)
 |binOp op t x y u=>exact xr (fun _=>trivial)
 |convert x y z=>exact xr (fun _=>trivial)
 |store t x y=>exact xr (fun _=>trivial)
 |mapUpdate t m k v=>exact xr (fun _=>trivial)
 |insert t m k v=>exact xr (fun _=>trivial)
 |ready g=>exact absurd h (by simp [fN])
 |waits g=>exact absurd h (by simp [fN])
 |sliceToArrayPointer d x=>exact absurd h (by simp [fN])
 |mapEntry t m k=>exact absurd h (by simp [fN])
 |entryStore t m s v=>exact absurd h (by simp [fN])
 |next i b=>exact absurd h (by simp [fN])
 |entry i=>exact absurd h (by simp [fN])
 |typeAssert x t u b=>exact absurd h (by simp [fN])
 |go c=>exact absurd h (by simp [fN])
 |defer c=>exact absurd h (by simp [fN])
 |panic x=>exact xr (fun _=>trivial)
 |send c x=>exact absurd h (by simp [fN])
 |recv t c b=>exact absurd h (by simp [fN])
 |select cs b=>exact absurd h (by simp [fN])
 |nilCheck x=>
  show Yields P ((match a.eval x with
   | .pointer none| .nilIface| .nilFunc=>runtimePanic .nilDeref
   | .func (.method name) first captured=>
     match (first[0]?:Option M') with
     |some .nilIface=>runtimePanic .nilDeref
     |some (.iface t w)=>do
      if (<-nilAhead ((<-program).types.size+Made.depth) t w name) !=some false then
       unsupported (.noEntry "op/nilCheck.the method's receiver behind this interface value is a nil pointer, or cannot be seen to be none, and the arguments act or may panic (ledger 612)")
      pure (.value (.func (.method name) first captured))
     |_=>pure (.value (.func (.method name) first captured))
   |x=>pure (.value x)):Sem Next) _
  repeat' first
   |with_reducible exact zO _ _
   |with_reducible exact rJ trivial
   |with_reducible refine lL fun _=> ?_
   |split
  all_goals exact rJ trivial
 |call c=>
  obtain ⟨callee,args,argTypes⟩:=c
  cases callee with
  |value f=>
   cases f with
   |func f=>
    have hf:(ok f&&rU P f)=true:=h
    obtain ⟨h1,h2⟩:=Bool.and_eq_true_iff.1 hf
    intro w n w' hn
    have e:(V' a.eval {dst:=dst,op:=Op.call {callee:=Callee.value (Operand.func f),args:=args,argTypes:=argTypes},type:=type,pos:=pos,after:=after,guard:=guard}).run P w=(callFunc f ((#[]++args.map a.eval)++#[])).run P w:=rfl
    rw [e,Aa h2] at hn
    cases hn
    exact ⟨h1,h2⟩
   |_=>cases h
  |invoke r n=>cases h
  |builtin b=>
   cases b with
   |append=>exact xr (s:=Builtin.append_ argTypes type (args.map a.eval)) (fun _=>trivial)
   |len=>exact xr (s:=Builtin.len_ argTypes type (args.map a.eval)) (fun _=>trivial)
   |cap=>exact xr (s:=Builtin.cap_ argTypes type (args.map a.eval)) (fun _=>trivial)
   |copy=>exact xr (s:=Builtin.copy_ argTypes type (args.map a.eval)) (fun _=>trivial)
   |min=>exact xr (s:=Builtin.min_ argTypes type (args.map a.eval)) (fun _=>trivial)
   |clear=>exact xr (s:=Builtin.clear_ argTypes type (args.map a.eval)) (fun _=>trivial)
   |max=>exact xr (s:=Builtin.max_ argTypes type (args.map a.eval)) (fun _=>trivial)
   |delete=>exact xr (s:=Builtin.delete_ argTypes type (args.map a.eval)) (fun _=>trivial)
   |_=>cases h
theorem wU {ok:w_->Bool} (hp:gM P ok) {f:w_} (h1:ok f=true) (h2:rU P f=true) (args:Array M'):OkFr P ok (fZ P f args .normal):=by
 unfold rU at h2
 split at h2
 ·rename_i fn xF
  simp only [T_] at h2
  refine ⟨.inl rfl,rfl,rfl,rfl, ?_,⟨fn,xF⟩⟩
  intro it HF
  simp only [fZ,xF,Option.bind_some,List.mem_singleton] at HF
  subst HF
  cases hb:fn.body with
  |none=>simp [hb] at h2
  |some c=>exact hp f fn h1 xF c hb
 ·cases h2
variable {i:Nat}
theorem Hn {ok:w_->Bool} {ops:Array Oper} {td:List Nat} (h:mf P ok (.inRegion ops td)=true) {o:Oper} (ho:ops[i]?=some o):fN P ok o=true:=by
 have h':ops.all (fN P ok)=true:=h
 rw [Array.all_eq_true] at h'
 obtain ⟨hl,he⟩:=Array.getElem?_eq_some_iff.1 ho
 rw [<-he];exact h' i hl
theorem sL (fr:Y'):fr.eval=(⟨fr.tmps,fr.defers⟩:Act).eval:=funext fun x=>by cases x<;>rfl
theorem OkFr.S5 {ok:w_->Bool} {fr:Y'} (h:OkFr P ok fr) {k:List x_} (hk:∀it∈k,mf P ok it=true):OkFr P ok {fr with todo:=k}:=⟨h.mode,h.defers,h.kind,h.round,hk,h.fn⟩
theorem ry {P:U'} {ok:w_->Bool} {id:Nat}:∀{k k':List x_},exitTo id k=some k'->(∀it∈k,mf P ok it=true)->∀it∈k',mf P ok it=true
 |[],k',h,_=>by simp [exitTo] at h
 |x::k,k',h,hk=>by
  have yL:∀it∈k,mf P ok it=true:=fun it HF=>hk it (by simp [HF])
  cases x<;>simp only [exitTo] at h<;>first
   |exact ry h yL
   |(split at h
     ·cases h;exact yL
     ·exact ry h yL)
theorem OkFr.finish {ok:w_->Bool} {fr:Y'} (h:OkFr P ok fr) (v:M'):OkFr P ok (fr.finish v):=by
 obtain ⟨h1,h2,h3,h4,h5,h6⟩:=h
 unfold Frame.finish
 split
 ·rename_i ops i rest k hk
  refine ⟨h1,h2,h3,h4, ?_,h6⟩
  intro it HF
  rcases List.mem_cons.1 HF with rfl|HF
  ·exact h5 (.inRegion ops (i::rest)) (by rw [hk];simp)
  ·exact h5 it (by rw [hk];simp [HF])
 ·rename_i l k hk
  have:=h5 (.inRangeFunc l) (by rw [hk];simp)
  cases this
 ·rename_i k hk
  have:=h5 .beginRound (by rw [hk];simp)
  cases this
 ·rename_i d w r s k hk
  have:=h5 (.call d w r s) (by rw [hk];simp)
  cases this
 ·rename_i r a k hk
  have:=h5 _ (hk▸List.mem_cons_self)
  cases this
 ·exact ⟨h1,h2,h3,h4,h5,h6⟩
variable {ok:w_->Bool} {KS:List x_->Prop} {K₀:List x_}
inductive Dv (P:U') (ok:w_->Bool) (KS:List x_->Prop) (K₀:List x_) (fr:Y') (X base:List Y') (wl:J'):GStep->Prop
 |nice (kF:Y') (X':List Y') (aK:J') (es:Array Event):OkFr P ok kF->(∀x∈X',Bw P ok x)->U7 P KS fr X wl kF X' aK es->Dv P ok KS K₀ fr X base wl (.go (G (ext (tl K₀ X') kF) (AE K₀ X'++base)) aK es)
 |raised (chain:List PanicEntry) (aK:J') (es:Array Event):Dv P ok KS K₀ fr X base wl (.go (G {ext (tl K₀ X) fr with mode:=.panicking chain} (AE K₀ X++base)) aK es)
 |ended (o:Outcome) (w:J') (es:Array Event):Dv P ok KS K₀ fr X base wl (.ended o w es)
variable {X:List Y'}
theorem lz {fr:Y'} {base:List Y'} {s:GStep} (h:∃o w es,s=.ended o w es):Dv P ok KS K₀ fr X base wl s:=by
 obtain ⟨o,w,es,rfl⟩:=h
 exact .ended o w es
variable {kF:Y'}
theorem Cl {fr:Y'} (h:∀K main cs w,KS K->stepG P main (G (ext (tl K X) fr) (AE K X++cs)) w=.go (G (ext (tl K X) kF) (AE K X++cs)) w #[]):U7 P KS fr X wl kF X wl #[]:=
 fun K main cs w hK hw _=>⟨w,h K main cs w hK,Mv.still hw⟩
theorem cN (hK:KS K₀) {fr:Y'} {base:List Y'} (hX:∀x∈X,Bw P ok x) (hf:OkFr P ok kF) (h:∀K main cs w,KS K->stepG P main (G (ext (tl K X) fr) (AE K X++cs)) w=.go (G (ext (tl K X) kF) (AE K X++cs)) w #[]):
 Dv P ok KS K₀ fr X base wl (stepG P true (G (ext (tl K₀ X) fr) (AE K₀ X++base)) wl):=by
 rw [h K₀ true base wl hK]
 exact .nice kF X wl #[] hf hX (Cl h)
theorem oS {s:Sem α} (hs:ag P s) (hw:bI wl w) {r:Result α} (hr:s.runT P wl #[]=(r,es)) (hf:rE r) (C6:Sync wl w r.wd.drawn):
 ∃w',s.runT P w #[]=(r.D6 w',es)/\Mv wl w r.wd w' es:=by
 obtain ⟨w',h⟩:=(hs wl w #[] trivial hw).2 (by rw [hr];exact hf) (by rw [hr];exact C6)
 have h1:=h.run;have h2:=h.weak;have h3:=h.mono;have h4:=h.drawn;have h5:=h.upd;have h6:=h.gR;have h7:=h.evs;have h8:=h.heap
 rw [hr] at h1 h2 h3 h4 h6 h7 h8
 refine ⟨w',h1,h2,h3,h4,h5,h6,fun e he=> ?_,h8⟩
 obtain ⟨l,hl,hq⟩:=h7
 simp only at hl
 rw [hl] at he
 simp at he
 exact hq e he
theorem Ck {s:Sem α} (hs:Ds P s) (hw:bI wl wl) {r:Result α} (hr:s.runT P wl #[]=(r,es)):LM r:=by
 have:=(hs wl wl #[] hw hw).1
 rw [hr] at this;exact this
variable {w₁:J'}
theorem pO {s:Sem α} (hs:Ds P s) (hw:bI wl w) {a:α} (hr:s.runT P wl #[]=(.ok a w₁,es)) (C6:Sync wl w w₁.drawn):
 ∃w',s.runT P w #[]=(.ok a w',es)/\Mv wl w w₁ w' es:=by
 obtain ⟨w',h⟩:=(hs wl w #[] hw.self hw).2 a w₁ (by rw [hr]) (by rw [hr];exact C6)
 have h1:=h.run;have h2:=h.weak;have h3:=h.mono;have h4:=h.drawn;have h5:=h.upd;have h6:=h.gR;have h7:=h.evs;have h8:=h.heap
 rw [hr] at h1 h2 h3 h4 h6 h7 h8
 refine ⟨w',h1,h2,h3,h4,h5,h6,fun e he=> ?_,h8⟩
 obtain ⟨l,hl,hq⟩:=h7
 simp only at hl
 rw [hl] at he
 simp at he
 exact hq e he
variable {aK w':J'}
theorem Mv.seen (h:Mv wl w aK w' es):Mv wl w aK w' (seen P fn es):=⟨h.weak,h.mono,h.drawn,h.upd,h.gR,fun e he=>h.evs e (Ja he),h.heap⟩
theorem Lw {ok:w_->Bool} {KS:List x_->Prop} (hp:gM P ok) (hK:KS K₀) (OY:∀id,exitTo id K₀=none) {fr:Y'} {base:List Y'} (AQ:bI wl wl) (hf:OkFr P ok fr) (hX:∀x∈X,Bw P ok x) (hm:fr.mode=.run)
 (hE:X=[]->fr.todo=[]->∀K,KS K->K=[]):
 Dv P ok KS K₀ fr X base wl (stepG P true (G (ext (tl K₀ X) fr) (AE K₀ X++base)) wl):=by
 have hX0:∀id,exitTo id (tl K₀ X)=none:=fun id=>by cases X with
  |nil=>exact OY id
  |cons x X=>rfl
 have hT:=hf.todo
 have ZA:=hf
 obtain ⟨fn,tmps,todo,defers,mode,kind,roundOf⟩:=fr
 obtain ⟨-, h2,h3,h4, -, h6⟩:=ZA
 simp only at h2 h3 h4 hm hT hE
 subst h2 h3 h4 hm
 have Iq:∀k:List x_,(∀it∈k,mf P ok it=true)->OkFr P ok {fn:=fn,tmps:=tmps,todo:=k,defers:=[],mode:=.run,kind:=.normal,roundOf:=none}:=fun k hk=>hf.S5 hk
 have Ot:OkFr P ok {fn:=fn,tmps:=tmps,todo:=todo,defers:=[],mode:=.returning,kind:=.normal,roundOf:=none}:=⟨.inr rfl,rfl,rfl,rfl,hT,h6⟩
 cases todo with
 |nil=>
  have ht:∀K,KS K->tl K X=[]:=fun K Vy=>by cases X with
   |nil=>exact hE rfl rfl K Vy
   |cons x X=>rfl
  exact cN hK hX Ot (fun K main cs w Vy=>by simp [stepG,stepG.exec,G,ext,ht K Vy])
 |cons it k=>
  have hk:∀x∈k,mf P ok x=true:=fun x hx=>hT x (by simp [hx])
  have hi:mf P ok it=true:=hT it (by simp)
  cases it with
  |inBlock id=>exact cN hK hX (Iq k hk) (fun K main cs w _=>by simp [stepG,stepG.exec,G,ext])
  |inLoop b=>exact cN hK hX (Iq (.code b::.inLoop b::k) (by intro x hx;simp only [R_] at hx;rcases hx with rfl|rfl|hx;exact hi;exact hi;exact hk x hx)) (fun K main cs w _=>by simp [stepG,stepG.exec,G,ext])
  |code c=>
   cases c with
   |skip=>exact cN hK hX (Iq k hk) (fun K main cs w _=>by simp [stepG,stepG.exec,G,ext])
   |label l=>exact cN hK hX (Iq k hk) (fun K main cs w _=>by simp [stepG,stepG.exec,G,ext])
   |ret=>exact cN hK hX Ot (fun K main cs w _=>by simp [stepG,stepG.exec,G,ext])
   |seq x y=>
    have BF:(je P ok x&&je P ok y)=true:=hi
    obtain ⟨h1,h2⟩:=Bool.and_eq_true_iff.1 BF
    exact cN hK hX (Iq (.code x::.code y::k) (by intro z hz;simp only [R_] at hz;rcases hz with rfl|rfl|hz;exact h1;exact h2;exact hk z hz)) (fun K main cs w _=>by simp [stepG,stepG.exec,G,ext])
   |block id b=>exact cN hK hX (Iq (.code b::.inBlock id::k) (by intro z hz;simp only [R_] at hz;rcases hz with rfl|rfl|hz;exact hi;rfl;exact hk z hz)) (fun K main cs w _=>by simp [stepG,stepG.exec,G,ext])
   |loop b=>exact cN hK hX (Iq (.code b::.inLoop b::k) (by intro z hz;simp only [R_] at hz;rcases hz with rfl|rfl|hz;exact hi;exact hi;exact hk z hz)) (fun K main cs w _=>by simp [stepG,stepG.exec,G,ext])
   |cond cc x y=>
    have BF:(je P ok x&&je P ok y)=true:=hi
    obtain ⟨h1,h2⟩:=Bool.and_eq_true_iff.1 BF
    cases hb:(⟨tmps,[]⟩:Act).eval cc with
    |bool b=>
     exact cN hK hX (Iq (.code (if b then x else y)::k) (by intro z hz;simp only [R_] at hz;rcases hz with rfl|hz;(cases b;exact h2;exact h1);exact hk z hz)) (fun K main cs w _=>by simp [stepG,stepG.exec,G,ext,sL,hb])
    |_=>exact lz (by simp [stepG,stepG.exec,G,ext,sL,hb])
   |exit id=>
    cases he:exitTo id k with
    |some k'=>exact cN hK hX (Iq k' (ry he hk)) (fun K main cs w _=>by simp [stepG,stepG.exec,G,ext,rz he])
    |none=>exact lz (by simp [stepG,stepG.exec,G,ext,Mt (hX0 id) he])
   |region id ops draw=>
    have hr:∀td,mf P ok (.inRegion ops td)=true:=fun td=>hi
    cases draw with
    |false=>exact cN hK hX (Iq (.inRegion ops (List.range ops.size)::k) (by intro z hz;simp only [R_] at hz;rcases hz with rfl|hz;exact hr _;exact hk z hz)) (fun K main cs w _=>by simp [stepG,stepG.exec,G,ext])
    |true=>
     have e:∀K main cs w,stepG P main (G (ext (tl K X) {fn:=fn,tmps:=tmps,todo:=.code (.region id ops true)::k,defers:=[],mode:=.run,kind:=.normal,roundOf:=none}) (AE K X++cs)) w=
      .go (G (ext (tl K X) {fn:=fn,tmps:=tmps,todo:=.inRegion ops (Region.schedule (P.follows .mixedOrders) ops (w.tape w.drawn (.order fn id)))::k,defers:=[],mode:=.run,kind:=.normal,roundOf:=none}) (AE K X++cs)) {w with drawn:=w.drawn+1} #[]:=fun K main cs w=>by
      simp [stepG,stepG.exec,G,ext,choose,Sem.run,Question.forced,Question.cut]
     rw [e]
     refine .nice _ X _ _ (Iq _ (by intro z hz;simp only [R_] at hz;rcases hz with rfl|hz;exact hr _;exact hk z hz)) hX ?_
     intro K main cs w _ hw C6
     obtain ⟨w',h1,h2⟩:=oS (lg (P:=P) (.order fn id)) hw (r:=.ok (wl.tape wl.drawn (.order fn id)) {wl with drawn:=wl.drawn+1}) (es:=#[]) (by rfl) trivial C6
     have h3:(choose (.order fn id)).runT P w #[]=(.ok (w.tape w.drawn (.order fn id)) {w with drawn:=w.drawn+1},#[]):=rfl
     rw [h3] at h1
     have h4:=(Prod.mk.inj h1).1
     simp only [Result.D6,Result.ok.injEq] at h4
     exact ⟨w',by rw [e,h4.1,h4.2],h2⟩
   |_=>cases hi
  |inRegion ops td=>
   cases td with
   |nil=>exact cN hK hX (Iq k hk) (fun K main cs w _=>by simp [stepG,stepG.exec,G,ext])
   |cons i rest=>
    have Zz:=hf.finish
    by_cases hw:((ops[i]?).map (Region.wanted · (yielded ops tmps))).getD false=true
    ·cases ho:ops[i]? with
     |none=>simp [ho] at hw
     |some o=>
      have cK:=Hn hi ho
      obtain ⟨fr,kj⟩:∃fr:Y',({fn:=fn,tmps:=tmps,todo:=.inRegion ops (i::rest)::k,defers:=[],mode:=.run,kind:=.normal,roundOf:=none}:Y')=fr:=⟨_,rfl⟩
      have uO:fr.eval=(⟨tmps,[]⟩:Act).eval:=by rw [<-kj];exact sL _
      have e:∀K main cs w,stepG P main (G (ext (tl K X) fr) (AE K X++cs)) w=stepG.apply P true (ext (tl K X) fr) (AE K X++cs) none (V' (⟨tmps,[]⟩:Act).eval o) w:=fun K main cs w=>by
       have ZC:(ext (tl K X) fr).eval=(⟨tmps,[]⟩:Act).eval:=by rw [<-kj];exact sL _
       rw [<-ZC,<-kj]
       have wh:(Option.map (fun x=>Region.wanted x (yielded ops tmps)) (some o)).getD false=true:=by rw [<-ho];exact hw
       simp [stepG,stepG.exec,stepG.oper,G,Frame.oper?,ho,ext] at wh ⊢
       simp [wh]
      have hne:fr.todo≠[]:=by rw [<-kj];simp
      have Kr:=jh cK (⟨tmps,[]⟩:Act)
      have hyl:=Vo cK (⟨tmps,[]⟩:Act)
      generalize V' (⟨tmps,[]⟩:Act).eval o=s at *
      have Sz:fr.kind=.normal:=by rw [<-kj]
      have aDt:fr.roundOf=none:=by rw [<-kj]
      have YS:∃kk,fr.todo=.inRegion ops (i::rest)::kk:=⟨k,by rw [<-kj]⟩
      rw [kj] at hf Zz
      rw [kj]
      cases hr:s.runT P wl #[] with
      |mk r es=>
       have NL:s.run P wl=r:=by rw [<-Sem.runT_fst P s wl #[],hr]
       cases r with
       |ok n aK=>
        have yd:=hyl wl n aK NL
        have EI:∀w,bI wl w->Sync wl w aK.drawn->∃w',s.runT P w #[]=(.ok n w',es)/\Mv wl w aK w' es:=fun w hw hs=>pO Kr hw hr hs
        cases n with
        |value v=>
         have eg:∀K main cs w w',s.runT P w #[]=(.ok (.value v) w',es)->stepG P main (G (ext (tl K X) fr) (AE K X++cs)) w=.go (G (ext (tl K X) (fr.finish v)) (AE K X++cs)) w' (seen P fr.fn es):=fun K main cs w w' hq=>by
          rw [e,<-nV hne]
          simp only [stepG.apply,if_true,hq]
          simp [Sz,GStep.after,G]
         rw [eg K₀ true base wl aK hr]
         refine .nice _ X _ _ (Zz v) hX fun K main cs w _ hw hs=> ?_
         obtain ⟨w',h1,h2⟩:=EI w hw hs
         exact ⟨w',eg K main cs w w' h1,h2.seen⟩
        |skip=>
         have eg:∀K main cs w w',s.runT P w #[]=(.ok (.skip) w',es)->stepG P main (G (ext (tl K X) fr) (AE K X++cs)) w=.go (G (ext (tl K X) (fr.finish undef)) (AE K X++cs)) w' (seen P fr.fn es):=fun K main cs w w' hq=>by
          rw [e,<-nV hne]
          simp only [stepG.apply,if_true,hq]
          simp [Sz,GStep.after,G]
         rw [eg K₀ true base wl aK hr]
         refine .nice _ X _ _ (Zz _) hX fun K main cs w _ hw hs=> ?_
         obtain ⟨w',h1,h2⟩:=EI w hw hs
         exact ⟨w',eg K main cs w w' h1,h2.seen⟩
        |enter f args=>
         have eg:∀K main cs w w',s.runT P w #[]=(.ok (.enter f args) w',es)->stepG P main (G (ext (tl K X) fr) (AE K X++cs)) w=.go (G (ext (tl K (fr::X)) (fZ P f args .normal)) (AE K (fr::X)++cs)) w' (seen P fr.fn es):=fun K main cs w w' hq=>by
          obtain ⟨kk,hkk⟩:=YS
          rw [e]
          simp only [stepG.apply,if_true,hq]
          simp [Sz,GStep.after,G,hkk,tl,AE,ext_nil]
         rw [eg K₀ true base wl aK hr]
         refine .nice _ (fr::X) _ _ (wU hp yd.1 yd.2 args) (fun x hx=> ?_) fun K main cs w _ hw hs=> ?_
         ·rcases List.mem_cons.1 hx with rfl|hx
          ·exact ⟨hf,hne⟩
          ·exact hX x hx
         ·obtain ⟨w',h1,h2⟩:=EI w hw hs
          exact ⟨w',eg K main cs w w' h1,h2.seen⟩
        |_=>exact yd.elim
       |halt h aK=>
        cases h with
        |panic v=>
         have eg:stepG P true (G (ext (tl K₀ X) fr) (AE K₀ X++base)) wl=.go (G {ext (tl K₀ X) fr with mode:=.panicking [{v,recovered:=false}]} (AE K₀ X++base)) aK (seen P fr.fn es):=by
          rw [e]
          simp only [stepG.apply,if_true,hr]
          have hmd:fr.mode=.run:=by rw [<-kj]
          simp [Sz,GStep.after,G,Frame.raise,hmd]
         rw [eg]
         exact .raised _ _ _
        |stuck m=>exact lz (by rw [e];simp only [stepG.apply,if_true,hr];simp [Sz,GStep.after])
        |unsupported u=>
         have ho:=Ck Kr AQ hr
         cases u with
         |initOrder g=>exact ho.elim
         |_=>exact lz (by rw [e];simp only [stepG.apply,if_true,hr];simp [Sz,GStep.after])
        |_=>exact (Ck Kr AQ hr).elim
    ·have wh:((ops[i]?).map (Region.wanted · (yielded ops tmps))).getD false=false:=by simpa using hw
     exact cN hK hX (hf.finish undef) (fun K main cs w _=>by
      rw [<-nV (by simp)]
      simp [stepG,stepG.exec,G,ext] at wh ⊢;simp [wh])
  |_=>cases hi
theorem iH (fn:Func) (tmps:Array M'):ag P (results fn tmps):=by
 unfold results
 refine af (jO (fun r=> ?_) _) fun vs=>aj _
 cases r with
 |tmp t=>exact aj _
 |cell a t=>exact af (pd _) fun a=>oh _ _
theorem Lx {ok:w_->Bool} {KS:List x_->Prop} (hK:KS K₀) {fr x:Y'} {base:List Y'} (AQ:bI wl wl) (hf:OkFr P ok fr) (hx:Bw P ok x) (hX:∀y∈X,Bw P ok y) (hm:fr.mode=.returning):
 Dv P ok KS K₀ fr (x::X) base wl (stepG P true (G (ext (tl K₀ (x::X)) fr) (AE K₀ (x::X)++base)) wl):=by
 obtain ⟨fn,xF⟩:=hf.fn
 have e:∀K main cs w,stepG P main (G (ext (tl K (x::X)) fr) (AE K (x::X)++cs)) w=
  GStep.after (seen P fr.fn ((results fn fr.tmps).runT P w #[]).2) (match ((results fn fr.tmps).runT P w #[]).1 with
   | .ok v w=>doReturn P main fr ((ext (tl K X) x::AE K X)++cs) none v w
   | .halt (.stuck s) w=>.ended (.stuck s (fr.pos P)) w
   | .halt _ w=>.ended (.stuck "return: the result variables cannot be read" (fr.pos P)) w):=fun K main cs w=>by
  show stepG P main (G (ext [] fr) _) w=_
  rw [ext_nil]
  simp only [stepG,G,hm,unwind,hf.defers,xF]
  rfl
 have Kr:=iH (P:=P) fn fr.tmps
 cases hr:(results fn fr.tmps).runT P wl #[] with
 |mk r es=>
  cases r with
  |ok v aK=>
   have eg:∀K main cs w w',(results fn fr.tmps).runT P w #[]=(.ok v w',es)->stepG P main (G (ext (tl K (x::X)) fr) (AE K (x::X)++cs)) w=.go (G (ext (tl K X) (x.finish v)) (AE K X++cs)) w' (seen P fr.fn es):=fun K main cs w w' hq=>by
    rw [e,hq,<-nV hx.some]
    simp [doReturn,hf.kind,GStep.after,G]
   rw [eg K₀ true base wl aK hr]
   refine .nice _ X _ _ (hx.toOkFr.finish v) hX fun K main cs w _ hw hs=> ?_
   obtain ⟨w',h1,h2⟩:=oS Kr hw hr trivial hs
   exact ⟨w',eg K main cs w w' h1,h2.seen⟩
  |halt h aK=>exact lz (by rw [e,hr];cases h<;>simp [GStep.after])
theorem Ia {ok:w_->Bool} {KS:List x_->Prop} (hp:gM P ok) (hK:KS K₀) (OY:∀id,exitTo id K₀=none) {fr:Y'} {base:List Y'} (AQ:bI wl wl) (hf:OkFr P ok fr) (hX:∀x∈X,Bw P ok x) (hn:¬(fr.mode=.returning/\X=[]))
 (hE:X=[]->fr.todo=[]->fr.mode=.run->∀K,KS K->K=[]):
 Dv P ok KS K₀ fr X base wl (stepG P true (G (ext (tl K₀ X) fr) (AE K₀ X++base)) wl):=by
 rcases hf.mode with hm|hm
 ·exact Lw hp hK OY AQ hf hX hm (fun h1 h2=>hE h1 h2 hm)
 ·cases X with
  |nil=>exact absurd ⟨hm,rfl⟩ hn
  |cons x X=>exact Lx hK AQ hf (hX x (by simp)) (fun y hy=>hX y (by simp [hy])) hm
def _root_.Go.World.re (w:J') (T:Nat->Question->Nat) (d:Nat):J':={w with tape:=T,drawn:=d}
theorem Oa (w:J') (T T':Nat->Question->Nat) (d d':Nat):(w.re T d).re T' d'=w.re T' d':=rfl
theorem pM (h:bI wl w) (T T':Nat->Question->Nat) (d d':Nat):bI (wl.re T d) (w.re T' d'):=⟨h.size,h.obj,h.os,h.out,h.ic⟩
theorem rM (h:bI wl w) (T:Nat->Question->Nat) (d:Nat):bI (wl.re T d) w:=⟨h.size,h.obj,h.os,h.out,h.ic⟩
theorem PK (h:oA wl w w') (T:Nat->Question->Nat) (d:Nat):oA (wl.re T d) w w':=⟨h.size,h.cells,h.chan,h.gz,h.still,h.os,h.out,h.tape⟩
inductive LW (P:U') (KS:List x_->Prop) (Q:Y'->List Y'->J'->Prop):Y'->List Y'->J'->Prop
 |stop {fr:Y'} {X:List Y'} {wl:J'}:Q fr X wl->LW P KS Q fr X wl
 |step {fr:Y'} {X:List Y'} {wl:J'} (nf:(Nat->Question->Nat)->Nat->Y') (nX:(Nat->Question->Nat)->Nat->List Y') (nw:(Nat->Question->Nat)->Nat->J') (ne:(Nat->Question->Nat)->Nat->Array Event):
  (∀T d,U7 P KS fr X (wl.re T d) (nf T d) (nX T d) (nw T d) (ne T d))->(∀T d,LW P KS Q (nf T d) (nX T d) (nw T d))->LW P KS Q fr X wl
theorem LW.gU {KS:List x_->Prop} {Q:Y'->List Y'->J'->Prop} {fr:Y'} (h:∀T d,∃kF X' aK es,U7 P KS fr X (wl.re T d) kF X' aK es/\LW P KS Q kF X' aK):LW P KS Q fr X wl:=
 .step (fun T d=>(h T d).choose) (fun T d=>(h T d).choose_spec.choose) (fun T d=>(h T d).choose_spec.choose_spec.choose) (fun T d=>(h T d).choose_spec.choose_spec.choose_spec.choose)
  (fun T d=>(h T d).choose_spec.choose_spec.choose_spec.choose_spec.1) (fun T d=>(h T d).choose_spec.choose_spec.choose_spec.choose_spec.2)
def aT:Y':={fn:=0,tmps:=#[],todo:=[.code (.refuse "")],defers:=[{target:=.nil,args:=#[]}],mode:=.run,kind:=.normal}
theorem Dj (v:M'):aT.finish v=aT:=rfl
theorem G1 (P:U') (w:J'):∃o w',step P (lone aT [] w)=.ended o w':=⟨_,_,step_lone_ended (by simp [stepG,stepG.exec,aT];exact ⟨rfl,rfl⟩)⟩
theorem tb (P:U') (c:List PanicEntry) (w:J'):∃o w',step P (lone {aT with mode:=.panicking c} [] w)=.ended o w':=⟨_,_,step_lone_ended (by simp [stepG,unwind,callDeferred,aT];exact ⟨rfl,rfl⟩)⟩
def panics:FrameMode->Prop
 | .panicking _=>True
 |_=>False
theorem Ae:∀(X:List Y') (fr:Y') (c:List PanicEntry) (w:J'),fr.defers=[]->(∃fn,P.funcs[fr.fn]?=some fn)->(∀x∈X,x.defers=[]/\(x.mode=.run\/x.mode=.returning)/\∃fn,P.funcs[x.fn]?=some fn)->
 ∀n kF cs' w',runN P n (lone {fr with mode:=.panicking c} (X++[aT]) w)=.next (lone kF cs' w')->panics kF.mode:=by
 intro X
 induction X with
 |nil=>
  intro fr c w hd ⟨fn,xF⟩ _ n kF cs' w' h
  have hs:step P (lone {fr with mode:=.panicking c} ([]++[aT]) w)=.next (lone {aT with mode:=.panicking c} [] w):=
   step_lone_go (by simp [stepG,unwind,hd,Frame.catches,xF,Frame.raise,aT])
  match n with
  |0=>
   simp only [runN,Stepped.next.injEq] at h
   have:=congrArg (fun m:Machine=>(m.gs[0]?).map (·.frame)) h
   simp [lone] at this
   rw [<-this];trivial
  |1=>
   simp only [runN,hs,Stepped.next.injEq] at h
   have:=congrArg (fun m:Machine=>(m.gs[0]?).map (·.frame)) h
   simp [lone] at this
   rw [<-this];trivial
  |n+2=>
   obtain ⟨o,w2,h2⟩:=tb P c w
   simp only [runN,hs,h2] at h
   cases h
 |cons x X ih=>
  intro fr c w hd ⟨fn,xF⟩ hX n kF cs' w' h
  have hx:=hX x (by simp)
  have hs:step P (lone {fr with mode:=.panicking c} ((x::X)++[aT]) w)=.next (lone {x with mode:=.panicking c} (X++[aT]) w):=
   step_lone_go (by
    have hm:x.raise c={x with mode:=.panicking c}:=by
     rcases hx.2.1 with e|e<;>simp [Frame.raise,e]
    simp [stepG,unwind,hd,Frame.catches,xF,hm])
  match n with
  |0=>
   simp only [runN,Stepped.next.injEq] at h
   have:=congrArg (fun m:Machine=>(m.gs[0]?).map (·.frame)) h
   simp [lone] at this
   rw [<-this];trivial
  |n+1=>
   simp only [runN,hs] at h
   exact ih x c w hx.1 hx.2.2 (fun y hy=>hX y (by simp [hy])) n kF cs' w' h
theorem Ct {fr:Y'} {cs cs':List Y'} (h:lone fr cs w=lone kF cs' w'):fr=kF/\cs=cs'/\w=w':=by
 have h1:=congrArg (fun m:Machine=>m.gs[0]?) h
 have h2:=congrArg (fun m:Machine=>m.world) h
 simp [lone] at h1 h2
 exact ⟨h1.1,h1.2,h2⟩
theorem D7 {a n:Nat} {m m1 m2:Machine} (h1:runN P a m=.next m1) (h2:runN P n m=.next m2) (h:a<=n):runN P (n - a) m1=.next m2:=by
 have:=runN_add P a (n - a) m
 rw [Nat.add_sub_cancel' h,h1,h2] at this
 exact this.symm
variable {T:Nat->Question->Nat} {d:Nat}
theorem TJ (h:Mv wl w aK w' es) {T':Nat->Question->Nat} (hT:aK.tape=wl.tape):
 Mv (wl.re T d) w (aK.re T (d+(aK.drawn - wl.drawn))) w' es:=
 ⟨⟨h.weak.size,h.weak.obj,h.weak.os,h.weak.out,h.weak.ic⟩,Nat.le_add_right _ _,by
   have h1:=h.mono;have h2:=h.drawn
   show w'.drawn+d=w.drawn+(d+(aK.drawn - wl.drawn));omega,PK h.upd T d,
   ⟨h.gR.size,h.gR.cells,h.gR.chan,h.gR.gz,h.gR.still,h.gR.os,h.gR.out,rfl⟩,h.evs,h.heap⟩
variable {X':List Y'}
theorem FJ {KS:List x_->Prop} {fr:Y'} (h:U7 P KS fr X wl kF X' aK es) (hT:aK.tape=wl.tape) (hm:wl.drawn<=aK.drawn)
 (hs:∀i,wl.drawn+i<aK.drawn->T (d+i)=wl.tape (wl.drawn+i)):U7 P KS fr X (wl.re T d) kF X' (aK.re T (d+(aK.drawn - wl.drawn))) es:=by
 intro K main cs w Vy hw C6
 obtain ⟨w',h1,h2⟩:=h K main cs w Vy ⟨hw.size,hw.obj,hw.os,hw.out,hw.ic⟩ (fun i hi=>by
  have:=C6 i (by show d+i<d+(aK.drawn - wl.drawn);omega)
  rw [this];exact hs i hi)
 exact ⟨w',h1,TJ (T':=T) h2 hT⟩
structure St (P:U') (ok:w_->Bool) where
 fr:Y'
 X:List Y'
 wl:J'
 kj:OkFr P ok fr
 hX:∀x∈X,Bw P ok x
 hw:bI wl wl
variable {Q:Y'->List Y'->J'->Prop}
theorem LC (hX:∀x∈X,Bw P ok x) (K:List x_):∀x∈AE K X,x.defers=[]/\(x.mode=.run\/x.mode=.returning)/\∃fn,P.funcs[x.fn]?=some fn:=by
 induction X with
 |nil=>intro x hx;cases hx
 |cons y X ih=>
  intro x hx
  rcases List.mem_cons.1 hx with rfl|hx
  ·exact (hX y (by simp)).toOkFr.bare
  ·exact ih (fun z hz=>hX z (by simp [hz])) x hx
theorem zl (hK:KS K₀) {fr:Y'} (h:U7 P KS fr X wl kF X' aK es) (hw:bI wl wl):bI aK aK/\wl.drawn<=aK.drawn/\aK.tape=wl.tape:=by
 obtain ⟨w',_,h2⟩:=h K₀ true [] wl hK hw (fun _ _=>rfl)
 exact ⟨h2.weak.self,h2.mono,h2.gR.tape⟩
theorem υ (hp:gM P ok) (hK:KS K₀) (OY:(K₀=[]/\∀K,KS K->K=[])\/K₀=fR) (hQ:∀fr X w,Q fr X w->¬panics fr.mode) (s:St P ok) (hno:∀kF X' aK es,OkFr P ok kF->(∀x∈X',Bw P ok x)->¬U7 P KS s.fr s.X s.wl kF X' aK es)
 (n:Nat) (kF:Y') (X':List Y') (w':J') (h:runN P (n+1) (lone (ext (tl K₀ s.X) s.fr) (AE K₀ s.X++[aT]) s.wl)=.next (lone kF (X'++[aT]) w')) (hq:Q kF X' w'):False:=by
 have U4:∀id,exitTo id K₀=none:=by
  rcases OY with ⟨rfl,_⟩|rfl<;>exact fun _=>rfl
 have Us:¬panics kF.mode:=hQ _ _ _ hq
 by_cases Ue:s.fr.mode=.returning/\s.X=[]
 ·
  obtain ⟨hm,hX⟩:=Ue
  obtain ⟨fn,xF⟩:=s.kj.fn
  rw [hX] at h
  change runN P (n+1) (lone (ext K₀ s.fr) ([]++[aT]) s.wl)=_ at h
  have e:stepG P true (G (ext K₀ s.fr) ([]++[aT])) s.wl=
   GStep.after (seen P s.fr.fn ((results fn s.fr.tmps).runT P s.wl #[]).2) (match ((results fn s.fr.tmps).runT P s.wl #[]).1 with
    | .ok v w=>doReturn P true (ext K₀ s.fr) ([]++[aT]) none v w
    | .halt (.stuck x) w=>.ended (.stuck x ((ext K₀ s.fr).pos P)) w
    | .halt _ w=>.ended (.stuck "return: the result variables cannot be read" ((ext K₀ s.fr).pos P)) w):=by
   simp only [stepG,G,KZ,hm,unwind,E4,s.kj.defers,RN,xF]
   rfl
  cases hr:(results fn s.fr.tmps).runT P s.wl #[] with
  |mk r es=>
   rw [hr] at e
   cases r with
   |ok v w1=>
    have hs:step P (lone (ext K₀ s.fr) ([]++[aT]) s.wl)=.next (lone aT [] w1):=step_lone_go (by
     have:({frame:=ext K₀ s.fr,callers:=[]++[aT],status:=.running,dying:=none}:O')=G (ext K₀ s.fr) ([]++[aT]):=rfl
     rw [this,e]
     simp [doReturn,s.kj.kind,GStep.after,Dj])
    simp only [runN,hs] at h
    cases n with
    |zero=>
     simp only [runN,Stepped.next.injEq] at h
     have:=(Ct h).2.1
     simp at this
    |succ n=>
     obtain ⟨o,w2,h2⟩:=G1 P w1
     simp only [runN,h2] at h
     cases h
   |halt hh w1=>
    have hs:∃o w2,step P (lone (ext K₀ s.fr) ([]++[aT]) s.wl)=.ended o w2:=by
     have:({frame:=ext K₀ s.fr,callers:=[]++[aT],status:=.running,dying:=none}:O')=G (ext K₀ s.fr) ([]++[aT]):=rfl
     cases hh<;>exact ⟨_,_,step_lone_ended (by rw [this,e];simp [GStep.after];exact ⟨rfl,rfl⟩)⟩
    obtain ⟨o,w2,hs⟩:=hs
    simp only [runN,hs] at h
    cases h
 ·by_cases OE:s.X=[]/\s.fr.todo=[]/\s.fr.mode=.run/\K₀=fR
  ·
   obtain ⟨hX,YS,hm,rfl⟩:=OE
   rw [hX] at h
   have hs:∃o w2,step P (lone (ext fR s.fr) ([]++[aT]) s.wl)=.ended o w2:=by
    have:({frame:=ext fR s.fr,callers:=[]++[aT],status:=.running,dying:=none}:O')=G (ext fR s.fr) ([]++[aT]):=rfl
    exact ⟨_,_,step_lone_ended (by rw [this];simp [stepG,stepG.exec,G,hm,YS,fR];exact ⟨rfl,rfl⟩)⟩
   obtain ⟨o,w2,hs⟩:=hs
   have h':runN P (n+1) (lone (ext fR s.fr) ([]++[aT]) s.wl)=.next (lone kF (X'++[aT]) w'):=h
   simp only [runN,hs] at h'
   cases h'
  have hc:=Ia (base:=[aT]) (KS:=KS) (K₀:=K₀) hp hK U4 s.hw s.kj s.hX Ue (fun h1 h2 h3=>OY.elim (fun a=>a.2) (fun a=>absurd ⟨h1,h2,h3,a⟩ OE))
  generalize hst:stepG P true (G (ext (tl K₀ s.X) s.fr) (AE K₀ s.X++[aT])) s.wl=st at hc
  cases hc with
  |nice fr2 X2 V6 es h1 h2 h3=>exact hno _ _ _ _ h1 h2 h3
  |raised c V6 es=>
   have hs:step P (lone (ext (tl K₀ s.X) s.fr) (AE K₀ s.X++[aT]) s.wl)=.next (lone {ext (tl K₀ s.X) s.fr with mode:=.panicking c} (AE K₀ s.X++[aT]) V6):=step_lone_go (by
    have:({frame:=ext (tl K₀ s.X) s.fr,callers:=AE K₀ s.X++[aT],status:=.running,dying:=none}:O')=G (ext (tl K₀ s.X) s.fr) (AE K₀ s.X++[aT]):=rfl
    rw [this,hst];rfl)
   simp only [runN,hs] at h
   exact Us (Ae (AE K₀ s.X) (ext (tl K₀ s.X) s.fr) c V6 s.kj.defers s.kj.fn (LC s.hX K₀) n _ _ _ h)
  |ended o w2 es=>
   have hs:step P (lone (ext (tl K₀ s.X) s.fr) (AE K₀ s.X++[aT]) s.wl)=.ended o w2:=step_lone_ended (by
    have:({frame:=ext (tl K₀ s.X) s.fr,callers:=AE K₀ s.X++[aT],status:=.running,dying:=none}:O')=G (ext (tl K₀ s.X) s.fr) (AE K₀ s.X++[aT]):=rfl
    rw [this,hst];rfl)
   simp only [runN,hs] at h
   cases h
theorem least {p:Nat->Prop} (h:∃k,p k):∃k,p k/\∀j,j<k->¬p j:=by
 obtain ⟨k,hk⟩:=h
 induction k using Nat.strongRecOn with
 |_ k ih=>
  by_cases h:∃j,j<k/\p j
  ·obtain ⟨j,h1,h2⟩:=h;exact ih j h1 h2
  ·exact ⟨k,hk,fun j hj hp=>h ⟨j,hj,hp⟩⟩
theorem xk (hp:gM P ok) (hK:KS K₀) (OY:(K₀=[]/\∀K,KS K->K=[])\/K₀=fR) (hQ:∀fr X w,Q fr X w->¬panics fr.mode) (hQ2:∀fr X w T d,bI w w->Q fr X w->Q fr X (w.re T d)) (s0:St P ok)
 (L:∀T d,∃n kF X' w',runN P n (lone (ext (tl K₀ s0.X) s0.fr) (AE K₀ s0.X++[aT]) (s0.wl.re T d))=.next (lone kF (X'++[aT]) w')/\Q kF X' w'):LW P KS (fun fr X w=>Q (ext (tl K₀ X) fr) (AE K₀ X) w/\bI w w) s0.fr s0.X s0.wl:=by
 classical
 refine j_ fun hno=> ?_
 let SU:=fun s:St P ok=>¬LW P KS (fun fr X w=>Q (ext (tl K₀ X) fr) (AE K₀ X) w/\bI w w) s.fr s.X s.wl
 have oF:∀s:St P ok,SU s->∃T d,∀kF X' aK es,U7 P KS s.fr s.X (s.wl.re T d) kF X' aK es->¬LW P KS (fun fr X w=>Q (ext (tl K₀ X) fr) (AE K₀ X) w/\bI w w) kF X' aK:=by
  intro s hs
  refine j_ fun hc=>hs (LW.gU fun T d=> ?_)
  refine j_ fun BJ=>hc ⟨T,d,fun kF X' aK es hn hl=>BJ ⟨kF,X',aK,es,hn,hl⟩⟩
 let tp:St P ok->(Nat->Question->Nat):=fun s=>if h:SU s then (oF s h).choose else fun _ _=>0
 let dp:St P ok->Nat:=fun s=>if h:SU s then (oF s h).choose_spec.choose else 0
 have hbd:∀s,SU s->∀kF X' aK es,U7 P KS s.fr s.X (s.wl.re (tp s) (dp s)) kF X' aK es->¬LW P KS (fun fr X w=>Q (ext (tl K₀ X) fr) (AE K₀ X) w/\bI w w) kF X' aK:=by
  intro s h
  simp only [tp,dp,dif_pos h]
  exact (oF s h).choose_spec.choose_spec
 let GI:=fun (s s':St P ok)=>∃es,U7 P KS s.fr s.X (s.wl.re (tp s) (dp s)) s'.fr s'.X s'.wl es
 let uU:=fun s:St P ok=>¬∃s',GI s s'
 let nx:St P ok->St P ok:=fun s=>if h:∃s',GI s s' then h.choose else s
 have OL:∀s,¬uU s->GI s (nx s):=by
  intro s h
  have h':∃s',GI s s':=j_ h
  simp only [nx,dif_pos h']
  exact h'.choose_spec
 let sq:Nat->St P ok:=fun k=>Nat.rec s0 (fun _ s=>nx s) k
 have aDs:sq 0=s0:=rfl
 have hsq:∀k,sq (k+1)=nx (sq k):=fun k=>rfl
 have hBk:∀k,(∀j,j<k->¬uU (sq j))->SU (sq k):=by
  intro k
  induction k with
  |zero=>intro _;exact hno
  |succ k ih=>
   intro h
   have hb:=ih (fun j hj=>h j (by omega))
   obtain ⟨es,hn⟩:=OL (sq k) (h k (by omega))
   show SU (nx (sq k))
   exact hbd _ hb _ _ _ _ hn
 let c:Nat->Nat:=fun k=>(sq (k+1)).wl.drawn - dp (sq k)
 let D:Nat->Nat:=fun k=>Nat.rec 0 (fun j a=>a+c j) k
 have hD0:D 0=0:=rfl
 have hD:∀k,D (k+1)=D k+c k:=fun k=>rfl
 have hDm:∀j k,j<=k->D j<=D k:=by
  intro j k h
  induction k with
  |zero=>have Nn:j=0:=by omega
         rw [Nn];exact C_ _
  |succ k ih=>
   by_cases e:j=k+1
   ·rw [e];exact C_ _
   ·exact D_ (ih (by omega)) (by rw [hD];exact Nat.le_add_right _ _)
 let Pn:=fun n k=>uU (sq k)\/n<D (k+1)
 let Ts:Nat->Question->Nat:=fun n q=>if h:∃k,Pn n k then (tp (sq (least h).choose)) (dp (sq (least h).choose)+(n - D (least h).choose)) q else 0
 have hTs:∀n k,(∀j,j<k->¬uU (sq j))->Pn n k->D k<=n->Ts n=(tp (sq k)) (dp (sq k)+(n - D k)):=by
  intro n k hk hP hn
  have hex:∃k,Pn n k:=⟨k,hP⟩
  have hl:=(least hex).choose_spec
  have e:(least hex).choose=k:=by
   generalize (least hex).choose=m at hl
   rcases Nat.lt_trichotomy m k with h|h|h
   ·rcases hl.1 with h1|h1
    ·exact absurd h1 (hk m h)
    ·have:=hDm (m+1) k h;omega
   ·exact h
   ·exact absurd hP (hl.2 k h)
  funext q
  show (if h:∃k,Pn n k then _ else _)=_
  rw [dif_pos hex,e]
 have hrun:∀k,(∀j,j<k->¬uU (sq j))->runN P k (lone (ext (tl K₀ s0.X) s0.fr) (AE K₀ s0.X++[aT]) (s0.wl.re Ts 0))=.next (lone (ext (tl K₀ (sq k).X) (sq k).fr) (AE K₀ (sq k).X++[aT]) ((sq k).wl.re Ts (D k))):=by
  intro k
  induction k with
  |zero=>intro _;rfl
  |succ k ih=>
   intro h
   have h1:=ih (fun j hj=>h j (by omega))
   obtain ⟨es,hn⟩:=OL (sq k) (h k (by omega))
   obtain ⟨cf,Nh,ht1⟩:=zl hK hn (pM (sq k).hw _ _ _ _)
   have L9:=FJ hn ht1 Nh (T:=Ts) (d:=D k) (fun i hi=>by
    have lE:dp (sq k)+i<(nx (sq k)).wl.drawn:=hi
    have:D k+i<D (k+1):=by rw [hD];show D k+i<D k+((sq (k+1)).wl.drawn - dp (sq k));rw [hsq];omega
    rw [hTs (D k+i) k (fun j hj=>h j (by omega)) (.inr this) (Nat.le_add_right _ _),Nat.add_sub_cancel_left]
    rfl)
   obtain ⟨w',h2,h3⟩:=L9 K₀ true [aT] ((sq k).wl.re Ts (D k)) hK (pM (sq k).hw _ _ _ _) (fun _ _=>rfl)
   have hd:D k+((nx (sq k)).wl.drawn - dp (sq k))=D (k+1):=rfl
   have e:w'=(sq (k+1)).wl.re Ts (D (k+1)):=by
    have e1:=h3.heap rfl
    have e2:=h3.drawn
    have e3:=h3.upd.tape
    have e4:=h3.weak.os
    have e5:=h3.weak.out
    obtain ⟨Iu,tp1,dr1,os1,ou1⟩:=w'
    simp only [World.re] at e1 e2 e3 e4 e5 ⊢
    subst e1 e3 e4 e5
    rw [hsq] at *
    congr 1
    have aDz:dp (sq k)<=(nx (sq k)).wl.drawn:=Nh
    try simp only [World.re] at e2
    omega
   have hs:step P (lone (ext (tl K₀ (sq k).X) (sq k).fr) (AE K₀ (sq k).X++[aT]) ((sq k).wl.re Ts (D k)))=.next (lone (ext (tl K₀ (sq (k+1)).X) (sq (k+1)).fr) (AE K₀ (sq (k+1)).X++[aT]) ((sq (k+1)).wl.re Ts (D (k+1)))):=step_lone_go (by
    have:({frame:=ext (tl K₀ (sq k).X) (sq k).fr,callers:=AE K₀ (sq k).X++[aT],status:=.running,dying:=none}:O')=G (ext (tl K₀ (sq k).X) (sq k).fr) (AE K₀ (sq k).X++[aT]):=rfl
    rw [this,h2,e];rfl)
   rw [runN_add,h1]
   simp only [runN,hs]
 obtain ⟨n,kF,X',w',hn,hq⟩:=L Ts 0
 have atQ:∀k,(∀j,j<k->¬uU (sq j))->k=n->False:=by
  rintro k hk rfl
  have h1:=hrun k hk
  rw [hn] at h1
  simp only [Stepped.next.injEq] at h1
  obtain ⟨e1,e2,e3⟩:=Ct h1
  have VK:X'=AE K₀ (sq k).X:=List.append_cancel_right e2
  refine hBk k hk (.stop ?_)
  rw [e1,VK,e3] at hq
  exact ⟨hQ2 _ _ ((sq k).wl.re Ts (D k)) (sq k).wl.tape (sq k).wl.drawn (pM (sq k).hw _ _ _ _) hq,(sq k).hw⟩
 by_cases hst:∃k,uU (sq k)/\k<n
 ·obtain ⟨k,⟨h1,h2⟩,h3⟩:=least hst
  have hk:∀j,j<k->¬uU (sq j):=fun j hj hs=>h3 j hj ⟨hs,by omega⟩
  have hr:=D7 (hrun k hk) hn (Nat.le_of_lt h2)
  obtain ⟨m,hm⟩:∃m,n - k=m+1:=⟨n - k - 1,by omega⟩
  rw [hm] at hr
  let s1:St P ok:={fr:=(sq k).fr,X:=(sq k).X,wl:=(sq k).wl.re Ts (D k),kj:=(sq k).kj,hX:=(sq k).hX,hw:=pM (sq k).hw _ _ _ _}
  refine υ hp hK OY hQ s1 (fun fr2 X2 V6 es a1 a2 hni=> ?_) m kF X' w' hr hq
  obtain ⟨b1,b2,b3⟩:=zl hK hni s1.hw
  have QO:=FJ hni b3 b2 (T:=tp (sq k)) (d:=dp (sq k)) (fun i _=>by
   show tp (sq k) (dp (sq k)+i)=Ts (D k+i)
   rw [hTs (D k+i) k hk (.inl h1) (Nat.le_add_right _ _),Nat.add_sub_cancel_left])
  exact h1 ⟨{fr:=fr2,X:=X2,wl:=_,kj:=a1,hX:=a2,hw:=pM b1 _ _ _ _},es,QO⟩
 ·exact atQ n (fun j hj hs=>hst ⟨j,hs,hj⟩) rfl
end
section
open Go Go.Conc Go.RowKit
inductive Walk (P:U') (main:Bool) (R:J'->J'->Prop) (D:J'->J'->Array Event->Prop) (Stop:O'->J'->Prop):O'->J'->Prop
 |stop {g:O'} {w:J'}:(∀w₁,R w w₁->Stop g w₁)->Walk P main R D Stop g w
 |step {g:O'} {w:J'} (ng:J'->O') (nw:J'->J') (ne:J'->Array Event):g.status=.running->
  (∀w₁,R w w₁->stepG P main g w₁=.go (ng w₁) (nw w₁) (ne w₁)/\D w₁ (nw w₁) (ne w₁))->(∀w₁,R w w₁->Walk P main R D Stop (ng w₁) (nw w₁))->Walk P main R D Stop g w
variable {P:U'} {main:Bool} {R:J'->J'->Prop} {D:J'->J'->Array Event->Prop} {Stop:O'->J'->Prop}
variable {w:J'}
theorem Walk.gU {g:O'} (hs:g.status=.running) (h:∀w₁,R w w₁->∃g' w' es,stepG P main g w₁=.go g' w' es/\D w₁ w' es/\Walk P main R D Stop g' w'):Walk P main R D Stop g w:=by
 classical
 refine .step (fun w₁=>if h₁:R w w₁ then (h w₁ h₁).choose else g) (fun w₁=>if h₁:R w w₁ then (h w₁ h₁).choose_spec.choose else w) (fun w₁=>if h₁:R w w₁ then (h w₁ h₁).choose_spec.choose_spec.choose else #[]) hs ?_ ?_
 ·intro w₁ h₁
  simp only [dif_pos h₁]
  exact ⟨(h w₁ h₁).choose_spec.choose_spec.choose_spec.1,(h w₁ h₁).choose_spec.choose_spec.choose_spec.2.1⟩
 ·intro w₁ h₁
  simp only [dif_pos h₁]
  exact (h w₁ h₁).choose_spec.choose_spec.choose_spec.2.2
theorem Walk.bind {Pa:O'->J'->Prop} (refl:∀w,R w w) {g:O'} (h:Walk P main R D Stop g w) (hs:∀g' w',Stop g' w'->Walk P main R D Pa g' w'):Walk P main R D Pa g w:=by
 induction h with
 |stop h=>exact hs _ _ (h _ (refl _))
 |step ng nw ne hr h1 h2 ih=>exact .step ng nw ne hr h1 fun w₁ h₁=>ih w₁ h₁
theorem Walk.keeps {I:J'->Prop} {g:O'} (hR:∀w w₁,R w w₁->I w->I w₁) (h:Walk P main R (fun w w' es=>D w w' es/\(I w->I w')) Stop g w) (hI:I w):Walk P main R D (fun g' w'=>Stop g' w'/\I w') g w:=by
 induction h with
 |stop h=>exact .stop fun w₁ h₁=>⟨h w₁ h₁,hR _ _ h₁ hI⟩
 |step ng nw ne hs h1 h2 ih=>exact .step ng nw ne hs (fun w₁ h₁=>⟨(h1 w₁ h₁).1,(h1 w₁ h₁).2.1⟩) (fun w₁ h₁=>ih w₁ h₁ ((h1 w₁ h₁).2.2 (hR _ _ h₁ hI)))
structure Out (hid:Nat->Nat->Prop) (w w':J'):Prop where
 size:w'.heap.size=w.heap.size
 cells:∀(b:Nat) (c:Array M') (e:Q') (f:Nat × Nat),w.heap[b]?=some (.cells c e f)->∃c',w'.heap[b]?=some (.cells c' e f)/\c'.size=c.size/\∀k,¬hid b k->c'[k]?=c[k]?
 gz:∀(b:Nat) (o:Obj),w.heap[b]?=some o->vV o=false->w'.heap[b]?=some o
 os:w'.os=w.os
 out:w'.output=w.output
 tape:w'.tape=w.tape
theorem Out.refl (hid:Nat->Nat->Prop) (w:J'):Out hid w w:=⟨rfl,fun _ c _ _ h=>⟨c,h,rfl,fun _ _=>rfl⟩,fun _ _ h _=>h,rfl,rfl,rfl⟩
theorem Out.trans {hid:Nat->Nat->Prop} {a b c:J'} (h:Out hid a b) (k:Out hid b c):Out hid a c:=by
 refine ⟨k.size.trans h.size,fun x cc e f hx=> ?_,fun x o hx ho=>k.gz x o (h.gz x o hx ho) ho,k.os.trans h.os,k.out.trans h.out,k.tape.trans h.tape⟩
 obtain ⟨c1,h1,h2,h3⟩:=h.cells x cc e f hx
 obtain ⟨c2,h4,h5,h6⟩:=k.cells x c1 e f h1
 exact ⟨c2,h4,h5.trans h2,fun j hj=>(h6 j hj).trans (h3 j hj)⟩
theorem Out.at (hid:Nat->Nat->Prop) (w:J') (d:Nat):Out hid w (w.at d):=⟨rfl,fun _ c _ _ h=>⟨c,h,rfl,fun _ _=>rfl⟩,fun _ _ h _=>h,rfl,rfl,rfl⟩
def EvM (hid gd:Nat->Nat->Prop) (top:Nat) (e:Event):Prop:=
 match e.loc with
 | .cell a=>a.block<top/\e.sync=false/\¬hid a.block a.off/\(e.write=true->¬gd a.block a.off)
 | .obj r=>r<top/\(e.sync=true->e.write=false)
 | .mark .noRoom=>True
 |_=>False
structure Sd (hid gd:Nat->Nat->Prop) (w w':J') (es:Array Event):Prop where
 size:w.heap.size<=w'.heap.size
 cells:∀(b:Nat) (c:Array M') (e:Q') (f:Nat × Nat),w.heap[b]?=some (.cells c e f)->∃c',w'.heap[b]?=some (.cells c' e f)/\c'.size=c.size/\∀k,hid b k\/gd b k->c'[k]?=c[k]?
 chan:∀(b:Nat) (o:Obj),w.heap[b]?=some o->o.isChan=true->w'.heap[b]?=some o
 gz:∀(b:Nat) (o:Obj),w.heap[b]?=some o->vV o=false->∃o',w'.heap[b]?=some o'/\vV o'=false
 os:w'.os=w.os
 out:w'.output=w.output
 tape:w'.tape=w.tape
 evs:∀e∈es,EvM hid gd w'.heap.size e
structure Cut (hid gd:Nat->Nat->Prop) (wl:J'):Prop where
 hid:∀b k,hid b k->b<wl.heap.size/\wl.cell? ⟨b,k,none⟩=none
 gd:∀b k,gd b k->b<wl.heap.size/\wl.frozen? ⟨b,k,none⟩=true
variable {wl aK:J'}
theorem Cut.upd {hid gd:Nat->Nat->Prop} (h:Cut hid gd wl) (hu:oA wl wl aK):Cut hid gd aK:=
 ⟨fun b k hk=>let ⟨h1,h2⟩:=h.hid b k hk;⟨E_ h1 hu.size,(hu.there h1).1.2 h2⟩,fun b k hk=>let ⟨h1,h2⟩:=h.gd b k hk;⟨E_ h1 hu.size,(hu.there h1).2.trans h2⟩⟩
theorem Cut.re {hid gd:Nat->Nat->Prop} (h:Cut hid gd wl) (T:Nat->Question->Nat) (d:Nat):Cut hid gd (wl.re T d):=⟨h.hid,h.gd⟩
variable {w':J'}
theorem bI.outside {hid gd:Nat->Nat->Prop} (h:bI wl w) (hc:Cut hid gd wl) (ho:Out hid w w'):bI wl w':=by
 refine ⟨h.size.trans ho.size.symm,fun b o o' hb A8=> ?_,h.os.trans ho.os.symm,h.out.trans ho.out.symm,h.ic⟩
 obtain ⟨o1,h1,h2⟩:=h.get hb
 cases rq:vV o1 with
 |false=>rw [ho.gz b o1 h1 rq] at A8;cases A8;exact h2
 |true=>
  cases o1<;>simp [vV] at rq
  rename_i c1 e1 f1
  obtain ⟨c2,h3,h4,h5⟩:=ho.cells b c1 e1 f1 h1
  rw [h3] at A8;cases A8
  have nh:∀(c:Array M') (e:Q') (f:Nat × Nat),wl.heap[b]?=some (.cells c e f)->∀k,k<c.size->¬hid b k:=by
   intro c e f hw k hk hh
   have:=(hc.hid b k hh).2
   simp [World.cell?,hw,hk] at this
  cases h2 with
  |blind hb=>have:=hb.cells.2;simp [vV] at this
  |same=>
   refine .cut (by omega) (fun k hk=>h5 k (nh _ _ _ hb k hk)) (fun k h=>h)
  |cut g1 g2 g3=>exact .cut (by omega) (fun k hk=>(h5 k (nh _ _ _ hb k hk)).trans (g2 k hk)) g3
variable {es:Array Event}
theorem tO {hid gd:Nat->Nat->Prop} (hc:Cut hid gd wl) (h:Mv wl w aK w' es) (hs:wl.heap.size=w.heap.size):Sd hid gd w w' es:=by
 refine ⟨h.upd.size,fun b c e f hb=> ?_,h.upd.chan,fun b o hb ho=>let ⟨o',h1,h2,_⟩:=h.upd.gz b o hb ho;⟨o',h1,h2⟩,h.upd.os,h.upd.out,h.upd.tape,fun ev he=> ?_⟩
 ·obtain ⟨c',h1,h2,h3⟩:=h.upd.cells b c e f hb
  exact ⟨c',h1,h2,fun k hk=>h3 k (hk.elim (fun q=>.inl (hc.hid b k q).2) (fun q=>.inr (hc.gd b k q).2))⟩
 ·have:=h.evs ev he
  have ht:aK.heap.size=w'.heap.size:=h.weak.size
  unfold vR at this
  unfold EvM
  split<;>simp_all
  ·rename_i a _
   obtain ⟨h1,h2,h3⟩:=this
   rcases h3 with h3|⟨⟨v,hv⟩,h4⟩
   ·refine ⟨fun hh=> ?_,fun _ hf=> ?_⟩
    ·have:=(hc.hid _ _ hh).1;omega
    ·have:=(hc.gd _ _ hf).1;omega
   ·have ha:=Kd hv
    refine ⟨fun hh=> ?_,fun hw hf=> ?_⟩
    ·have:=(hc.hid _ _ hh).2;rw [<-ha,hv] at this;cases this
    ·have:=(hc.gd _ _ hf).2;rw [<-ha,h4 hw] at this;cases this
def Qb:Obj->Bool
 | .chan _ _ cl _ _ _=> !cl
 |_=>false
inductive LJ:Obj->Obj->Prop
 |cells {c:Array M'} {e:Q'} {RI f:Nat × Nat} (h:∀k,k<c.size->gd f k=true):LJ (.cells c e RI) (.cells c e f)
 |other {tz o:Obj} (h₀:vV tz=false) (h:vV o=false) (hm:isMap o=false) (hc:Qb o=false):LJ tz o
structure Shut (n:Nat) (U wl:J'):Prop where
 size:n<=wl.heap.size
 obj:∀(b:Nat) (o:Obj),b<n->wl.heap[b]?=some o->∃tz,U.heap[b]?=some tz/\LJ tz o
variable {U:J'}
theorem Shut.re {n:Nat} (h:Shut n U wl) (T:Nat->Question->Nat) (d:Nat):Shut n U (wl.re T d):=⟨h.size,h.obj⟩
variable {T:Nat->Question->Nat} {d:Nat}
theorem Shut.j8 {n:Nat} (h:Shut n U (wl.re T d)):Shut n U wl:=⟨h.size,h.obj⟩
variable {b k:Nat}
theorem p8 {c:Array M'} {e:Q'} {f:Nat × Nat} (h:w.heap[b]?=some (.cells c e f)):w.frozen? ⟨b,k,none⟩=gd f k:=by simp [World.frozen?,h,gd]
theorem rA {c c':Array M'} (hs:c'.size=c.size) (h:∀k,k<c.size->c'[k]?=c[k]?):c'=c:=by
 apply Array.ext_getElem?
 intro k
 by_cases hk:k<c.size
 ·exact h k hk
 ·rw [Array.getElem?_eq_none (by omega),Array.getElem?_eq_none (by omega)]
theorem Shut.upd {n:Nat} (h:Shut n U wl) (hu:oA wl wl aK):Shut n U aK:=by
 refine ⟨D_ h.size hu.size,fun b o hb ho=> ?_⟩
 have hlt:b<wl.heap.size:=E_ hb h.size
 have h1:=H_ hlt
 obtain ⟨tz,h2,h3⟩:=h.obj b _ hb h1
 generalize wl.heap[b]=p at h1 h3
 refine ⟨tz,h2, ?_⟩
 cases h3 with
 |cells hf=>
  rename_i c e RI f
  obtain ⟨c',g1,g2,g3⟩:=hu.cells b _ _ _ h1
  have:=rA g2 fun k hk=>g3 k (.inr ((p8 h1).trans (hf k hk)))
  subst this
  rw [g1] at ho;cases ho
  exact .cells hf
 |other g0 g1 g2 g3=>
  rw [hu.still b p h1 g1 g2,h1] at ho;cases ho
  exact .other g0 g1 g2 g3
theorem kO {n:Nat} (h:Shut n U wl) (hb:Below n U w) (hs:wl.heap.size=w.heap.size) (hu:oA wl w w'):Below n U w':=by
 refine ⟨hu.os.trans hb.os,hu.tape.trans hb.tape,hu.out.trans hb.output,D_ hb.size hu.size,fun b hlt=> ?_⟩
 have gJ:b<wl.heap.size:=E_ hlt h.size
 have h1:=H_ gJ
 obtain ⟨tz,h2,h3⟩:=h.obj b _ hlt h1
 generalize wl.heap[b]=p at h1 h3
 have h4:=(hb.block b hlt).trans h2
 rw [h2]
 cases h3 with
 |cells hf=>
  obtain ⟨c',g1,g2,g3⟩:=hu.cells b _ _ _ h4
  have:=rA g2 fun k hk=>g3 k (.inr ((p8 h1).trans (hf k hk)))
  rw [g1,this]
 |other g0 g1 g2 g3=>rw [hu.still b p h1 g1 g2,h4]
theorem hM {n:Nat} {hid gd:Nat->Nat->Prop} (h:Shut n U wl) (hc:Cut hid gd wl) (hb:Below n U w) (ho:Out hid w w'):Below n U w':=by
 refine ⟨ho.os.trans hb.os,ho.tape.trans hb.tape,ho.out.trans hb.output,by rw [ho.size];exact hb.size,fun b hlt=> ?_⟩
 have gJ:b<wl.heap.size:=E_ hlt h.size
 have h1:=H_ gJ
 obtain ⟨tz,h2,h3⟩:=h.obj b _ hlt h1
 generalize wl.heap[b]=p at h1 h3
 have h4:=(hb.block b hlt).trans h2
 rw [h2]
 cases h3 with
 |cells hf=>
  rename_i c e RI f
  obtain ⟨c',g1,g2,g3⟩:=ho.cells b _ _ _ h4
  have:=rA g2 fun k hk=>g3 k fun hh=>by
   have:=(hc.hid b k hh).2
   simp [World.cell?,h1,hk] at this
  rw [g1,this]
 |other g0 g1 g2 g3=>exact ho.gz b _ h4 g0
def LO (n:Nat) (U:J') (hid gd:Nat->Nat->Prop) (w w':J') (es:Array Event):Prop:=Sd hid gd w w' es/\(Below n U w->Below n U w')
variable {X:List Y'}
theorem LW.walk {n:Nat} {KS:List x_->Prop} {Q:Y'->List Y'->J'->Prop} {hid gd:Nat->Nat->Prop} (K:List x_) (hK:KS K) (main:Bool) (cs:List Y') {fr:Y'} (h:LW P KS Q fr X wl):
 ∀{w:J'},Cut hid gd wl->bI wl w->Shut n U wl->Walk P main (Out hid) (LO n U hid gd) (fun g w'=>∃kF X' aK,g=G (ext (tl K X') kF) (AE K X'++cs)/\Q kF X' aK/\Cut hid gd aK/\bI aK w'/\Shut n U aK) (G (ext (tl K X) fr) (AE K X++cs)) w:=by
 induction h with
 |stop hq=>exact fun {w} hc hw hs=>.stop fun w₁ h₁=>⟨_,_,_,rfl,hq,hc,hw.outside hc h₁,hs⟩
 |step nf nX nw ne hn hl ih=>
  intro w hc hw fI
  refine Walk.gU rfl fun w₁ h₁=> ?_
  have cv:=hw.outside hc h₁
  obtain ⟨w',h2,h3⟩:=hn w₁.tape w₁.drawn K main cs w₁ hK ⟨cv.size,cv.obj,cv.os,cv.out,cv.ic⟩ (fun _ _=>rfl)
  refine ⟨_,w',_,h2,⟨tO (hc.re _ _) h3 cv.size,fun hb=>kO (fI.re w₁.tape w₁.drawn) hb cv.size h3.upd⟩,ih _ _ ((hc.re _ _).upd h3.gR) h3.weak ((fI.re w₁.tape w₁.drawn).upd h3.gR)⟩
variable {α:Type}
theorem PW {s:Sem α} (hs:ag P s) (hw:bI w w) {a:α} (h:s.run P w=.ok a w) (T:Nat->Question->Nat) (d:Nat):s.run P (w.re T d)=.ok a (w.re T d):=by
 cases hr:s.runT P w #[] with
 |mk r es=>
  have e:=Sem.runT_fst P s w #[]
  rw [hr,h] at e
  simp only at e
  subst e
  obtain ⟨w',h1,h2⟩:=oS hs (pM hw w.tape T w.drawn d) hr trivial (fun i hi=>absurd hi (by show ¬w.drawn+i<w.drawn;omega))
  have h3:=Sem.runT_fst P s (w.re T d) #[]
  rw [h1] at h3
  have e1:=h2.heap rfl
  have e2:=h2.drawn
  have e3:=h2.upd.tape
  have e4:=h2.upd.os
  have e5:=h2.upd.out
  have:w'=w.re T d:=by
   obtain ⟨a1,a2,a3,a4,a5⟩:=w'
   simp only [Result.wd,World.re] at e1 e2 e3 e4 e5 ⊢
   subst e1 e3 e4 e5
   congr 1;omega
  rw [<-h3,this];rfl
def GJ (P:U') (R:M'->J'->Prop) (fr:Y') (X:List Y') (w:J'):Prop:=
 X=[]/\∃v,R v w/\fr.leaving P w (.returned v)
variable {ok:w_->Bool}
theorem JL (hp:gM P ok) {f:w_} (h1:ok f=true) (h2:rU P f=true) {args:Array M'} (hw:bI wl wl) {R:M'->J'->Prop} (hR:∀v w T d,R v w->R v (w.re T d))
 (h:∀T d,Calls P f args (wl.re T d) fun e w'=>∃v,e=.returned v/\R v w'):LW P (fun K=>K=[]) (fun fr X w=>GJ P R fr X w/\bI w w) (fZ P f args .normal) [] wl:=by
 have hl:=xk (KS:=fun K=>K=[]) (K₀:=[]) hp rfl (.inl ⟨rfl,fun _ h=>h⟩) (Q:=GJ P R) (fun fr X w hq=>by
  obtain ⟨_,v,_,hm,_⟩:=hq
  rw [hm];exact fun h=>h) (fun fr X w T d h4 hq=>by
  obtain ⟨h3,v,h5,h6,h7,h8,fn,h9,ZS⟩:=hq
  exact ⟨h3,v,hR _ _ _ _ h5,h6,h7,h8,fn,h9,PW (iH fn fr.tmps) h4 ZS T d⟩)
  {fr:=fZ P f args .normal,X:=[],wl:=wl,kj:=wU hp h1 h2 args,hX:=by simp,hw:=hw} (fun T d=>by
  obtain ⟨e,w',fr,⟨v,rfl,hv⟩,hs,_,hl⟩:=h T d [aT]
  obtain ⟨n,hn⟩:=hs
  refine ⟨n,fr,[],w', ?_,rfl,v,hv,hl⟩
  show runN P n (lone (ext [] (fZ P f args .normal)) ([]++[aT]) (wl.re T d))=_
  rw [ext_nil];exact hn)
 simp only [aAa,ext_nil,xO] at hl
 exact hl
theorem zG (hp:gM P ok) (hid gd:Nat->Nat->Prop) (main:Bool) (c:Y') (cs:List Y') {f:w_} (h1:ok f=true) (h2:rU P f=true) {args:Array M'} {R:M'->J'->Prop} (hR:∀v w T d,R v w->R v (w.re T d))
 (h:∀T d,Calls P f args (wl.re T d) fun e w'=>∃v,e=.returned v/\R v w') {n:Nat} (hc:Cut hid gd wl) (hw:bI wl w) (fI:Shut n U wl):
 Walk P main (Out hid) (LO n U hid gd) (fun g w'=>∃v aK,g=G (c.finish v) cs/\R v aK/\Cut hid gd aK/\bI aK w'/\Shut n U aK) (G (fZ P f args .normal) (c::cs)) w:=by
 have vC:=LW.walk (KS:=fun K=>K=[]) (hid:=hid) (gd:=gd) [] rfl main (c::cs) (JL hp h1 h2 hw.self hR h) hc hw fI
 simp only [aAa,ext_nil,xO] at vC
 refine vC.bind (Out.refl hid) ?_
 rintro g w' ⟨fr,X,aK,rfl,⟨⟨rfl,v,hv,hm,hd,hk,fn,xF,hr⟩,hww⟩,hc',gC,qm⟩
 refine Walk.gU rfl fun w₁ h₁=> ?_
 have cv:=gC.outside hc' h₁
 have NL:(results fn fr.tmps).runT P aK #[]=(.ok v aK,((results fn fr.tmps).runT P aK #[]).2):=by
  have:=Sem.runT_fst P (results fn fr.tmps) aK #[]
  rw [hr] at this
  rw [<-this]
 obtain ⟨w2,h3,h4⟩:=oS (iH fn fr.tmps) cv NL trivial (fun i hi=>absurd hi (by show ¬aK.drawn+i<aK.drawn;omega))
 refine ⟨G (c.finish v) cs,w2,seen P fr.fn ((results fn fr.tmps).runT P aK #[]).2, ?_,⟨tO hc' h4.seen cv.size,fun hb=>kO qm hb cv.size h4.upd⟩,.stop fun DU xo=>⟨v,aK,rfl,hv,hc', ?_,qm⟩⟩
 ·have:({frame:=fr,callers:=[]++c::cs,status:=.running,dying:=none}:O')=G fr ([]++c::cs):=rfl
  simp only [stepG,G,hm,unwind,hd,xF]
  rw [h3]
  simp [doReturn,hk,GStep.after,Result.D6]
 ·exact h4.weak.outside hc' xo
def Fu (b:Y') (k:List x_) (Q:Exit->Act->J'->Prop) (fr:Y') (w:J'):Prop:=
 ∃e a,Q e a w/\match e with
  | .normal=>fr=b.at a k
  | .ret=>∃todo,fr={b.at a todo with mode:=.returning}
  |_=>False
def V0 (Q:Exit->Act->J'->Prop):Prop:=∀e a w,Q e a w->e=.normal\/e=.ret
theorem MS (hp:gM P ok) {b:Y'} {a:Act} {c:Code} (hf:OkFr P ok (b.at a [.code c])) (hw:bI wl wl) {Q:Exit->Act->J'->Prop} (hT:V0 Q)
 (hQ:∀e a w T d,bI w w->Q e a w->Q e a (w.re T d)) (h:∀T d,c.wp P Q a (wl.re T d)):
 LW P (fun _=>True) (fun fr X w=>(AE fR X=[]/\Fu b fR Q (ext (tl fR X) fr) w)/\bI w w) (b.at a [.code c]) [] wl:=by
 refine xk (KS:=fun _=>True) (K₀:=fR) hp trivial (.inr rfl) (Q:=fun fr X w=>X=[]/\Fu b fR Q fr w) (fun fr X w hq=> ?_) (fun fr X w T d h4 hq=> ?_)
  {fr:=b.at a [.code c],X:=[],wl:=wl,kj:=hf,hX:=by simp,hw:=hw} (fun T d=> ?_)
 ·obtain ⟨_,e,a,hq,hm⟩:=hq
  rcases hT e a w hq with rfl|rfl
  ·rw [hm];exact fun h=>h
  ·obtain ⟨todo,hm⟩:=hm;rw [hm];exact fun h=>h
 ·obtain ⟨h1,e,a,hq,hm⟩:=hq
  exact ⟨h1,e,a,hQ _ _ _ _ _ h4 hq,hm⟩
 ·obtain ⟨e,a',w',hq,Vn⟩:=h T d b fR [aT]
  rcases hT e a' w' hq with rfl|rfl
  ·obtain ⟨n,hn⟩:=Vn
   exact ⟨n,_,[],w',hn,rfl,_,a',hq,rfl⟩
  ·obtain ⟨todo,n,hn⟩:=Vn
   exact ⟨n,_,[],w',hn,rfl,_,a',hq,todo,rfl⟩
theorem zF (hp:gM P ok) (hid gd:Nat->Nat->Prop) (main:Bool) (cs:List Y') {b:Y'} {a:Act} {c:Code} (k:List x_) (hf:OkFr P ok (b.at a [.code c])) {Q:Exit->Act->J'->Prop} (hT:V0 Q)
 (hQ:∀e a w T d,bI w w->Q e a w->Q e a (w.re T d)) (h:∀T d,c.wp P Q a (wl.re T d)) {n:Nat} (hc:Cut hid gd wl) (hw:bI wl w) (fI:Shut n U wl):
 Walk P main (Out hid) (LO n U hid gd) (fun g w'=>∃fr aK,g=G fr cs/\Fu b k Q fr aK/\Cut hid gd aK/\bI aK w'/\Shut n U aK) (G (b.at a (.code c::k)) cs) w:=by
 refine (LW.walk (hid:=hid) (gd:=gd) k trivial main cs (MS hp hf hw.self hT hQ h) hc hw fI).bind (Out.refl hid) ?_
 rintro g w' ⟨fr,X,aK,rfl,⟨⟨hX,e,a',hq,hm⟩,_⟩,hc',gC,qm⟩
 cases X with
 |cons x X=>cases hX
 |nil=>
  refine .stop fun w₁ h₁=>⟨ext k fr,aK,rfl,⟨e,a',hq, ?_⟩,hc',gC.outside hc' h₁,qm⟩
  have Ge:=hm
  obtain ⟨fn,tmps,todo,defers,mode,kind,roundOf⟩:=fr
  rcases hT e a' aK hq with rfl|rfl
  ·simp only [tl,ext,Frame.at,Frame.mk.injEq] at hm ⊢
   obtain ⟨rfl,rfl,h3,rfl,rfl,rfl,rfl⟩:=hm
   refine ⟨rfl,rfl, ?_,rfl,rfl,rfl,rfl⟩
   have:todo=[]:=List.append_cancel_right (as:=todo) (bs:=fR) (cs:=[]) (by simpa using h3)
   rw [this];rfl
  ·obtain ⟨td,hm⟩:=hm
   refine ⟨todo++k, ?_⟩
   simp only [tl,ext,Frame.at,Frame.mk.injEq] at hm ⊢
   obtain ⟨rfl,rfl,h3,rfl,rfl,rfl,rfl⟩:=hm
   simp
end
section
open Go Go.Conc
open Go.ConcN (sumTo upd sumTo_upd upd_ne upd_same sumTo_congr)
def KK:Int:=4294967296
structure cx (b o:Nat) (w:J') (s:Int) (m:Int):Prop where
 st:w.cell? ⟨b,o,none⟩=some (.int .u64 s)
 sm:w.cell? ⟨b,o+1,none⟩=some (.int .u32 m)
 thaw:w.frozen? ⟨b,o,none⟩=false/\w.frozen? ⟨b,o+1,none⟩=false
def Live (b o:Nat) (w:J'):Prop:=∃s m,cx b o w s m
inductive Port where
 |recv (c:Nat) (z:M') (ok:Bool)
 |send (c:Nat) (v z:M')
def Port.cases:Port->Array CommCase
 | .recv c z _=>#[rcase c z]
 | .send c v z=>#[scase c v z]
def Port.shape:Port->CommShape
 | .recv _ _ ok=>.recv ok
 | .send ..=>.send
def Port.chan:Port->Nat
 | .recv c ..| .send c ..=>c
def Port.out:Port->Bool
 | .recv ..=>false
 | .send ..=>true
inductive Tag where
 |w0|IQ|w1|w2 (v:Nat)|w3|w4|w5|w6
 deriving DecidableEq
inductive aX where
 |self (k d:Nat)
 |seat (p:Port) (home:O'->J'->Prop)
 |shut (p:Port) (home:O'->J'->Prop)
 |done|rel|deaf|ky|kx|ku
 |quit (d:Nat)
 |wait (t:Tag)
 |none
def aX.loose:aX->Bool
 | .seat ..| .shut ..| .done=>true
 |_=>false
def aX.count:aX->Nat
 | .self k _=>k
 | .seat ..| .shut ..| .done| .rel| .deaf=>1
 |_=>0
def aX.isLast:aX->Bool
 | .ky| .kx| .ku=>true
 |_=>false
def aX.dd:aX->Nat
 | .self _ d=>d
 | .deaf| .ky| .kx| .ku=>1
 | .quit d=>d
 | .wait .IQ| .wait .w1| .wait (.w2 _)| .wait .w3| .wait .w4| .wait .w5=>1
 |_=>0
def aX.fW:aX->Nat
 | .seat ..=>9
 | .shut ..=>8
 | .done=>7
 | .rel=>6
 | .deaf=>5
 | .ky=>4
 | .kx=>3
 | .ku=>2
 | .quit _=>1
 |_=>0
def aX.isSelf:aX->Bool
 | .self ..=>true
 |_=>false
section
variable (P:U') (C:cS) (b o:Nat)
structure RB (i:Nat) (w w₁:J'):Prop where
 live:C.on->Live b o w->Live b o w₁
 cells:∀x k,C.Pv i (.cell ⟨x,k,none⟩)\/C.St i (.cell ⟨x,k,none⟩)->w₁.cell? ⟨x,k,none⟩=w.cell? ⟨x,k,none⟩/\w₁.frozen? ⟨x,k,none⟩=w.frozen? ⟨x,k,none⟩
 gz:∀r,C.Pv i (.obj r)\/C.St i (.obj r)->w₁.heap[r]?=w.heap[r]?
def NY (i:Nat) (e:Event):Prop:=
 ((MemAct.ofEvent e).touch?=none\/∃x,(MemAct.ofEvent e).touch?=some x/\¬C.Sh x.loc/\(C.Pv i x.loc\/x.write=false/\C.St i x.loc))/\e.loc≠.mark .disable/\e.loc≠.mark .enable/\∀x,e.loc≠.mark (.release x)
def DR (i:Nat) (w w':J') (es:Array Event):Prop:=Out (fun x k=>C.Pv i (.cell ⟨x,k,none⟩)) w w'/\∀e∈es,NY C i e
def D0 (w w':J') (es:Array Event):Prop:=w'=w/\es=#[]
def DW (w w':J') (es:Array Event):Prop:=w'=w/\∀e∈es,e=⟨.mark (.write ⟨b,o+1,none⟩),false,true⟩
def gP (main:Bool) (p:Port) (g bp:O'):Prop:=
 g.status=.running/\g.frame=bp.frame/\g.callers=bp.callers/\g.dying=bp.dying/\∀w,stepG P main g w=.comm bp p.cases true p.shape w #[]
def Sits (i:Nat) (p:Port) (home:O'->J'->Prop) (n:Nat) (g:O') (w:J'):Prop:=
 (∃k,n=k+1/\Goes P (i==0) (RB C b o i) (DR C i) (fun g w=>∃bp,gP P (i==0) p g bp/\home bp w) k g w)\/(n=0/\∃dN bp,g=parked bp p.cases p.shape/\gP P (i==0) p dN bp/\home bp w)
section
variable (i:Nat)
def mF (a:z_):Event:=⟨.cell a,false,true⟩
def vT (a:z_):Event:=⟨.cell a,true,true⟩
def mh (m:Mark):Event:=⟨.mark m,false,true⟩
def AtD4 (g:O') (w:J'):Prop:=
 g.status=.running/\mayWake P g=true/\(cx b o w 0 0->∃g',g'.status=.running/\stepG P false g w=.go g' (w.setCell ⟨b,o+1,none⟩ (.int .u32 1)) (semEvents ⟨b,o+1,none⟩)/\∃q,QuitsD P q 1 g')
def AtD3 (g:O') (w:J'):Prop:=
 g.status=.running/\(cx b o w 1 0->∃g',stepG P false g w=.go g' (w.setCell ⟨b,o,none⟩ (.int .u64 0)) #[vT ⟨b,o,none⟩]/\∃m,Goes P false (RB C b o i) D0 (AtD4 P b o) m g' (w.setCell ⟨b,o,none⟩ (.int .u64 0)))
def AtD2 (g:O') (w:J'):Prop:=
 g.status=.running/\(cx b o w 1 0->∃g',stepG P false g w=.go g' w #[mF ⟨b,o,none⟩]/\∃m,Goes P false (RB C b o i) D0 (AtD3 P C b o i) m g' w)
def AtD1 (g:O') (w:J'):Prop:=
 g.status=.running/\∀v wt:Nat,wt<=1->v<2147483647->cx b o w ((v+1:Nat) * KK+wt) 0->
  ∃g',stepG P false g w=.go g' (w.setCell ⟨b,o,none⟩ (.int .u64 (v * KK+wt))) #[mF ⟨b,o,none⟩,vT ⟨b,o,none⟩]/\
   ((v=0/\wt=1)->∃m,Goes P false (RB C b o i) D0 (AtD2 P C b o i) m g' (w.setCell ⟨b,o,none⟩ (.int .u64 (v * KK+wt))))/\(¬(v=0/\wt=1)->∃q,QuitsD P q 1 g')
def AtK1 (g:O') (w:J'):Prop:=
 g.status=.running/\∃g',stepG P false g w=.go g' w #[mh .disable]/\∃m,Goes P false (RB C b o i) D0 (AtD1 P C b o i) m g' w
def AtR0 (g:O') (w:J'):Prop:=
 g.status=.running/\∃g',stepG P false g w=.go g' w #[mh (.releaseMerge ⟨b,o,none⟩)]/\∃m,Goes P false (RB C b o i) D0 (AtK1 P C b o i) m g' w
end
section
variable (ae Fin:O'->J'->Prop)
def AtAcq (g:O') (w:J'):Prop:=
 g.status=.running/\∃g',stepG P true g w=.go g' w #[mh (.acquire ⟨b,o,none⟩)]/\Fin g' w
def AtKe (g:O') (w:J'):Prop:=
 g.status=.running/\∃g',stepG P true g w=.go g' w #[mh .enable]/\∃m,Goes P true (RB C b o 0) (DW b o) (AtAcq P b o Fin) m g' w
def AtW4 (g:O') (w:J'):Prop:=
 g.status=.running/\(cx b o w 0 0->∃g',stepG P true g w=.go g' w #[mF ⟨b,o,none⟩]/\∃m,Goes P true (RB C b o 0) (DW b o) (AtKe P C b o Fin) m g' w)
def AtW3 (g:O') (w:J'):Prop:=
 g.status=.running/\g.offers=none/\((∃s,cx b o w s 0)->stepG P true g w=.go {g with status:=.blocked} w #[])/\
  (cx b o w 0 1->∃g',stepG P true g w=.go g' (w.setCell ⟨b,o+1,none⟩ (.int .u32 0)) (semEvents ⟨b,o+1,none⟩)/\∃m,Goes P true (RB C b o 0) (DW b o) (AtW4 P C b o Fin) m g' (w.setCell ⟨b,o+1,none⟩ (.int .u32 0)))
def AtW2 (vs:Nat) (g:O') (w:J'):Prop:=
 g.status=.running/\∀v:Nat,v<2147483648->cx b o w (v * KK) 0->
  (v=vs->∃g',stepG P true g w=.go g' (w.setCell ⟨b,o,none⟩ (.int .u64 (v * KK+1))) #[mF ⟨b,o,none⟩,vT ⟨b,o,none⟩]/\∃m,Goes P true (RB C b o 0) (DW b o) (AtW3 P C b o Fin) m g' (w.setCell ⟨b,o,none⟩ (.int .u64 (v * KK+1))))/\
  (v≠vs->∃g',stepG P true g w=.go g' w #[mF ⟨b,o,none⟩]/\∃m,Goes P true (RB C b o 0) (DW b o) ae m g' w)
def AtW1 (g:O') (w:J'):Prop:=
 g.status=.running/\∀v:Nat,v<2147483648->cx b o w (v * KK) 0->∃g',stepG P true g w=.go g' w #[mF ⟨b,o,none⟩]/\
  (v=0->∃m,Goes P true (RB C b o 0) (DW b o) (AtKe P C b o Fin) m g' w)/\(v≠0->∃m,Goes P true (RB C b o 0) (DW b o) (AtW2 P C b o ae Fin v) m g' w)
def AtKd (g:O') (w:J'):Prop:=
 g.status=.running/\∃g',stepG P true g w=.go g' w #[mh .disable]/\∃m,Goes P true (RB C b o 0) (DW b o) ae m g' w
def GA:Tag->Nat->O'->J'->Prop
 | .w0,n,g,w=>Goes P true (RB C b o 0) (DW b o) (AtKd P C b o ae) n g w
 | .IQ,n,g,w=>Goes P true (RB C b o 0) (DW b o) ae n g w
 | .w1,n,g,w=>Goes P true (RB C b o 0) (DW b o) (AtW1 P C b o ae Fin) n g w
 | .w2 v,n,g,w=>0<v/\Goes P true (RB C b o 0) (DW b o) (AtW2 P C b o ae Fin v) n g w
 | .w3,n,g,w=>(∃k,n=k+1/\Goes P true (RB C b o 0) (DW b o) (AtW3 P C b o Fin) k g w)\/(n=0/\∃dN,AtW3 P C b o Fin dN w/\g={dN with status:=.blocked}/\∀w₁,RB C b o 0 w w₁->AtW3 P C b o Fin dN w₁)
 | .w4,n,g,w=>Goes P true (RB C b o 0) (DW b o) (AtW4 P C b o Fin) n g w
 | .w5,n,g,w=>Goes P true (RB C b o 0) (DW b o) (AtKe P C b o Fin) n g w
 | .w6,n,g,w=>Goes P true (RB C b o 0) (DW b o) (AtAcq P b o Fin) n g w
end
def fx (ae Fin:O'->J'->Prop) (i:Nat) (r:aX) (n:Nat) (g:O') (w:J'):Prop:=
 match r with
 | .self ..=>True
 | .shut p home=>0<i/\(∀w w₁ g,RB C b o i w w₁->home g w->home g w₁)/\(∃c z ok,p=.recv c z ok/\∀bp w,home bp w->∃m,Goes P false (RB C b o i) (DR C i) (AtR0 P C b o i) m (Go.Conc.served bp (recvd ok z false)) w)/\
  Goes P false (RB C b o i) (DR C i) (fun g w=>∃bp,gP P false p g bp/\home bp w) n g w
 | .seat p home=>(∀w w₁ g,RB C b o i w w₁->home g w->home g w₁)/\Sits P C b o i p home n g w
 | .done=>0<i/\Goes P false (RB C b o i) (DR C i) (AtR0 P C b o i) n g w
 | .rel=>0<i/\Goes P false (RB C b o i) D0 (AtK1 P C b o i) n g w
 | .deaf=>0<i/\Goes P false (RB C b o i) D0 (AtD1 P C b o i) n g w
 | .ky=>0<i/\Goes P false (RB C b o i) D0 (AtD2 P C b o i) n g w
 | .kx=>0<i/\Goes P false (RB C b o i) D0 (AtD3 P C b o i) n g w
 | .ku=>0<i/\Goes P false (RB C b o i) D0 (AtD4 P b o) n g w
 | .quit d=>0<i/\QuitsD P n d g
 | .wait t=>i=0/\GA P C b o ae Fin t n g w
 | .none=>False
end
variable {P:U'} {C:cS} {b o:Nat} {ae Fin:O'->J'->Prop}
theorem RB.refl (i:Nat) (w:J'):RB C b o i w w:=⟨fun _=>id,fun _ _ _=>⟨rfl,rfl⟩,fun _ _=>rfl⟩
variable {i:Nat}
theorem RB.trans:∀a d e,RB C b o i a d->RB C b o i d e->RB C b o i a e:=fun _ _ _ h k=>
 ⟨fun c x=>k.live c (h.live c x),fun x j hx=>⟨(k.cells x j hx).1.trans (h.cells x j hx).1,(k.cells x j hx).2.trans (h.cells x j hx).2⟩,fun r hr=>(k.gz r hr).trans (h.gz r hr)⟩
theorem RB.at (i:Nat) (w:J') (d:Nat):RB C b o i w (w.at d):=⟨fun _ ⟨s,m,h⟩=>⟨s,m,h.st,h.sm,h.thaw⟩,fun _ _ _=>⟨rfl,rfl⟩,fun _ _=>rfl⟩
variable {w w₁:J'}
theorem fx.rely {r:aX} {n:Nat} {g:O'} (h:fx P C b o ae Fin i r n g w) (hr:RB C b o i w w₁):fx P C b o ae Fin i r n g w₁:=by
 cases r with
 |self k d=>trivial
 |shut p home=>exact ⟨h.1,h.2.1,h.2.2.1,Goes.rely RB.trans h.2.2.2 hr⟩
 |seat p home=>
  refine ⟨h.1, ?_⟩
  rcases h.2 with ⟨k,rfl,hg⟩|⟨rfl,dN,bp,rfl,fH,hh⟩
  ·exact .inl ⟨k,rfl,hg.rely RB.trans hr⟩
  ·exact .inr ⟨rfl,dN,bp,rfl,fH,h.1 _ _ _ hr hh⟩
 |done=>exact ⟨h.1,Goes.rely RB.trans h.2 hr⟩
 |rel=>exact ⟨h.1,Goes.rely RB.trans h.2 hr⟩
 |deaf=>exact ⟨h.1,Goes.rely RB.trans h.2 hr⟩
 |ky=>exact ⟨h.1,Goes.rely RB.trans h.2 hr⟩
 |kx=>exact ⟨h.1,Goes.rely RB.trans h.2 hr⟩
 |ku=>exact ⟨h.1,Goes.rely RB.trans h.2 hr⟩
 |quit d=>exact h
 |none=>exact h
 |wait t=>
  obtain ⟨rfl,h⟩:=h
  refine ⟨rfl, ?_⟩
  cases t with
  |w3=>
   rcases h with ⟨k,rfl,hg⟩|⟨rfl,dN,h1,rfl,h2⟩
   ·exact .inl ⟨k,rfl,hg.rely RB.trans hr⟩
   ·exact .inr ⟨rfl,dN,h2 _ hr,rfl,fun lZ iN=>h2 _ (RB.trans _ _ _ hr iN)⟩
  |w2 v=>exact ⟨h.1,Goes.rely RB.trans h.2 hr⟩
  |_=>exact Goes.rely RB.trans h hr
theorem fx.status (hA:∀g w,ae g w->g.status=.running) {r:aX} {n:Nat} {g:O'} (h:fx P C b o ae Fin i r n g w) (hs:r.isSelf=false):
 g.status=.running\/g.status=.finished\/(g.status=.blocked/\n=0/\((∃p home,r=.seat p home)\/r=.wait .w3)):=by
 cases r with
 |self k d=>cases hs
 |shut p home=>exact .inl (h.2.2.2.running (fun _ _ x=>x.choose_spec.1.1) w (RB.refl i w))
 |seat p home=>
  rcases h.2 with ⟨k,rfl,hg⟩|⟨rfl,dN,bp,rfl,fH,hh⟩
  ·exact .inl (hg.running (fun _ _ x=>x.choose_spec.1.1) w (RB.refl i w))
  ·exact .inr (.inr ⟨rfl,rfl,.inl ⟨_,_,rfl⟩⟩)
 |done=>exact .inl (h.2.running (fun _ _ x=>x.1) w (RB.refl i w))
 |rel=>exact .inl (h.2.running (fun _ _ x=>x.1) w (RB.refl i w))
 |deaf=>exact .inl (h.2.running (fun _ _ x=>x.1) w (RB.refl i w))
 |ky=>exact .inl (h.2.running (fun _ _ x=>x.1) w (RB.refl i w))
 |kx=>exact .inl (h.2.running (fun _ _ x=>x.1) w (RB.refl i w))
 |ku=>exact .inl (h.2.running (fun _ _ x=>x.1) w (RB.refl i w))
 |quit d=>exact h.2.status.imp id .inl
 |none=>exact h.elim
 |wait t=>
  obtain ⟨rfl,h⟩:=h
  cases t with
  |w3=>
   rcases h with ⟨k,rfl,hg⟩|⟨rfl,dN,h1,rfl,h2⟩
   ·exact .inl (hg.running (fun _ _ x=>x.1) w (RB.refl 0 w))
   ·exact .inr (.inr ⟨rfl,rfl,.inr rfl⟩)
  |w0=>exact .inl (Goes.running (fun _ _ x=>x.1) w (RB.refl 0 w) h)
  |IQ=>exact .inl (Goes.running hA w (RB.refl 0 w) h)
  |w1=>exact .inl (Goes.running (fun _ _ x=>x.1) w (RB.refl 0 w) h)
  |w2 v=>exact .inl (Goes.running (fun _ _ x=>x.1) w (RB.refl 0 w) h.2)
  |w4=>exact .inl (Goes.running (fun _ _ x=>x.1) w (RB.refl 0 w) h)
  |w5=>exact .inl (Goes.running (fun _ _ x=>x.1) w (RB.refl 0 w) h)
  |w6=>exact .inl (Goes.running (fun _ _ x=>x.1) w (RB.refl 0 w) h)
variable {w':J'} {k:Nat}
theorem Out.cell {hid:Nat->Nat->Prop} (h:Out hid w w') {x:Nat} (hn:¬hid x k) (hlt:x<w.heap.size):w'.cell? ⟨x,k,none⟩=w.cell? ⟨x,k,none⟩/\w'.frozen? ⟨x,k,none⟩=w.frozen? ⟨x,k,none⟩:=by
 obtain ⟨ob,ho⟩:∃ob,w.heap[x]?=some ob:=⟨_,H_ hlt⟩
 cases hc:vV ob with
 |true=>
  cases ob<;>simp [vV] at hc
  obtain ⟨c',h1,_,h3⟩:=h.cells x _ _ _ ho
  simp [World.cell?,World.frozen?,ho,h1,h3 k hn]
 |false=>
  have h1:=h.gz x ob ho hc
  simp [World.cell?,World.frozen?,ho,h1]
variable {es:Array Event}
theorem Sd.cell {hid gd:Nat->Nat->Prop} (h:Sd hid gd w w' es) {x:Nat} (hn:hid x k\/gd x k) (hlt:x<w.heap.size):w'.cell? ⟨x,k,none⟩=w.cell? ⟨x,k,none⟩/\w'.frozen? ⟨x,k,none⟩=w.frozen? ⟨x,k,none⟩:=by
 obtain ⟨ob,ho⟩:∃ob,w.heap[x]?=some ob:=⟨_,H_ hlt⟩
 cases hc:vV ob with
 |true=>
  cases ob<;>simp [vV] at hc
  obtain ⟨c',h1,_,h3⟩:=h.cells x _ _ _ ho
  simp [World.cell?,World.frozen?,ho,h1,h3 k hn]
 |false=>
  obtain ⟨zk,h1,h2⟩:=h.gz x ob ho hc
  cases ob<;>simp [vV] at hc<;>cases zk<;>simp [vV] at h2<;>simp [World.cell?,World.frozen?,ho,h1]
variable {a:z_}
theorem lC {v:M'} (h:w.cell? a=some v):a.block<w.heap.size:=by
 obtain ⟨c,e,f,hb,_⟩:=dF h
 exact (cI hb)
theorem di (w:J') {x x' k':Nat} (v:M') (h:x≠x'\/k≠k'):(w.setCell ⟨x,k,none⟩ v).cell? ⟨x',k',none⟩=w.cell? ⟨x',k',none⟩:=by
 unfold World.cell?
 simp only [heap_setCell]
 by_cases hx:x=x'
 ·subst hx
  have hk:k≠k':=h.elim (fun q=>absurd rfl q) id
  cases hb:w.heap[x]? with
  |none=>simp
  |some ob=>cases ob<;>simp [I_ hk]
 ·simp [hx]
theorem oz {x:Nat} {XZ:M'} (v:M') (h:w.cell? ⟨x,k,none⟩=some XZ):(w.setCell ⟨x,k,none⟩ v).cell? ⟨x,k,none⟩=some v:=by
 obtain ⟨c,e,f,hb,hk⟩:=dF h
 have hlt:k<c.size:=(cI hk)
 unfold World.cell?
 simp only [heap_setCell]
 simp only at hb
 simp [hb,hlt]
theorem jq (w:J') (a a':z_) (v:M'):(w.setCell a v).frozen? a'=w.frozen? a':=by
 unfold World.frozen?
 simp only [heap_setCell]
 by_cases hx:a.block=a'.block
 ·simp only [hx,if_true]
  cases hb:w.heap[a'.block]? with
  |none=>rfl
  |some ob=>cases ob<;>rfl
 ·simp [hx]
theorem mU {v:M'} {r:Nat} {ob:Obj} (h:w.heap[r]?=some ob) (hc:vV ob=false):(w.setCell a v).heap[r]?=some ob:=by
 rw [heap_setCell]
 split
 ·rw [h];cases ob<;>first|(cases hc;done)|rfl
 ·exact h
theorem gH (w:J') (x k:Nat) (v:M'):Out (fun x' k'=>x'=x/\k'=k) w (w.setCell ⟨x,k,none⟩ v):=by
 refine ⟨by simp [World.setCell],fun y c e f hb=> ?_,fun y ob hb hc=>mU hb hc,rfl,rfl,rfl⟩
 rw [heap_setCell]
 by_cases hx:x=y
 ·subst hx
  refine ⟨c.setIfInBounds k v,by simp [hb],by simp,fun k' hk=> ?_⟩
  rw [I_ (fun e=>hk ⟨rfl,e.symm⟩)]
 ·exact ⟨c,by simp [hx,hb],rfl,fun _ _=>rfl⟩
theorem Out.mono {hid UM:Nat->Nat->Prop} (h:Out hid w w') (hs:∀x k,hid x k->UM x k):Out UM w w':=
 ⟨h.size,fun x c e f hb=>let ⟨c',h1,h2,h3⟩:=h.cells x c e f hb;⟨c',h1,h2,fun k hk=>h3 k fun q=>hk (hs x k q)⟩,h.gz,h.os,h.out,h.tape⟩
variable {m:Int}
theorem cx.setSt {o:Nat} {s:Int} (h:cx b o w s m) (s':Int):cx b o (w.setCell ⟨b,o,none⟩ (.int .u64 s')) s' m:=
 ⟨oz _ h.st,by rw [di _ _ (.inr (by omega))];exact h.sm,by rw [jq,jq];exact h.thaw⟩
theorem cx.setSm {o:Nat} {s:Int} (h:cx b o w s m) (m':Int):cx b o (w.setCell ⟨b,o+1,none⟩ (.int .u32 m')) s m':=
 ⟨by rw [di _ _ (.inr (by omega))];exact h.st,oz _ h.sm,by rw [jq,jq];exact h.thaw⟩
theorem cx.keep {o:Nat} {s:Int} (h:cx b o w s m) (h0:w'.cell? ⟨b,o,none⟩=w.cell? ⟨b,o,none⟩/\w'.frozen? ⟨b,o,none⟩=w.frozen? ⟨b,o,none⟩) (h1:w'.cell? ⟨b,o+1,none⟩=w.cell? ⟨b,o+1,none⟩/\w'.frozen? ⟨b,o+1,none⟩=w.frozen? ⟨b,o+1,none⟩):cx b o w' s m:=
 ⟨h0.1.trans h.st,h1.1.trans h.sm,h0.2.trans h.thaw.1,h1.2.trans h.thaw.2⟩
def bS (C:cS) (x k:Nat):Prop:=C.Sh (.cell ⟨x,k,none⟩)\/C.Gr (.cell ⟨x,k,none⟩)\/∃g,C.Pv g (.cell ⟨x,k,none⟩)
def fy (C:cS) (x k:Nat):Prop:=∃g,C.St g (.cell ⟨x,k,none⟩)
def cnt (ρ:Nat->aX) (n:Nat):Nat:=sumTo n fun i=>(ρ i).count
def dy (b o:Nat) (ρ:Nat->aX) (n:Nat) (w:J'):Prop:=
 match ρ 0 with
 | .wait .w3=>((∀j,(ρ j).isLast=false)/\(0<cnt ρ n/\cx b o w (cnt ρ n * KK+1) 0\/cnt ρ n=0/\cx b o w 0 1))\/
  (cnt ρ n=0/\∃i,(∀j,(ρ j).isLast=true->j=i)/\((ρ i=.ky\/ρ i=.kx)/\cx b o w 1 0\/ρ i=.ku/\cx b o w 0 0))
 | .wait .w4| .wait .w5| .wait .w6=>(∀j,(ρ j).isLast=false)/\cnt ρ n=0/\cx b o w 0 0
 |_=>(∀j,(ρ j).isLast=false)/\cx b o w (cnt ρ n * KK) 0
def aX.FP:aX->Prop
 | .quit _| .none=>True
 | .self k _=>k=0
 |_=>False
def aX.isW3:aX->Bool
 | .wait .w3=>true
 |_=>false
def Acc (who:Option Nat) (rel:Nat->Prop) (t:Trace) (i:Nat):Prop:=
 match who with
 |some h=>Knows t h i
 |none=>∃p,rel p/\Before t i p
structure aC (P:U') (C:cS) (b o:Nat) (ae Fin:O'->J'->Prop) (who:Option Nat) (rel:Nat->Prop) (ρ:Nat->aX) (q:Nat->Nat) (gs:Array O') (w:J') (t:Trace):Prop where
 ok:C.Ok
 ad:C.ad=⟨b,o,none⟩
 yk:∀l,C.Sh l↔C.on/\(l=.cell ⟨b,o,none⟩\/l=.cell ⟨b,o+1,none⟩)
 IB:∀l,C.Gr l->∃x k,l=.cell ⟨x,k,none⟩/\x<w.heap.size
 Ls:∀g,C.Dd g->∃d,ρ g=.quit d
 old:∀g l,C.St g l\/C.Pv g l->g<gs.size
 plain:∀g l,C.St g l\/C.Pv g l->(∃x k,l=.cell ⟨x,k,none⟩)\/∃r,l=.obj r
 CG:∀g x k,C.Pv g (.cell ⟨x,k,none⟩)\/C.St g (.cell ⟨x,k,none⟩)->x<w.heap.size
 mO:∀g r,C.Pv g (.obj r)\/C.St g (.obj r)->∃ob,w.heap[r]?=some ob/\vV ob=false
 tr:Tr C (fun i=>(ρ i).loose=true) rel gs.size (fun i=>(ρ i).dd) (Acc who rel t) t
 eD:∀i g,gs[i]?=some g->fx P C b o ae Fin i (ρ i) (q i) g w
 above:∀i,gs.size<=i->ρ i=.none
 chans:∀i p home,ρ i=.seat p home->∃k,w.heap[p.chan]?=some (.chan 0 #[] false k k false)
 apart:∀i j p p' h h',ρ i=.seat p h->ρ j=.seat p' h'->p.chan=p'.chan->p.out=p'.out
 shuts:∀i p home,ρ i=.shut p home->∃k,w.heap[p.chan]?=some (.chan 0 #[] true k k false)
 one:∀i k d,ρ i=.self k d->who=some i
 holder:∀x,who=some x->x=0\/(ρ x).isSelf=true\/ρ x=.done
 few:cnt ρ gs.size<2147483647
 wg:C.on->dy b o ρ gs.size w
 off:¬C.on->∀j,(ρ j).FP
 cX:0<gs.size
 awake:ρ 0=.wait .w3->cx b o w 0 1->0<q 0
variable {who who':Option Nat} {rel bZ:Nat->Prop} {ρ:Nat->aX} {q:Nat->Nat} {gs:Array O'} {t u:Trace}
theorem Acc.app (h:∀p,rel p->bZ p) (ha:Acc who rel t i):Acc who bZ (t++u) i:=by
 cases who with
 |some g=>exact Knows.app u ha
 |none=>exact ha.imp fun p hp=>⟨h p hp.1,hp.2.app u⟩
theorem dy.live {n:Nat} (h:dy b o ρ n w):Live b o w:=by
 unfold dy at h
 split at h
 ·rcases h with ⟨_,⟨_,h⟩|⟨_,h⟩⟩|⟨_,i,_,⟨_,h⟩|⟨_,h⟩⟩<;>exact ⟨_,_,h⟩
 ·exact ⟨_,_,h.2.2⟩
 ·exact ⟨_,_,h.2.2⟩
 ·exact ⟨_,_,h.2.2⟩
 ·exact ⟨_,_,h.2⟩
theorem dy.keep {n:Nat} (h:dy b o ρ n w) (hk:∀s m,cx b o w s m->cx b o w' s m):dy b o ρ n w':=by
 unfold dy at h ⊢
 split<;>rename_i e<;>simp only [e] at h
 ·rcases h with ⟨h0,⟨h1,h⟩|⟨h1,h⟩⟩|⟨h0,i,h1,⟨h2,h⟩|⟨h2,h⟩⟩
  ·exact .inl ⟨h0,.inl ⟨h1,hk _ _ h⟩⟩
  ·exact .inl ⟨h0,.inr ⟨h1,hk _ _ h⟩⟩
  ·exact .inr ⟨h0,i,h1,.inl ⟨h2,hk _ _ h⟩⟩
  ·exact .inr ⟨h0,i,h1,.inr ⟨h2,hk _ _ h⟩⟩
 ·exact ⟨h.1,h.2.1,hk _ _ h.2.2⟩
 ·exact ⟨h.1,h.2.1,hk _ _ h.2.2⟩
 ·exact ⟨h.1,h.2.1,hk _ _ h.2.2⟩
 ·exact ⟨h.1,hk _ _ h.2⟩
theorem aC.jw (T:aC P C b o ae Fin who rel ρ q gs w t) (h:¬(ρ i).FP):C.on:=by
 by_cases hc:C.on
 ·exact hc
 ·exact absurd (T.off hc i) h
theorem aC.fX (T:aC P C b o ae Fin who rel ρ q gs w t) (h:∀d,ρ i≠.quit d):¬C.Dd i:=fun hd=>by
 obtain ⟨d,e⟩:=T.Ls i hd
 exact h d e
theorem aC.at (T:aC P C b o ae Fin who rel ρ q gs w t) (d:Nat):aC P C b o ae Fin who rel ρ q gs (w.at d) t:=
 ⟨T.ok,T.ad,T.yk,T.IB,T.Ls,T.old,T.plain,T.CG,T.mO,T.tr,fun i g hg=>(T.eD i g hg).rely (RB.at i w d),T.above,T.chans,T.apart,T.shuts,T.one,T.holder,T.few,fun c=>(T.wg c).keep fun _ _ h=>⟨h.st,h.sm,h.thaw⟩,T.off,T.cX,fun h1 h2=>T.awake h1 ⟨h2.st,h2.sm,h2.thaw⟩⟩
theorem aC.P6 (T:aC P C b o ae Fin who rel ρ q gs w t) (h:Out (fun x k=>C.Pv i (.cell ⟨x,k,none⟩)) w w'):
 (∀j,j≠i->RB C b o j w w')/\(C.on->∀s m,cx b o w s m->cx b o w' s m):=by
 have my:C.on->∀s m,cx b o w s m->cx b o w' s m:=fun c s m hs=>
  hs.keep (h.cell (fun q=>(T.ok.off i _ ((T.yk _).2 ⟨c,.inl rfl⟩)).1 q) (lC hs.st)) (h.cell (fun q=>(T.ok.off i _ ((T.yk _).2 ⟨c,.inr rfl⟩)).1 q) (lC hs.sm))
 refine ⟨fun j hj=>⟨fun c ⟨s,m,hs⟩=>⟨s,m,my c s m hs⟩,fun x k hx=>h.cell (fun q=> ?_) (T.CG j x k hx),fun r hr=> ?_⟩,my⟩
 ·have:=T.ok.apart i j _ q (ru hj)
  exact hx.elim this.1 this.2
 ·obtain ⟨ob,h1,h2⟩:=T.mO j r hr
  rw [h1,h.gz r ob h1 h2]
theorem aC.tq (T:aC P C b o ae Fin who rel ρ q gs w t) (b9:C.on) {v:M'} (hk:k=o\/k=o+1) (hl:Live b o (w.setCell ⟨b,k,none⟩ v)) (j:Nat):RB C b o j w (w.setCell ⟨b,k,none⟩ v):=by
 have h:=gH w b k v
 refine ⟨fun _ _=>hl,fun x k' hx=>h.cell (fun ⟨h1,h2⟩=> ?_) (T.CG j x k' hx),fun r hr=> ?_⟩
 ·subst h1 h2
  have:=T.ok.off j _ ((T.yk (.cell ⟨x,k',none⟩)).2 ⟨b9,hk.imp (fun e=>by rw [e]) (fun e=>by rw [e])⟩)
  exact hx.elim this.1 this.2
 ·obtain ⟨ob,h1,h2⟩:=T.mO j r hr
  rw [h1,h.gz r ob h1 h2]
variable {j:Nat} {a':O'}
theorem aC.Mn (T:aC P C b o ae Fin who rel ρ q gs w t) (hA:∀g w,ae g w->g.status=.running) (hch:∀i p home,ρ i=.seat p home->∃k,w'.heap[p.chan]?=some (.chan 0 #[] false k k false)) {y a:O'} (hy:gs[j]?=some y) (hs:(ρ j).isSelf=false):
 woken P a a' w' y=y\/(ρ j=.wait .w3/\woken P a a' w' y={y with status:=.running}/\y.status=.blocked):=by
 have key:y.again w'=y\/(ρ j=.wait .w3/\y.again w'={y with status:=.running}/\y.status=.blocked):=by
  have hr:=T.eD j y hy
  rcases hr.status hA hs with h|h|⟨h,hq,⟨p,home,e⟩|e⟩
  ·exact .inl (again_running _ (.inl h))
  ·exact .inl (again_running _ (.inr h))
  ·left
   rw [e] at hr
   rcases hr.2 with ⟨k,hk,_⟩|⟨_,dN,bp,rfl,_⟩
   ·omega
   ·obtain ⟨k,hc⟩:=hch j p home e
    cases p with
    |recv c z ok=>exact again_recv_open hc
    |send c v z=>exact again_send_open hc
  ·refine .inr ⟨e, ?_,h⟩
   rw [e] at hr
   rcases hr.2 with ⟨k,hk,_⟩|⟨_,dN,h1,rfl,_⟩
   ·omega
   ·have:=h1.2.1
    simp only [Goroutine.again,this]
 unfold woken
 split
 ·exact key
 ·exact .inl rfl
variable {g':O'} {r':aX} {n':Nat}
theorem aC.step (T:aC P C b o ae Fin who rel ρ q gs w t) (hA:∀g w,ae g w->g.status=.running) {g a:O'} (hi:gs[i]?=some g)
 (po:∀j,j≠i->RB C b o j w w') (hsz:w.heap.size<=w'.heap.size) (Kp:∀(r:Nat) (ob:Obj),w.heap[r]?=some ob->vV ob=false->ob.isChan=true->w'.heap[r]?=some ob) (hio:∀r,C.Pv i (.obj r)\/C.St i (.obj r)->∃ob,w'.heap[r]?=some ob/\vV ob=false)
 (kD:∀p h,r'=.seat p h->∃h₀,ρ i=.seat p h₀) (uG:∀p h,r'=.shut p h->∃h₀,ρ i=.shut p h₀) (Nb:∀j k d,upd ρ i r' j=.self k d->who'=some j) (UU:∀x,who'=some x->x=0\/(upd ρ i r' x).isSelf=true\/upd ρ i r' x=.done) (aM:fx P C b o ae Fin i r' n' g' w')
 (AV:Tr C (fun j=>(upd ρ i r' j).loose=true) bZ gs.size (fun j=>(upd ρ i r' j).dd) (Acc who' bZ (t++u)) (t++u)) (my:C.on->dy b o (upd ρ i r') gs.size w') (b9:¬C.on->r'.FP) (hdq:C.Dd i->∃d,r'=.quit d) (U3:cnt (upd ρ i r') gs.size<2147483647)
 (ES:i≠0->ρ 0=.wait .w3->cx b o w' 0 1->cx b o w 0 1\/(mayWake P a=true/\a'.status=.running)) (KG:i=0->r'=.wait .w3->cx b o w' 0 1->0<n'):
 ∃q',aC P C b o ae Fin who' bZ (upd ρ i r') q' ((gs.map (woken P a a' w')).setIfInBounds i g') w' (t++u)/\q' i=n'/\∀j,j≠i->ρ j≠.wait .w3->q' j=q j:=by
 have hlt:i<gs.size:=(cI hi)
 have hch:∀j p home,ρ j=.seat p home->∃k,w'.heap[p.chan]?=some (.chan 0 #[] false k k false):=fun j p home e=>by
  obtain ⟨k,hk⟩:=T.chans j p home e
  exact ⟨k,Kp _ _ hk rfl rfl⟩
 refine ⟨fun j=>if j=i then n' else if (ρ j).isW3&&((gs[j]?).any fun y=>(woken P a a' w' y).status==.running&&y.status==.blocked) then 1 else q j, ?_,by simp, ?_⟩
 ·refine ⟨T.ok,T.ad,T.yk,fun l hl=>(T.IB l hl).imp fun x h=>h.imp fun k h=>⟨h.1,E_ h.2 hsz⟩,fun j hj=> ?_,by simpa using T.old,T.plain,fun g x k h=>E_ (T.CG g x k h) hsz,fun gg r hr=> ?_,by simpa using AV,fun j y hy=> ?_,fun j hj=> ?_,fun j p home e=> ?_,fun j l p p' h h' e e'=> ?_,fun j p home e=> ?_,Nb,UU,by simpa using U3,by simpa using my,fun c j=> ?_,by simpa using T.cX,fun h1 h2=> ?_⟩
  ·by_cases e:j=i
   ·subst e;rw [O_];exact hdq hj
   ·rw [P_ _ _ e];exact T.Ls j hj
  ·by_cases e:gg=i
   ·subst e;exact hio r hr
   ·obtain ⟨ob,h1,h2⟩:=T.mO gg r hr
    exact ⟨ob,((po gg e).gz r hr).trans h1,h2⟩
  ·by_cases e:j=i
   ·subst e
    rw [Array.getElem?_setIfInBounds_self_of_lt (by simpa using hlt)] at hy
    obtain rfl:=some_inj hy
    simp only [O_,if_true]
    exact aM
   ·rw [I_ (ru e),Array.getElem?_map] at hy
    obtain ⟨BP,CI,rfl⟩:=Option.map_eq_some_iff.1 hy
    rw [P_ _ _ e]
    simp only [e,if_false,CI,Option.any_some]
    cases hs:(ρ j).isSelf with
    |true=>cases hr:ρ j<;>rw [hr] at hs<;>first|(cases hs;done)|trivial
    |false=>
     have hj:=(T.eD j BP CI).rely (po j e)
     rcases T.Mn hA hch (a:=a) (a':=a') CI hs with hw|⟨CK,hw,hb⟩
     ·rw [hw]
      have:(BP.status==.running&&BP.status==.blocked)=false:=by cases BP.status<;>rfl
      simp only [this,Bool.and_false,qp,if_false]
      exact hj
     ·rw [hw,hb]
      rw [CK] at hj ⊢
      simp only [aX.isW3,beq_self_eq_true,Bool.and_self,if_true]
      obtain ⟨rfl,hj⟩:=hj
      refine ⟨rfl,.inl ⟨0,rfl, ?_⟩⟩
      rcases hj with ⟨k,_,hg⟩|⟨_,dN,h1,rfl,h2⟩
      ·have:=hg.running (fun _ _ x=>x.1) w' (RB.refl 0 w')
       rw [hb] at this;cases this
      ·have e0:({{dN with status:=.blocked} with status:=.running}:O')=dN:=by
        have:=h1.1
        cases dN;simp_all
       rw [e0]
       exact Goes.stop fun w₁ h₁=>h2 w₁ h₁
  ·have EL:gs.size<=j:=by simpa using hj
   have e:j≠i:=by omega
   rw [P_ _ _ e];exact T.above j EL
  ·by_cases ej:j=i
   ·subst ej
    rw [O_] at e
    obtain ⟨h₀,RL⟩:=kD p home e
    exact hch j p h₀ RL
   ·rw [P_ _ _ ej] at e;exact hch j p home e
  ·have old:∀j p h,upd ρ i r' j=.seat p h->∃h₀,ρ j=.seat p h₀:=by
    intro j p h e
    by_cases ej:j=i
    ·subst ej;rw [O_] at e;exact kD p h e
    ·rw [P_ _ _ ej] at e;exact ⟨h,e⟩
   obtain ⟨h₁,e₁⟩:=old j p h e
   obtain ⟨iN,e₂⟩:=old l p' h' e'
   exact T.apart j l p p' _ _ e₁ e₂
  ·have old:∃h₀,ρ j=.shut p h₀:=by
    by_cases ej:j=i
    ·subst ej;rw [O_] at e;exact uG p home e
    ·rw [P_ _ _ ej] at e;exact ⟨home,e⟩
   obtain ⟨h₀,RL⟩:=old
   obtain ⟨k,hk⟩:=T.shuts j p h₀ RL
   exact ⟨k,Kp _ _ hk rfl rfl⟩
  ·by_cases e:j=i
   ·subst e;rw [O_];exact b9 c
   ·rw [P_ _ _ e];exact T.off c j
  ·by_cases e:(0:Nat)=i
   ·simp only [e,if_true]
    subst e
    rw [O_] at h1
    exact KG rfl h1 h2
   ·rw [P_ _ _ e] at h1
    simp only [e,if_false,h1,aX.isW3,Bool.true_and]
    obtain ⟨y,hy⟩:∃y,gs[0]?=some y:=⟨_,H_ T.cX⟩
    simp only [hy,Option.any_some]
    have hr:=T.eD 0 y hy
    rw [h1] at hr
    rcases hr.2 with ⟨k,hk,_⟩|⟨hk,dN,h3,rfl,_⟩
    ·split<;>omega
    ·have hold:¬cx b o w 0 1:=fun h=>by have:=T.awake h1 h;omega
     rcases ES (ru e) h1 h2 with h|⟨h4,h5⟩
     ·exact absurd h hold
     ·have AX:=h3.2.1
      have:woken P a a' w' {dN with status:=.blocked}={{dN with status:=.blocked} with status:=.running}:=by
       simp [woken,h4,h5,Goroutine.again,AX]
      rw [this];simp
 ·intro j e CK
  have:(ρ j).isW3=false:=by
   cases hr:ρ j with
   |wait t=>cases t<;>first|rfl|exact absurd hr CK
   |_=>rfl
  simp [e,this]
end
section
open Go Go.Conc
open Go.ConcN (sumTo upd sumTo_upd upd_ne upd_same sumTo_congr le_sumTo)
def wP (ρ:Nat->aX) (n:Nat):Nat:=sumTo n fun i=>(ρ i).fW
def uw (ρ:Nat->aX) (q:Nat->Nat) (n:Nat):Nat:=sumTo n fun i=>if (ρ i).fW=0 then 0 else q i
def jB (ρ:Nat->aX) (n:Nat):Nat:=
 match ρ 0 with
 | .wait .w0=>9
 | .wait (.w2 v)=>if v=cnt ρ n then 5 else 8
 | .wait .IQ=>7
 | .wait .w1=>6
 | .wait .w3=>4
 | .wait .w4=>3
 | .wait .w5=>2
 | .wait .w6=>1
 |_=>0
def Ob (ρ:Nat->aX) (q:Nat->Nat):Nat:=
 match ρ 0 with
 | .wait _=>q 0
 |_=>0
def meas (ρ:Nat->aX) (q:Nat->Nat) (n:Nat):Nat × Nat × Nat × Nat:=(wP ρ n,uw ρ q n,jB ρ n,Ob ρ q)
def Bz:Nat × Nat × Nat × Nat->Nat × Nat × Nat × Nat->Prop:=Prod.Lex (·<·) (Prod.Lex (·<·) (Prod.Lex (·<·) (·<·)))
theorem sf:WellFounded Bz:=(Prod.lex Nat.lt_wfRel (Prod.lex Nat.lt_wfRel (Prod.lex Nat.lt_wfRel Nat.lt_wfRel))).wf
theorem nA {α:Type} (f:Nat->α) (x:α) (φ:Nat->α->Nat) {i:Nat}:∀{j:Nat},i<j->sumTo j (fun a=>φ a (upd f i x a))+φ i (f i)=sumTo j (fun a=>φ a (f a))+φ i x
 |j+1,h=>by
  rcases Nat.lt_or_ge i j with hlt|vI
  ·have:=nA f x φ hlt
   simp only [sumTo,P_ f x (show j≠i by omega)]
   omega
  ·obtain rfl:i=j:=by omega
   simp only [sumTo,O_]
   rw [sumTo_congr (g:=fun a=>φ a (f a)) (fun a ha=>by rw [P_ f x (by omega)])]
   omega
variable {ρ:Nat->aX} {i:Nat}
theorem tu {n:Nat} (r:aX) (h:i<n):wP (upd ρ i r) n+(ρ i).fW=wP ρ n+r.fW:=nA ρ r (fun _ x=>x.fW) h
theorem kL {n:Nat} (r:aX) (h:i<n):cnt (upd ρ i r) n+(ρ i).count=cnt ρ n+r.count:=nA ρ r (fun _ x=>x.count) h
theorem Bn {n:Nat} (h:i<n) (hc:0<(ρ i).count):0<cnt ρ n:=E_ hc (le_sumTo (f:=fun i=>(ρ i).count) h)
variable {q':Nat->Nat}
theorem jG {q:Nat->Nat} {n:Nat} {r:aX} (h:i<n) (hr:r.fW<(ρ i).fW):Bz (meas (upd ρ i r) q' n) (meas ρ q n):=by
 have:=tu (ρ:=ρ) r h
 exact .left _ _ (by omega)
theorem AH {q:Nat->Nat} {n:Nat} {r:aX} (h:i<n) (hr:r.fW=(ρ i).fW) (h0:0<r.fW) (hq:q' i<q i) (ho:∀j,j≠i->ρ j≠.wait .w3->q' j=q j):Bz (meas (upd ρ i r) q' n) (meas ρ q n):=by
 have h1:=tu (ρ:=ρ) r h
 have e1:wP (upd ρ i r) n=wP ρ n:=by omega
 have h2:uw (upd ρ i r) q' n<uw ρ q n:=by
  have key:uw (upd ρ i r) q' n+(if (ρ i).fW=0 then 0 else q i)=uw ρ q n+(if r.fW=0 then 0 else q' i):=by
   have:=nA (fun j=>(ρ j,q j)) (r,q' i) (fun _ x=>if x.1.fW=0 then 0 else x.2) h
   rw [show uw (upd ρ i r) q' n=sumTo n fun a=>if (upd (fun j=>(ρ j,q j)) i (r,q' i) a).1.fW=0 then 0 else (upd (fun j=>(ρ j,q j)) i (r,q' i) a).2 from sumTo_congr fun a _=>by
    by_cases e:a=i
    ·subst e;simp [O_]
    ·rw [P_ _ _ e,P_ _ _ e]
     by_cases hw:ρ a=.wait .w3
     ·simp [hw,aX.fW]
     ·simp [ho a e hw]]
   exact this
  rw [if_neg (by omega),if_neg (by omega)] at key
  omega
 unfold meas
 rw [e1]
 exact .right _ (.left _ _ h2)
def aX.leaving:aX->Bool
 | .shut ..| .done| .rel| .deaf| .ky| .kx| .ku| .quit _=>true
 |_=>false
def vS (r r':aX):Prop:=r'=r\/(r.leaving=true/\r'.leaving=true)\/∃s s',r=.wait s/\r'=.wait s'
theorem vS.rfl' (r:aX):vS r r:=.inl rfl
variable {r':aX}
theorem vS.trans {r r'':aX} (h:vS r r') (k:vS r' r''):vS r r'':=by
 rcases h with rfl|⟨h1,h2⟩|⟨s,s',rfl,rfl⟩
 ·exact k
 ·rcases k with rfl|⟨_,k2⟩|⟨s,s',rfl,rfl⟩
  ·exact .inr (.inl ⟨h1,h2⟩)
  ·exact .inr (.inl ⟨h1,k2⟩)
  ·cases h2
 ·rcases k with rfl|⟨k1,_⟩|⟨_,s'',_,rfl⟩
  ·exact .inr (.inr ⟨_,_,rfl,rfl⟩)
  ·cases k1
  ·exact .inr (.inr ⟨_,_,rfl,rfl⟩)
variable {fn:w_} {es:Array Event}
theorem K9 {g:Nat} {pos:String} {op:MemOp} (h:op∈cC g fn pos es):∃e∈es,op={g,fn,pos,act:=.ofEvent e}:=by
 rw [ofEvents_eq] at h
 obtain ⟨e,he,rfl⟩:=Array.mem_map.1 h
 exact ⟨e,he,rfl⟩
variable {C:cS}
theorem uY {e:Event} (h:∀a,e.loc≠.mark (.release a)):∀a,MemAct.ofEvent e≠.mark (.release a):=by
 intro a;replace h:=h a
 obtain ⟨loc,wr,sy⟩:=e
 cases loc with
 |mark m=>intro hh;apply h;cases wr<;>cases sy<;>(injection hh with h1;subst h1;rfl)
 |_=>cases wr<;>cases sy<;>simp [MemAct.ofEvent]
variable {P:U'} {b o:Nat} {ae Fin:O'->J'->Prop} {who who':Option Nat} {rel bZ:Nat->Prop} {q:Nat->Nat} {gs:Array O'} {w w':J'} {t u:Trace} {sl:Option (Nat × Nat)}
theorem pN (h:r'.loose=(ρ i).loose):(fun j=>(upd ρ i r' j).loose=true)=fun j=>(ρ j).loose=true:=by
 funext j
 by_cases e:j=i
 ·subst e;rw [O_,h]
 ·rw [P_ _ _ e]
theorem Lp (T:aC P C b o ae Fin who rel ρ q gs w t) (fn:w_) (pos:String) (h:deafBehind (ρ i).dd es=r'.dd):∀j,Deaf (t++cC i fn pos es) j=(upd ρ i r' j).dd:=by
 intro j
 by_cases e:j=i
 ·subst e;rw [Deaf_own,T.tr.deaf,O_];exact h
 ·rw [P_ _ _ e,Deaf_other t (ru e) _ (fun op hop=>by obtain ⟨e,_,rfl⟩:=K9 hop;rfl)]
  exact T.tr.deaf j
theorem aC.jS (T:aC P C b o ae Fin who rel ρ q gs w t) {H:Prop} (fn:w_) (pos:String) (hl:r'.loose=(ρ i).loose) (hd:deafBehind (ρ i).dd es=r'.dd)
 (hm:∀(k:Nat) e,es[k]?=some e->qP C (fun j=>(ρ j).loose=true) gs.size i H ((t++cC i fn pos es).heard (t.size+k)) {g:=i,fn,pos,act:=.ofEvent e}/\∀x,e.loc≠.mark (.release x))
 (hH:H->who=some i):Tr C (fun j=>(upd ρ i r' j).loose=true) rel gs.size (fun j=>(upd ρ i r' j).dd) (Acc who rel (t++cC i fn pos es)) (t++cC i fn pos es):=by
 rw [pN hl]
 refine T.tr.one T.ok (H:=H) (fun op hop=>by obtain ⟨e,_,rfl⟩:=K9 hop;rfl) (fun k op hk=> ?_) (fun i hi=>Acc.app (fun _ h=>h) hi) (fun h=> ?_) (Lp T fn pos hd) (fun op hop=> ?_)
 ·rw [ofEvents_eq,Array.getElem?_map] at hk
  obtain ⟨e,he,rfl⟩:=Option.map_eq_some_iff.1 hk
  exact (hm k e he).1
 ·have hw:=hH h
  subst hw
  refine ⟨fun j hj=>hj,fun k hk=> ?_⟩
  refine fQ ?_
  rw [ofEvents_eq] at hk ⊢
  have:k<es.size:=by simpa using hk
  rw [g?_of (op:={g:=i,fn,pos,act:=.ofEvent es[k]}) (by rw [at_new];simp [this])]
 ·obtain ⟨e,he,rfl⟩:=K9 hop
  obtain ⟨k,hk⟩:=Array.mem_iff_getElem?.1 he
  exact uY (hm k e hk).2
variable {k:Nat}
theorem mG (T:aC P C b o ae Fin who rel ρ q gs w t) {pos:String} (hk:k<es.size) (hd:0<deafBehind (ρ i).dd (es.extract 0 k)):¬(t++cC i fn pos es).heard (t.size+k):=by
 rintro ⟨g,hg,h0⟩
 have:(t++cC i fn pos es).g? (t.size+k)=some i:=by
  rw [ofEvents_eq]
  rw [g?_of (op:={g:=i,fn,pos,act:=.ofEvent es[k]}) (by rw [at_new];simp [hk])]
 rw [this] at hg
 obtain rfl:=some_inj hg
 rw [deaf_inside _ _ _ _ _ _ (Nat.le_of_lt hk),T.tr.deaf] at h0
 omega
def sU (ρ:Nat->aX):Prop:=∀j,ρ j=.none\/(∃d,ρ j=.quit d)\/(ρ j).isSelf=true
theorem Yz (T:aC P C b o ae Fin who rel ρ q gs w t) {g:O'} (hi:gs[i]?=some g) (hl:(ρ i).loose=true) {e:Event} (h:NY C i e) (H heard:Prop) (fn:w_) (pos:String):qP C (fun j=>(ρ j).loose=true) gs.size i H heard {g:=i,fn,pos,act:=.ofEvent e}:=by
 rcases h.1 with h|⟨x,h1,h2,h3⟩
 ·exact .mute h
 ·exact .own h1 hl (cI hi) h2 h3
theorem ji (T:aC P C b o ae Fin who rel ρ q gs w t) (b9:C.on) (QM:¬C.Dd i) {g:O'} (hi:gs[i]?=some g) (hk:k=o\/k=o+1) (wr:Bool) {heard:Prop} (hh:i=0\/¬heard) (H:Prop) (fn:w_) (pos:String):
 qP C (fun j=>(ρ j).loose=true) gs.size i H heard {g:=i,fn,pos,act:=.ofEvent ⟨.cell ⟨b,k,none⟩,wr,true⟩}:=
 .book (b:=⟨.cell ⟨b,k,none⟩,wr,.atomic⟩) (by cases wr<;>rfl) (cI hi) QM ((T.yk _).2 ⟨b9,hk.imp (fun e=>by rw [e]) (fun e=>by rw [e])⟩) (.inl ⟨rfl,hh⟩)
def fp (P:U') (C:cS) (b o:Nat) (ae Fin:O'->J'->Prop) (who:Option Nat) (rel:Nat->Prop) (ρ:Nat->aX) (q:Nat->Nat) (gs:Array O') (w:J') (sl:Option (Nat × Nat)) (t:Trace) (i:Nat):Prop:=
 ∃gs' w' ops fT q' who' bZ,runT P (crowd gs w sl) i=(.next (crowd gs' w' sl),ops)/\gs'.size=gs.size/\aC P C b o ae Fin who' bZ fT q' gs' w' (t++ops)/\Bz (meas fT q' gs.size) (meas ρ q gs.size)/\Out (bS C) w w'/\
  (∀j,vS (ρ j) (fT j))/\((∃x,(ρ x).isSelf=true)->who'=who)/\(∀x,(ρ x).isSelf=true->gs'[x]?=gs[x]?)/\(∀j,j≠i->ρ j≠.wait .w3->q' j=q j)/\
  (0<q' i\/∀p home,ρ i=.seat p home->∃g bp,gs[i]?=some g/\gP P (i==0) p g bp)/\(sU ρ->bZ=rel/\sU fT)
def bO (ρ:Nat->aX) (gs:Array O') (w:J'):Prop:=
 ∀x y,(ρ x).isSelf=true->gs[x]?=some y->∀w':J',(∀(r:Nat) (ob:Obj),w.heap[r]?=some ob->ob.isChan=true->w'.heap[r]?=some ob)->y.again w'=y
theorem Bu (h:vS (ρ i) r'):∀j,vS (ρ j) (upd ρ i r' j):=fun j=>by
 by_cases e:j=i
 ·subst e;rw [O_];exact h
 ·rw [P_ _ _ e];exact .inl rfl
variable {g':O'} {n':Nat}
theorem aC.moves (T:aC P C b o ae Fin who rel ρ q gs w t) (hA:∀g w,ae g w->g.status=.running) (hS:bO ρ gs w) {g:O'} (hi:gs[i]?=some g) (lu:(ρ i).isSelf=false)
 (hstep:stepG P (i==0) g w=.go g' w' es) (CO:Out (bS C) w w') (po:∀j,j≠i->RB C b o j w w') (kD:∀p h,r'=.seat p h->∃h₀,ρ i=.seat p h₀) (uG:∀p h,r'=.shut p h->∃h₀,ρ i=.shut p h₀) (su:r'.isSelf=false) (oE:who'=who\/(who'=none/\who=some i)) (ZD:ρ i=.done->r'=.done\/who'=none\/who≠some i)
 (aM:fx P C b o ae Fin i r' n' g' w')
 (AV:Tr C (fun j=>(upd ρ i r' j).loose=true) bZ gs.size (fun j=>(upd ρ i r' j).dd) (Acc who' bZ (t++cC i g.frame.fn g.frame.place es)) (t++cC i g.frame.fn g.frame.place es))
 (Uf:((∃d,ρ i=.quit d)/\(∃d,r'=.quit d)/\bZ=rel)\/(C.on/\∀d,ρ i≠.quit d)) (my:C.on->dy b o (upd ρ i r') gs.size w') (jW:r'.count<=(ρ i).count) (YZ:0<n'\/∀p home,ρ i≠.seat p home) (HN:vS (ρ i) r') (ES:i≠0->ρ 0=.wait .w3->cx b o w' 0 1->cx b o w 0 1\/(mayWake P g=true/\g'.status=.running)) (KG:i=0->r'=.wait .w3->cx b o w' 0 1->0<n')
 (Kt:∀q':Nat->Nat,q' i=n'->(∀j,j≠i->ρ j≠.wait .w3->q' j=q j)->Bz (meas (upd ρ i r') q' gs.size) (meas ρ q gs.size)):fp P C b o ae Fin who rel ρ q gs w sl t i:=by
 have hlt:i<gs.size:=(cI hi)
 have uH:∀x,(ρ x).isSelf=true->who'=who:=fun x hx=>by
  rcases oE with h|⟨_,h⟩
  ·exact h
  ·cases hr:ρ x<;>rw [hr] at hx<;>try (cases hx;done)
   have:=T.one x _ _ hr
   rw [h] at this
   obtain rfl:=some_inj this
   rw [hr] at lu;cases lu
 obtain ⟨q',T',h1,h2⟩:=T.step hA (a:=g) (a':=g') hi po (by rw [CO.size];exact C_ _) (fun r ob hr hc _=>CO.gz r ob hr hc) (fun r hr=>by
  obtain ⟨ob,k1,k2⟩:=T.mO i r hr
  exact ⟨ob,CO.gz r ob k1 k2,k2⟩) kD uG (fun j k d hj=>by
  by_cases e:j=i
  ·subst e;rw [O_] at hj;rw [hj] at su;cases su
  ·rw [P_ _ _ e] at hj
   rw [uH j (by rw [hj];rfl)]
   exact T.one j k d hj) (fun x hx=>by
  rcases oE with h|⟨h,_⟩
  ·rw [h] at hx
   by_cases e:x=i
   ·subst e
    rcases T.holder x hx with h1|h1|h1
    ·exact .inl h1
    ·rw [lu] at h1;cases h1
    ·rcases ZD h1 with h2|h2|h2
     ·rw [O_];exact .inr (.inr h2)
     ·rw [h,hx] at h2;cases h2
     ·exact absurd hx h2
   ·rw [P_ _ _ e];exact T.holder x hx
  ·rw [h] at hx;cases hx) aM AV my (fun c=>by
  rcases Uf with ⟨_,⟨d,e⟩,_⟩|⟨h,_⟩
  ·rw [e];trivial
  ·exact absurd h c) (fun hd=>by
  rcases Uf with ⟨_,h,_⟩|⟨_,h⟩
  ·exact h
  ·exact absurd hd (T.fX h)) (by
  have:=kL (ρ:=ρ) r' hlt
  have hf:=T.few
  omega) ES KG
 refine ⟨_,w',_,upd ρ i r',q',who',bZ,runT_crowd_go (sl:=sl) hi hstep,by simp,T',Kt q' h1 h2,CO,Bu HN,fun ⟨x,hx⟩=>uH x hx,fun x hx=> ?_,h2,by rw [h1];exact YZ.imp id fun h p home e=>absurd e (h p home),fun hc=> ?_⟩
 rotate_left
 ·rcases Uf with ⟨_,⟨d,e⟩,h⟩|⟨_,h⟩
  ·refine ⟨h,fun j=> ?_⟩
   by_cases ej:j=i
   ·subst ej;rw [O_];exact .inr (.inl ⟨d,e⟩)
   ·rw [P_ _ _ ej];exact hc j
  ·rcases hc i with h1|⟨d,h1⟩|h1
   ·have:=T.eD i g hi
    rw [h1] at this;exact this.elim
   ·exact absurd h1 (h d)
   ·rw [lu] at h1;cases h1
 have TS:x≠i:=fun e=>by subst e;rw [lu] at hx;cases hx
 rw [I_ (ru TS),Array.getElem?_map]
 cases hy:gs[x]? with
 |none=>rfl
 |some y=>
  have:y.again w'=y:=hS x y hx hy w' fun r ob h1 h2=>CO.gz r ob h1 (by cases ob<;>first|(cases h2;done)|rfl)
  simp only [Option.map_some,woken,this,ite_self]
theorem aC.Am (T:aC P C b o ae Fin who rel ρ q gs w t) (hA:∀g w,ae g w->g.status=.running) {x:Nat} {y:O'} (hy:gs[x]?=some y) (lu:(ρ x).isSelf=false) {c:Nat} {dir:Bool}
 (h:∀p' h',ρ x=.seat p' h'->p'.chan=c->p'.out≠dir):offersAt y c dir=[]:=by
 have hr:=T.eD x y hy
 rcases hr.status hA lu with hs|hs|⟨hs,hq,⟨p,home,e⟩|e⟩
 ·exact offersAt_of_not_blocked (by rw [hs];simp) _ _
 ·exact offersAt_of_not_blocked (by rw [hs];simp) _ _
 ·rw [e] at hr
  rcases hr.2 with ⟨k,hk,_⟩|⟨_,dN,bp,rfl,_⟩
  ·omega
  ·have hh:=h p home e
   cases p with
   |recv c' z ok=>
    cases dir with
    |true=>exact offersAt_parked_recv' ..
    |false=>
     rw [show (Port.recv c' z ok).cases=#[rcase c' z] from rfl,offersAt_parked_recv,if_neg]
     exact fun ec=>hh ec rfl
   |send c' v z=>
    cases dir with
    |false=>exact offersAt_parked_send' ..
    |true=>
     rw [show (Port.send c' v z).cases=#[scase c' v z] from rfl,offersAt_parked_send,if_neg]
     exact fun ec=>hh ec rfl
 ·rw [e] at hr
  rcases hr.2 with ⟨k,hk,_⟩|⟨_,dN,h1,rfl,_⟩
  ·omega
  ·have:=h1.2.1
   simp [offersAt,this]
theorem dh (h:0<i):(i==0)=false:=by simp;omega
theorem dy.dG {n:Nat} (h:dy b o ρ n w) (hi:i<n) (h0:i≠0\/∀s,ρ 0≠.wait s/\r'≠.wait s) (hc:r'.count=(ρ i).count) (hl:r'.isLast=(ρ i).isLast) (hp:r'=ρ i\/r'.isLast=false):dy b o (upd ρ i r') n w:=by
 have e1:cnt (upd ρ i r') n=cnt ρ n:=by
  have:=kL (ρ:=ρ) r' hi
  rw [hc] at this;omega
 have e2:∀j,(upd ρ i r' j).isLast=(ρ j).isLast:=fun j=>by
  by_cases e:j=i
  ·subst e;rw [O_,hl]
  ·rw [P_ _ _ e]
 have e3:∀j,(ρ j).isLast=true->upd ρ i r' j=ρ j:=fun j hj=>by
  by_cases e:j=i
  ·subst e
   rw [O_]
   rcases hp with hp|hp
   ·exact hp
   ·rw [<-hl,hp] at hj;cases hj
  ·rw [P_ _ _ e]
 have e4:(∃s,ρ 0=.wait s)->upd ρ i r' 0=ρ 0:=fun ⟨s,hs⟩=>by
  rcases h0 with h0|h0
  ·rw [P_ _ _ (ru h0)]
  ·exact absurd hs (h0 s).1
 have e5:(∀s,ρ 0≠.wait s)->∀s,upd ρ i r' 0≠.wait s:=fun hs s=>by
  by_cases e:(0:Nat)=i
  ·subst e
   rw [O_]
   rcases h0 with h0|h0
   ·exact absurd rfl h0
   ·exact (h0 s).2
  ·rw [P_ _ _ e];exact hs s
 have wl:∀j,(ρ j).isLast=true->(ρ j=.ky\/ρ j=.kx)\/ρ j=.ku:=fun j hj=>by
  cases hr:ρ j<;>rw [hr] at hj<;>first|(cases hj;done)|simp
 unfold dy at h ⊢
 by_cases hw:∃s,ρ 0=.wait s
 ·rw [e4 hw]
  split<;>rename_i e<;>simp only [e,e1,e2] at h ⊢
  ·rcases h with h|⟨h1,j,h2,h3⟩
   ·exact .inl h
   ·have:(ρ j).isLast=true:=by rcases h3 with ⟨h3|h3,_⟩|⟨h3,_⟩<;>rw [h3]<;>rfl
    exact .inr ⟨h1,j,h2,by rw [e3 j this];exact h3⟩
  ·exact h
  ·exact h
  ·exact h
  ·exact h
 ·have cf:∀s,ρ 0≠.wait s:=fun s hs=>hw ⟨s,hs⟩
  have wh:=e5 cf
  cases hr:ρ 0 with
  |wait s=>exact absurd hr (cf s)
  |_=>
   all_goals
    rw [hr] at h
    simp only at h
    cases sX:upd ρ i r' 0 with
    |wait s=>exact absurd sX (wh s)
    |_=>simp only [e1,e2];exact h
theorem aC.IM (T:aC P C b o ae Fin who rel ρ q gs w t) (hA:∀g w,ae g w->g.status=.running) (hS:bO ρ gs w) {g:O'} {r:aX} (hi:gs[i]?=some g) (hr:ρ i=r) (iq:0<i)
 (hk:0<r.fW) (lu:r.isSelf=false) (kD:∀p h,r≠.seat p h/\r≠.shut p h) (ZD:r≠.done) (kE:¬r.FP) (hn:n'<q i) (hgo:stepG P false g w=.go g' w #[]) (aM:fx P C b o ae Fin i r n' g' w):fp P C b o ae Fin who rel ρ q gs w sl t i:=by
 have hlt:i<gs.size:=(cI hi)
 refine T.moves hA hS (w':=w) (es:=#[]) (r':=r) (n':=n') (who':=who) (bZ:=rel) hi (by rw [hr];exact lu) (by rw [dh iq];exact hgo) (Out.refl _ _) (fun j _=>RB.refl j w) (fun p h e=>absurd e (kD p h).1) (fun p h e=>absurd e (kD p h).2) lu (.inl rfl) (by rw [hr];exact fun e=>absurd e ZD) aM ?_ ?_ ?_ (by rw [hr];exact C_ _) (.inr (by rw [hr];exact fun p h=>(kD p h).1)) (by rw [hr];exact .inl rfl) (fun _ _ h=>.inl h) (fun e=>by omega) (fun q' h1 h2=>AH hlt (by rw [hr]) hk (by omega) h2)
 ·exact T.jS (H:=False) _ _ (by rw [hr]) (by rw [hr];rfl) (fun k e he=>by simp at he) (fun h=>h.elim)
 ·exact .inr ⟨T.jw (i:=i) (by rw [hr];exact kE),fun d e=>by rw [<-hr,e] at kE;exact kE trivial⟩
 ·exact fun c=>(T.wg c).dG hlt (.inl (by omega)) (by rw [hr]) (by rw [hr]) (.inl hr.symm)
theorem aC.Mp (T:aC P C b o ae Fin who rel ρ q gs w t) (hA:∀g w,ae g w->g.status=.running) (hS:bO ρ gs w) {g:O'} (hi:gs[i]?=some g) (hl:(ρ i).loose=true)
 (hn:n'<q i) (hgo:stepG P (i==0) g w=.go g' w' es) (hd:DR C i w w' es) (aM:fx P C b o ae Fin i (ρ i) n' g' w') (YZ:0<n'\/∀p home,ρ i≠.seat p home):fp P C b o ae Fin who rel ρ q gs w sl t i:=by
 have hlt:i<gs.size:=(cI hi)
 obtain ⟨po,my⟩:=T.P6 hd.1
 have lu:(ρ i).isSelf=false:=by cases h:ρ i<;>rw [h] at hl<;>first|(cases hl;done)|rfl
 have hk:0<(ρ i).fW:=by cases h:ρ i<;>rw [h] at hl<;>first|(cases hl;done)|simp [aX.fW]
 have h0:(ρ i).dd=0:=by cases h:ρ i<;>rw [h] at hl<;>first|(cases hl;done)|rfl
 have b9:C.on:=T.jw (i:=i) (by cases h:ρ i<;>rw [h] at hl<;>first|(cases hl;done)|exact id)
 have ot:cx b o w' 0 1->cx b o w 0 1:=fun h=>by
  obtain ⟨s,m,h₀⟩:=(T.wg b9).live
  have h₁:=my b9 _ _ h₀
  have e1:=h₁.st.symm.trans h.st
  have e2:=h₁.sm.symm.trans h.sm
  simp only [Option.some.injEq,Value.int.injEq,true_and] at e1 e2
  rw [<-e1,<-e2];exact h₀
 have hu:upd ρ i (ρ i)=ρ:=by
  funext j
  by_cases e:j=i
  ·subst e;rw [O_]
  ·rw [P_ _ _ e]
 refine T.moves hA hS (r':=ρ i) (n':=n') (who':=who) (bZ:=rel) hi lu hgo (hd.1.mono fun x k h=>.inr (.inr ⟨i,h⟩)) po (fun p h e=>⟨h,e⟩) (fun p h e=>⟨h,e⟩) lu (.inl rfl) (fun e=>.inl e) aM ?_ (.inr ⟨b9,fun d e=>by rw [e] at hl;cases hl⟩) ?_ (C_ _) YZ (.inl rfl) (fun _ _ h=>.inl (ot h)) (fun e e'=>by rw [e'] at hl;cases hl) (fun q' h1 h2=>AH hlt rfl hk (by omega) h2)
 ·refine T.jS (H:=False) _ _ rfl ?_ (fun k e he=>⟨Yz T hi hl (hd.2 e (l_ he)) _ _ _ _,(hd.2 e (l_ he)).2.2.2⟩) (fun h=>h.elim)
  exact deafBehind_still (fun e he=>⟨(hd.2 e he).2.1,(hd.2 e he).2.2.1⟩) _
 ·rw [hu]
  exact fun c=>(T.wg c).keep (my c)
theorem aC.Yt (T:aC P C b o ae Fin who rel ρ q gs w t) (hA:∀g w,ae g w->g.status=.running) {g bp:O'} {p:Port} {home:O'->J'->Prop} (hi:gs[i]?=some g) (hr:ρ i=.seat p home) (hq:0<q i)
 (fH:gP P (i==0) p g bp) (hh:home bp w) (yH:∀(x:Nat) (y:O'),(ρ x).isSelf=true->gs[x]?=some y->offersAt y p.chan (!p.out)=[]):fp P C b o ae Fin who rel ρ q gs w sl t i:=by
 have hlt:i<gs.size:=(cI hi)
 have aM:=T.eD i g hi
 rw [hr] at aM
 obtain ⟨k,hc⟩:=T.chans i p home hr
 have hno:∀(x:Nat) (y:O'),(gs.setIfInBounds i ph)[x]?=some y->offersAt y p.chan (!p.out)=[]:=by
  intro x y hy
  rcases getElem?_stand gs i x y hy with ⟨_,rfl⟩|⟨hx,pg⟩
  ·exact offersAt_ph _ _
  ·cases hs:(ρ x).isSelf with
   |true=>exact yH x y hs pg
   |false=>exact T.Am hA pg hs fun p' h' e ec=>by rw [T.apart x i p' p h' home e hr ec];cases p.out<;>simp
 have hw:∀cc∈p.cases,NoWays w (gs.setIfInBounds i ph) cc:=by
  intro cc hcc
  cases p with
  |recv c z ok=>
   have:cc=rcase c z:=by simpa [Port.cases] using hcc
   subst this
   exact ways_recv_none hc (partners_nil hno)
  |send c v z=>
   have:cc=scase c v z:=by simpa [Port.cases] using hcc
   subst this
   exact ways_send_none hc (by simp) (partners_nil hno)
 have vC:gs.map (woken P g (parked bp p.cases p.shape) w)=gs:=by
  have:woken P g (parked bp p.cases p.shape) w=id:=by funext y;simp [woken,parked]
  rw [this,Array.map_id]
 have hu:upd ρ i (.seat p home)=ρ:=by
  funext j
  by_cases e:j=i
  ·subst e;rw [O_,hr]
  ·rw [P_ _ _ e]
 obtain ⟨q',T',h1,h2⟩:=T.step hA (a:=g) (a':=parked bp p.cases p.shape) (g':=parked bp p.cases p.shape) (r':=.seat p home) (n':=0) (who':=who) (bZ:=rel) (u:=cC i g.frame.fn g.frame.place #[]) hi (fun j _=>RB.refl j w) (C_ _) (fun r ob h _ _=>h) (T.mO i)
  (fun p' h' e=>⟨home,by injection e with e1 e2;rw [<-e1];exact hr⟩) (fun p' h' e=>by cases e) (fun j k d hj=>by rw [hu] at hj;exact T.one j k d hj) (by rw [hu];exact T.holder) ⟨aM.1,.inr ⟨rfl,g,bp,rfl,fH,hh⟩⟩ (T.jS (H:=False) _ _ (by rw [hr]) (by rw [hr];rfl) (fun k e he=>by simp at he) (fun h=>h.elim)) (by rw [hu];exact T.wg) (fun c=>absurd (T.jw (i:=i) (by rw [hr];exact id)) c) (fun hd=>absurd hd (T.fX (by rw [hr];simp))) (by rw [hu];exact T.few) (fun _ _ h=>.inl h) (fun _ e=>by cases e)
 rw [vC] at T'
 refine ⟨_,w,_,upd ρ i (.seat p home),q',who,rel,crowd_waits (sl:=sl) hi (fH.2.2.2.2 w) hw,by simp,T',AH hlt (by rw [hr]) (by simp [aX.fW]) (by omega) h2,Out.refl _ _,by rw [hu];exact fun j=>.inl rfl,fun _=>rfl,fun x hx=> ?_,h2,.inr fun p' h' e=>⟨g,bp,hi,by rw [hr] at e;injection e with e1;subst e1;exact fH⟩,fun hc=>by
  rcases hc i with h|⟨d,h⟩|h<;>rw [hr] at h<;>cases h⟩
 have TS:x≠i:=fun e=>by subst e;rw [hr] at hx;cases hx
 rw [I_ (ru TS)]
theorem aC.RV (T:aC P C b o ae Fin who rel ρ q gs w t) (hA:∀g w,ae g w->g.status=.running) (hS:bO ρ gs w) {g:O'} {p:Port} {home:O'->J'->Prop} (hi:gs[i]?=some g) (hr:ρ i=.seat p home) (hrun:g.status=.running)
 (yH:∀(x:Nat) (y:O'),(ρ x).isSelf=true->gs[x]?=some y->offersAt y p.chan (!p.out)=[]):fp P C b o ae Fin who rel ρ q gs w sl t i:=by
 have aM:=T.eD i g hi
 rw [hr] at aM
 rcases aM.2 with ⟨k,hk,hg⟩|⟨_,dN,bp,rfl,_⟩
 ·rcases hg.cases with dR|⟨k',rfl,hst⟩
  ·obtain ⟨bp,fH,hh⟩:=dR w (RB.refl i w)
   exact T.Yt hA hi hr (by omega) fH hh yH
  ·obtain ⟨g',w',es,hgo,hd,iJ⟩:=hst w (RB.refl i w)
   exact T.Mp hA hS (n':=k'+1) hi (by rw [hr];rfl) (by omega) hgo hd (by rw [hr];exact ⟨aM.1,.inl ⟨k',rfl,iJ⟩⟩) (.inl (Nat.succ_pos _))
 ·cases hrun
end
end Go.aC
