/-
  The kit's contracts and pieces of code, carried into company.
-/
import Derived.Conc.CrowdComm
import Derived.Conc.CrowdSel
import Derived.Conc.MarkLaws
import Derived.Conc.JoinTrace
import Derived.Test.YtnjkbffmmgckeaaGreatDoorPaa
import Derived.Test.YtnjkbffmmgckeaaGreatDoorPac
set_option linter.all false
set_option maxRecDepth 100000
set_option maxHeartbeats 32000000
open Go renaming World->J',Value->M',Goroutine->O',Program->U',Frame->Y',FuncId->w_
open Nat renaming le_refl->C_,lt_of_lt_of_le->E_
open Array renaming getElem?_eq_getElem->H_,getElem?_setIfInBounds_ne->I_,mem_of_getElem?->l_
open Go.ConcN renaming upd_same->O_,upd_ne->P_
namespace Go.aC
section
open Go Go.Conc Go.RowKit
variable {α:Type} {w:J'}
theorem PW {P:U'} {s:Sem α} (hs:ag P s) (hw:bI w w) {a:α} (h:s.run P w=.ok a w) (T:Nat->Question->Nat) (d:Nat):s.run P (w.re T d)=.ok a (w.re T d):=by
 cases hr:s.runT P w #[] with
 |mk r es=>
  have e:=Sem.runT_fst P s w #[]
  rw [hr,h] at e
  simp only at e
  subst e
  obtain ⟨w',h1,h2⟩:=oS hs (pM hw w.tape T w.drawn d) hr trivial (fun i hi=>absurd hi (by show ¬w.drawn+i<w.drawn;omega))
  have h3:=Sem.runT_fst P s (w.re T d) #[]
  rw [h1] at h3
  have e1:=h2.heap rfl
  have e2:=h2.drawn
  have e3:=h2.upd.tape
  have e4:=h2.upd.os
  have e5:=h2.upd.out
  have:w'=w.re T d:=by
   obtain ⟨a1,a2,a3,a4,a5⟩:=w'
   simp only [Result.wd,World.re] at e1 e2 e3 e4 e5 ⊢
   subst e1 e3 e4 e5
   congr 1;omega
  rw [<-h3,this];rfl
def GJ (P:U') (R:M'->J'->Prop) (fr:Y') (X:List Y') (w:J'):Prop:=
 X=[]/\∃v,R v w/\fr.leaving P w (.returned v)
section
variable {P:U'} {ok:w_->Bool}
variable {wl:J'} {R:M'->J'->Prop}
theorem JL (hp:gM P ok) {f:w_} (h1:ok f=true) (h2:rU P f=true) {args:Array M'} (hw:bI wl wl) (hR:∀v w T d,R v w->R v (w.re T d))
 (h:∀T d,Calls P f args (wl.re T d) fun e w'=>∃v,e=.returned v/\R v w'):LW P (fun K=>K=[]) (fun fr X w=>GJ P R fr X w/\bI w w) (Frame.enter P f args .normal) [] wl:=by
 have hl:=xk (KS:=fun K=>K=[]) (K₀:=[]) hp rfl (.inl ⟨rfl,fun _ h=>h⟩) (Q:=GJ P R) (fun fr X w hq=>by
  obtain ⟨_,v,_,hm,_⟩:=hq
  rw [hm];exact fun h=>h) (fun fr X w T d h4 hq=>by
  obtain ⟨h3,v,h5,h6,h7,h8,fn,h9,O1⟩:=hq
  exact ⟨h3,v,hR _ _ _ _ h5,h6,h7,h8,fn,h9,PW (iH fn fr.tmps) h4 O1 T d⟩)
  {fr:=Frame.enter P f args .normal,X:=[],wl:=wl,kj:=wU hp h1 h2 args,hX:=by simp,hw:=hw} (fun T d=>by
  obtain ⟨e,w',fr,⟨v,rfl,hv⟩,hs,_,hl⟩:=h T d [aT]
  obtain ⟨n,hn⟩:=hs
  refine ⟨n,fr,[],w', ?_,rfl,v,hv,hl⟩
  show runN P n (lone (ext [] (Frame.enter P f args .normal)) ([]++[aT]) (wl.re T d))=_
  rw [ext_nil];exact hn)
 simp only [D1,ext_nil,xO] at hl
 exact hl
variable {U:J'}
theorem zG (hp:gM P ok) (hid gd:Nat->Nat->Prop) (main:Bool) (c:Y') (cs:List Y') {f:w_} (h1:ok f=true) (h2:rU P f=true) {args:Array M'} (hR:∀v w T d,R v w->R v (w.re T d))
 (h:∀T d,Calls P f args (wl.re T d) fun e w'=>∃v,e=.returned v/\R v w') {n:Nat} (hc:Cut hid gd wl) (hw:bI wl w) (fI:Shut n U wl):
 Walk P main (Out hid) (LO n U hid gd) (fun g w'=>∃v aK,g=G (c.finish v) cs/\R v aK/\Cut hid gd aK/\bI aK w'/\Shut n U aK) (G (Frame.enter P f args .normal) (c::cs)) w:=by
 have vC:=LW.walk (KS:=fun K=>K=[]) (hid:=hid) (gd:=gd) [] rfl main (c::cs) (JL hp h1 h2 hw.self hR h) hc hw fI
 simp only [D1,ext_nil,xO] at vC
 refine vC.bind (Out.refl hid) ?_
 rintro g w' ⟨fr,X,aK,rfl,⟨⟨rfl,v,hv,hm,hd,hk,fn,xF,hr⟩,hww⟩,hc',gC,qm⟩
 refine Walk.gU rfl fun w₁ h₁=> ?_
 have cv:=gC.outside hc' h₁
 have pk:(results fn fr.tmps).runT P aK #[]=(.ok v aK,((results fn fr.tmps).runT P aK #[]).2):=by
  have:=Sem.runT_fst P (results fn fr.tmps) aK #[]
  rw [hr] at this
  rw [<-this]
 obtain ⟨w2,h3,h4⟩:=oS (iH fn fr.tmps) cv pk trivial (fun i hi=>absurd hi (by show ¬aK.drawn+i<aK.drawn;omega))
 refine ⟨G (c.finish v) cs,w2,seen P fr.fn ((results fn fr.tmps).runT P aK #[]).2, ?_,⟨tO hc' h4.seen cv.size,fun hb=>kO qm hb cv.size h4.upd⟩,.stop fun DU xo=>⟨v,aK,rfl,hv,hc', ?_,qm⟩⟩
 ·have:({frame:=fr,callers:=[]++c::cs,status:=.running,dying:=none}:O')=G fr ([]++c::cs):=rfl
  simp only [stepG,G,hm,unwind,hd,xF]
  rw [h3]
  simp [doReturn,hk,GStep.after,Result.D6]
 ·exact h4.weak.outside hc' xo
def Fu (b:Y') (k:List Item) (Q:Exit->Act->J'->Prop) (fr:Y') (w:J'):Prop:=
 ∃e a,Q e a w/\match e with
  | .normal=>fr=b.at a k
  | .ret=>∃todo,fr={b.at a todo with mode:=.returning}
  |_=>False
def V0 (Q:Exit->Act->J'->Prop):Prop:=∀e a w,Q e a w->e=.normal\/e=.ret
variable {a:Act} {Q:Exit->Act->J'->Prop}
theorem MS (hp:gM P ok) {b:Y'} {c:Code} (hf:OkFr P ok (b.at a [.code c])) (hw:bI wl wl) (hT:V0 Q)
 (hQ:∀e a w T d,bI w w->Q e a w->Q e a (w.re T d)) (h:∀T d,c.wp P Q a (wl.re T d)):
 LW P (fun _=>True) (fun fr X w=>(df fR X=[]/\Fu b fR Q (ext (tl fR X) fr) w)/\bI w w) (b.at a [.code c]) [] wl:=by
 refine xk (KS:=fun _=>True) (K₀:=fR) hp trivial (.inr rfl) (Q:=fun fr X w=>X=[]/\Fu b fR Q fr w) (fun fr X w hq=> ?_) (fun fr X w T d h4 hq=> ?_)
  {fr:=b.at a [.code c],X:=[],wl:=wl,kj:=hf,hX:=by simp,hw:=hw} (fun T d=> ?_)
 ·obtain ⟨_,e,a,hq,hm⟩:=hq
  rcases hT e a w hq with rfl|rfl
  ·rw [hm];exact fun h=>h
  ·obtain ⟨todo,hm⟩:=hm;rw [hm];exact fun h=>h
 ·obtain ⟨h1,e,a,hq,hm⟩:=hq
  exact ⟨h1,e,a,hQ _ _ _ _ _ h4 hq,hm⟩
 ·obtain ⟨e,a',w',hq,Vn⟩:=h T d b fR [aT]
  rcases hT e a' w' hq with rfl|rfl
  ·obtain ⟨n,hn⟩:=Vn
   exact ⟨n,_,[],w',hn,rfl,_,a',hq,rfl⟩
  ·obtain ⟨todo,n,hn⟩:=Vn
   exact ⟨n,_,[],w',hn,rfl,_,a',hq,todo,rfl⟩
theorem zF (hp:gM P ok) (hid gd:Nat->Nat->Prop) (main:Bool) (cs:List Y') {b:Y'} {c:Code} (k:List Item) (hf:OkFr P ok (b.at a [.code c])) (hT:V0 Q)
 (hQ:∀e a w T d,bI w w->Q e a w->Q e a (w.re T d)) (h:∀T d,c.wp P Q a (wl.re T d)) {n:Nat} (hc:Cut hid gd wl) (hw:bI wl w) (fI:Shut n U wl):
 Walk P main (Out hid) (LO n U hid gd) (fun g w'=>∃fr aK,g=G fr cs/\Fu b k Q fr aK/\Cut hid gd aK/\bI aK w'/\Shut n U aK) (G (b.at a (.code c::k)) cs) w:=by
 refine (LW.walk (hid:=hid) (gd:=gd) k trivial main cs (MS hp hf hw.self hT hQ h) hc hw fI).bind (Out.refl hid) ?_
 rintro g w' ⟨fr,X,aK,rfl,⟨⟨hX,e,a',hq,hm⟩,_⟩,hc',gC,qm⟩
 cases X with
 |cons x X=>cases hX
 |nil=>
  refine .stop fun w₁ h₁=>⟨ext k fr,aK,rfl,⟨e,a',hq, ?_⟩,hc',gC.outside hc' h₁,qm⟩
  have Ge:=hm
  obtain ⟨fn,tmps,todo,defers,mode,kind,roundOf⟩:=fr
  rcases hT e a' aK hq with rfl|rfl
  ·simp only [tl,ext,Frame.at,Frame.mk.injEq] at hm ⊢
   obtain ⟨rfl,rfl,h3,rfl,rfl,rfl,rfl⟩:=hm
   refine ⟨rfl,rfl, ?_,rfl,rfl,rfl,rfl⟩
   have:todo=[]:=List.append_cancel_right (as:=todo) (bs:=fR) (cs:=[]) (by simpa using h3)
   rw [this];rfl
  ·obtain ⟨td,hm⟩:=hm
   refine ⟨todo++k, ?_⟩
   simp only [tl,ext,Frame.at,Frame.mk.injEq] at hm ⊢
   obtain ⟨rfl,rfl,h3,rfl,rfl,rfl,rfl⟩:=hm
   simp
end
end
section
open Go Go.Conc
open Go.ConcN (sumTo upd sumTo_upd upd_ne upd_same sumTo_congr)
def KK:Int:=4294967296
structure cx (b o:Nat) (w:J') (s:Int) (m:Int):Prop where
 st:w.cell? ⟨b,o,none⟩=some (.int .u64 s)
 sm:w.cell? ⟨b,o+1,none⟩=some (.int .u32 m)
 thaw:w.frozen? ⟨b,o,none⟩=false/\w.frozen? ⟨b,o+1,none⟩=false
def Live (b o:Nat) (w:J'):Prop:=∃s m,cx b o w s m
inductive Port where
 |recv (c:Nat) (z:M') (ok:Bool)
 |send (c:Nat) (v z:M')
def Port.cases:Port->Array CommCase
 | .recv c z _=>#[rcase c z]
 | .send c v z=>#[scase c v z]
def Port.shape:Port->CommShape
 | .recv _ _ ok=>.recv ok
 | .send ..=>.send
def Port.chan:Port->Nat
 | .recv c ..| .send c ..=>c
def Port.out:Port->Bool
 | .recv ..=>false
 | .send ..=>true
inductive Tag where
 |w0|IQ|w1|w2 (v:Nat)|w3|w4|w5|w6
 deriving DecidableEq
inductive aX where
 |self (k d:Nat)
 |seat (p:Port) (home:O'->J'->Prop)
 |shut (p:Port) (home:O'->J'->Prop)
 |done|rel|deaf|ky|kx|ku
 |quit (d:Nat)
 |wait (t:Tag)
 |none
def aX.loose:aX->Bool
 | .seat ..| .shut ..| .done=>true
 |_=>false
def aX.count:aX->Nat
 | .self k _=>k
 | .seat ..| .shut ..| .done| .rel| .deaf=>1
 |_=>0
def aX.isLast:aX->Bool
 | .ky| .kx| .ku=>true
 |_=>false
def aX.dd:aX->Nat
 | .self _ d=>d
 | .deaf| .ky| .kx| .ku=>1
 | .quit d=>d
 | .wait .IQ| .wait .w1| .wait (.w2 _)| .wait .w3| .wait .w4| .wait .w5=>1
 |_=>0
def aX.fW:aX->Nat
 | .seat ..=>9
 | .shut ..=>8
 | .done=>7
 | .rel=>6
 | .deaf=>5
 | .ky=>4
 | .kx=>3
 | .ku=>2
 | .quit _=>1
 |_=>0
def aX.isSelf:aX->Bool
 | .self ..=>true
 |_=>false
section
variable (P:U') (C:cS) (b o:Nat)
structure RB (i:Nat) (w w₁:J'):Prop where
 live:C.on->Live b o w->Live b o w₁
 cells:∀x k,C.Pv i (.cell ⟨x,k,none⟩)\/C.St i (.cell ⟨x,k,none⟩)->w₁.cell? ⟨x,k,none⟩=w.cell? ⟨x,k,none⟩/\w₁.frozen? ⟨x,k,none⟩=w.frozen? ⟨x,k,none⟩
 gz:∀r,C.Pv i (.obj r)\/C.St i (.obj r)->w₁.heap[r]?=w.heap[r]?
def NY (i:Nat) (e:Event):Prop:=
 ((MemAct.ofEvent e).touch?=none\/∃x,(MemAct.ofEvent e).touch?=some x/\¬C.Sh x.loc/\(C.Pv i x.loc\/x.write=false/\C.St i x.loc))/\e.loc≠.mark .disable/\e.loc≠.mark .enable/\∀x,e.loc≠.mark (.release x)
def DR (i:Nat) (w w':J') (es:Array Event):Prop:=Out (fun x k=>C.Pv i (.cell ⟨x,k,none⟩)) w w'/\∀e∈es,NY C i e
def D0 (w w':J') (es:Array Event):Prop:=w'=w/\es=#[]
def DW (w w':J') (es:Array Event):Prop:=w'=w/\∀e∈es,e=⟨.mark (.write ⟨b,o+1,none⟩),false,true⟩
def gP (main:Bool) (p:Port) (g bp:O'):Prop:=
 g.status=.running/\g.frame=bp.frame/\g.callers=bp.callers/\g.dying=bp.dying/\∀w,stepG P main g w=.comm bp p.cases true p.shape w #[]
def Sits (i:Nat) (p:Port) (home:O'->J'->Prop) (n:Nat) (g:O') (w:J'):Prop:=
 (∃k,n=k+1/\Goes P (i==0) (RB C b o i) (DR C i) (fun g w=>∃bp,gP P (i==0) p g bp/\home bp w) k g w)\/(n=0/\∃dN bp,g=parked bp p.cases p.shape/\gP P (i==0) p dN bp/\home bp w)
section
variable (i:Nat)
def mF (a:Addr):Event:=⟨.cell a,false,true⟩
def vT (a:Addr):Event:=⟨.cell a,true,true⟩
def mh (m:Mark):Event:=⟨.mark m,false,true⟩
def AtD4 (g:O') (w:J'):Prop:=
 g.status=.running/\mayWake P g=true/\(cx b o w 0 0->∃g',g'.status=.running/\stepG P false g w=.go g' (w.setCell ⟨b,o+1,none⟩ (.int .u32 1)) (semEvents ⟨b,o+1,none⟩)/\∃q,QuitsD P q 1 g')
def AtD3 (g:O') (w:J'):Prop:=
 g.status=.running/\(cx b o w 1 0->∃g',stepG P false g w=.go g' (w.setCell ⟨b,o,none⟩ (.int .u64 0)) #[vT ⟨b,o,none⟩]/\∃m,Goes P false (RB C b o i) D0 (AtD4 P b o) m g' (w.setCell ⟨b,o,none⟩ (.int .u64 0)))
def AtD2 (g:O') (w:J'):Prop:=
 g.status=.running/\(cx b o w 1 0->∃g',stepG P false g w=.go g' w #[mF ⟨b,o,none⟩]/\∃m,Goes P false (RB C b o i) D0 (AtD3 P C b o i) m g' w)
def AtD1 (g:O') (w:J'):Prop:=
 g.status=.running/\∀v wt:Nat,wt<=1->v<2147483647->cx b o w ((v+1:Nat) * KK+wt) 0->
  ∃g',stepG P false g w=.go g' (w.setCell ⟨b,o,none⟩ (.int .u64 (v * KK+wt))) #[mF ⟨b,o,none⟩,vT ⟨b,o,none⟩]/\
   ((v=0/\wt=1)->∃m,Goes P false (RB C b o i) D0 (AtD2 P C b o i) m g' (w.setCell ⟨b,o,none⟩ (.int .u64 (v * KK+wt))))/\(¬(v=0/\wt=1)->∃q,QuitsD P q 1 g')
def AtK1 (g:O') (w:J'):Prop:=
 g.status=.running/\∃g',stepG P false g w=.go g' w #[mh .disable]/\∃m,Goes P false (RB C b o i) D0 (AtD1 P C b o i) m g' w
def AtR0 (g:O') (w:J'):Prop:=
 g.status=.running/\∃g',stepG P false g w=.go g' w #[mh (.releaseMerge ⟨b,o,none⟩)]/\∃m,Goes P false (RB C b o i) D0 (AtK1 P C b o i) m g' w
end
section
variable (ae Fin:O'->J'->Prop)
def AtAcq (g:O') (w:J'):Prop:=
 g.status=.running/\∃g',stepG P true g w=.go g' w #[mh (.acquire ⟨b,o,none⟩)]/\Fin g' w
def AtKe (g:O') (w:J'):Prop:=
 g.status=.running/\∃g',stepG P true g w=.go g' w #[mh .enable]/\∃m,Goes P true (RB C b o 0) (DW b o) (AtAcq P b o Fin) m g' w
def AtW4 (g:O') (w:J'):Prop:=
 g.status=.running/\(cx b o w 0 0->∃g',stepG P true g w=.go g' w #[mF ⟨b,o,none⟩]/\∃m,Goes P true (RB C b o 0) (DW b o) (AtKe P C b o Fin) m g' w)
def AtW3 (g:O') (w:J'):Prop:=
 g.status=.running/\g.offers=none/\((∃s,cx b o w s 0)->stepG P true g w=.go {g with status:=.blocked} w #[])/\
  (cx b o w 0 1->∃g',stepG P true g w=.go g' (w.setCell ⟨b,o+1,none⟩ (.int .u32 0)) (semEvents ⟨b,o+1,none⟩)/\∃m,Goes P true (RB C b o 0) (DW b o) (AtW4 P C b o Fin) m g' (w.setCell ⟨b,o+1,none⟩ (.int .u32 0)))
def AtW2 (vs:Nat) (g:O') (w:J'):Prop:=
 g.status=.running/\∀v:Nat,v<2147483648->cx b o w (v * KK) 0->
  (v=vs->∃g',stepG P true g w=.go g' (w.setCell ⟨b,o,none⟩ (.int .u64 (v * KK+1))) #[mF ⟨b,o,none⟩,vT ⟨b,o,none⟩]/\∃m,Goes P true (RB C b o 0) (DW b o) (AtW3 P C b o Fin) m g' (w.setCell ⟨b,o,none⟩ (.int .u64 (v * KK+1))))/\
  (v≠vs->∃g',stepG P true g w=.go g' w #[mF ⟨b,o,none⟩]/\∃m,Goes P true (RB C b o 0) (DW b o) ae m g' w)
def AtW1 (g:O') (w:J'):Prop:=
 g.status=.running/\∀v:Nat,v<2147483648->cx b o w (v * KK) 0->∃g',stepG P true g w=.go g' w #[mF ⟨b,o,none⟩]/\
  (v=0->∃m,Goes P true (RB C b o 0) (DW b o) (AtKe P C b o Fin) m g' w)/\(v≠0->∃m,Goes P true (RB C b o 0) (DW b o) (AtW2 P C b o ae Fin v) m g' w)
def AtKd (g:O') (w:J'):Prop:=
 g.status=.running/\∃g',stepG P true g w=.go g' w #[mh .disable]/\∃m,Goes P true (RB C b o 0) (DW b o) ae m g' w
def GA:Tag->Nat->O'->J'->Prop
 | .w0,n,g,w=>Goes P true (RB C b o 0) (DW b o) (AtKd P C b o ae) n g w
 | .IQ,n,g,w=>Goes P true (RB C b o 0) (DW b o) ae n g w
 | .w1,n,g,w=>Goes P true (RB C b o 0) (DW b o) (AtW1 P C b o ae Fin) n g w
 | .w2 v,n,g,w=>0<v/\Goes P true (RB C b o 0) (DW b o) (AtW2 P C b o ae Fin v) n g w
 | .w3,n,g,w=>(∃k,n=k+1/\Goes P true (RB C b o 0) (DW b o) (AtW3 P C b o Fin) k g w)\/(n=0/\∃dN,AtW3 P C b o Fin dN w/\g={dN with status:=.blocked}/\∀w₁,RB C b o 0 w w₁->AtW3 P C b o Fin dN w₁)
 | .w4,n,g,w=>Goes P true (RB C b o 0) (DW b o) (AtW4 P C b o Fin) n g w
 | .w5,n,g,w=>Goes P true (RB C b o 0) (DW b o) (AtKe P C b o Fin) n g w
 | .w6,n,g,w=>Goes P true (RB C b o 0) (DW b o) (AtAcq P b o Fin) n g w
end
def fx (ae Fin:O'->J'->Prop) (i:Nat) (r:aX) (n:Nat) (g:O') (w:J'):Prop:=
 match r with
 | .self ..=>True
 | .shut p home=>0<i/\(∀w w₁ g,RB C b o i w w₁->home g w->home g w₁)/\(∃c z ok,p=.recv c z ok/\∀bp w,home bp w->∃m,Goes P false (RB C b o i) (DR C i) (AtR0 P C b o i) m (Go.Conc.served bp (recvd ok z false)) w)/\
  Goes P false (RB C b o i) (DR C i) (fun g w=>∃bp,gP P false p g bp/\home bp w) n g w
 | .seat p home=>(∀w w₁ g,RB C b o i w w₁->home g w->home g w₁)/\Sits P C b o i p home n g w
 | .done=>0<i/\Goes P false (RB C b o i) (DR C i) (AtR0 P C b o i) n g w
 | .rel=>0<i/\Goes P false (RB C b o i) D0 (AtK1 P C b o i) n g w
 | .deaf=>0<i/\Goes P false (RB C b o i) D0 (AtD1 P C b o i) n g w
 | .ky=>0<i/\Goes P false (RB C b o i) D0 (AtD2 P C b o i) n g w
 | .kx=>0<i/\Goes P false (RB C b o i) D0 (AtD3 P C b o i) n g w
 | .ku=>0<i/\Goes P false (RB C b o i) D0 (AtD4 P b o) n g w
 | .quit d=>0<i/\QuitsD P n d g
 | .wait t=>i=0/\GA P C b o ae Fin t n g w
 | .none=>False
end
section
variable {P:U'} {C:cS} {b o:Nat} {ae Fin:O'->J'->Prop}
theorem RB.refl (i:Nat) (w:J'):RB C b o i w w:=⟨fun _=>id,fun _ _ _=>⟨rfl,rfl⟩,fun _ _=>rfl⟩
variable {i:Nat}
theorem RB.trans:∀a d e,RB C b o i a d->RB C b o i d e->RB C b o i a e:=fun _ _ _ h k=>
 ⟨fun c x=>k.live c (h.live c x),fun x j hx=>⟨(k.cells x j hx).1.trans (h.cells x j hx).1,(k.cells x j hx).2.trans (h.cells x j hx).2⟩,fun r hr=>(k.gz r hr).trans (h.gz r hr)⟩
theorem RB.at (i:Nat) (w:J') (d:Nat):RB C b o i w (w.at d):=⟨fun _ ⟨s,m,h⟩=>⟨s,m,h.st,h.sm,h.thaw⟩,fun _ _ _=>⟨rfl,rfl⟩,fun _ _=>rfl⟩
variable {g:O'} {w:J'}
theorem fx.rely {r:aX} {n:Nat} {w₁:J'} (h:fx P C b o ae Fin i r n g w) (hr:RB C b o i w w₁):fx P C b o ae Fin i r n g w₁:=by
 cases r with
 |self k d=>trivial
 |shut p home=>exact ⟨h.1,h.2.1,h.2.2.1,Goes.rely RB.trans h.2.2.2 hr⟩
 |seat p home=>
  refine ⟨h.1, ?_⟩
  rcases h.2 with ⟨k,rfl,hg⟩|⟨rfl,dN,bp,rfl,fH,hh⟩
  ·exact .inl ⟨k,rfl,hg.rely RB.trans hr⟩
  ·exact .inr ⟨rfl,dN,bp,rfl,fH,h.1 _ _ _ hr hh⟩
 |done=>exact ⟨h.1,Goes.rely RB.trans h.2 hr⟩
 |rel=>exact ⟨h.1,Goes.rely RB.trans h.2 hr⟩
 |deaf=>exact ⟨h.1,Goes.rely RB.trans h.2 hr⟩
 |ky=>exact ⟨h.1,Goes.rely RB.trans h.2 hr⟩
 |kx=>exact ⟨h.1,Goes.rely RB.trans h.2 hr⟩
 |ku=>exact ⟨h.1,Goes.rely RB.trans h.2 hr⟩
 |quit d=>exact h
 |none=>exact h
 |wait t=>
  obtain ⟨rfl,h⟩:=h
  refine ⟨rfl, ?_⟩
  cases t with
  |w3=>
   rcases h with ⟨k,rfl,hg⟩|⟨rfl,dN,h1,rfl,h2⟩
   ·exact .inl ⟨k,rfl,hg.rely RB.trans hr⟩
   ·exact .inr ⟨rfl,dN,h2 _ hr,rfl,fun lZ iN=>h2 _ (RB.trans _ _ _ hr iN)⟩
  |w2 v=>exact ⟨h.1,Goes.rely RB.trans h.2 hr⟩
  |_=>exact Goes.rely RB.trans h hr
theorem fx.status (hA:∀g w,ae g w->g.status=.running) {r:aX} {n:Nat} (h:fx P C b o ae Fin i r n g w) (hs:r.isSelf=false):
 g.status=.running\/g.status=.finished\/(g.status=.blocked/\n=0/\((∃p home,r=.seat p home)\/r=.wait .w3)):=by
 cases r with
 |self k d=>cases hs
 |shut p home=>exact .inl (h.2.2.2.running (fun _ _ x=>x.choose_spec.1.1) w (RB.refl i w))
 |seat p home=>
  rcases h.2 with ⟨k,rfl,hg⟩|⟨rfl,dN,bp,rfl,fH,hh⟩
  ·exact .inl (hg.running (fun _ _ x=>x.choose_spec.1.1) w (RB.refl i w))
  ·exact .inr (.inr ⟨rfl,rfl,.inl ⟨_,_,rfl⟩⟩)
 |done=>exact .inl (h.2.running (fun _ _ x=>x.1) w (RB.refl i w))
 |rel=>exact .inl (h.2.running (fun _ _ x=>x.1) w (RB.refl i w))
 |deaf=>exact .inl (h.2.running (fun _ _ x=>x.1) w (RB.refl i w))
 |ky=>exact .inl (h.2.running (fun _ _ x=>x.1) w (RB.refl i w))
 |kx=>exact .inl (h.2.running (fun _ _ x=>x.1) w (RB.refl i w))
 |ku=>exact .inl (h.2.running (fun _ _ x=>x.1) w (RB.refl i w))
 |quit d=>exact h.2.status.imp id .inl
 |none=>exact h.elim
 |wait t=>
  obtain ⟨rfl,h⟩:=h
  cases t with
  |w3=>
   rcases h with ⟨k,rfl,hg⟩|⟨rfl,dN,h1,rfl,h2⟩
   ·exact .inl (hg.running (fun _ _ x=>x.1) w (RB.refl 0 w))
   ·exact .inr (.inr ⟨rfl,rfl,.inr rfl⟩)
  |w0=>exact .inl (Goes.running (fun _ _ x=>x.1) w (RB.refl 0 w) h)
  |IQ=>exact .inl (Goes.running hA w (RB.refl 0 w) h)
  |w1=>exact .inl (Goes.running (fun _ _ x=>x.1) w (RB.refl 0 w) h)
  |w2 v=>exact .inl (Goes.running (fun _ _ x=>x.1) w (RB.refl 0 w) h.2)
  |w4=>exact .inl (Goes.running (fun _ _ x=>x.1) w (RB.refl 0 w) h)
  |w5=>exact .inl (Goes.running (fun _ _ x=>x.1) w (RB.refl 0 w) h)
  |w6=>exact .inl (Goes.running (fun _ _ x=>x.1) w (RB.refl 0 w) h)
end
variable {w w':J'} {x k:Nat}
theorem Out.cell {hid:Nat->Nat->Prop} (h:Out hid w w') (hn:¬hid x k) (hlt:x<w.heap.size):w'.cell? ⟨x,k,none⟩=w.cell? ⟨x,k,none⟩/\w'.frozen? ⟨x,k,none⟩=w.frozen? ⟨x,k,none⟩:=by
 obtain ⟨ob,ho⟩:∃ob,w.heap[x]?=some ob:=⟨_,H_ hlt⟩
 cases hc:aR ob with
 |true=>
  cases ob<;>simp [aR] at hc
  obtain ⟨c',h1,_,h3⟩:=h.cells x _ _ _ ho
  simp [World.cell?,World.frozen?,ho,h1,h3 k hn]
 |false=>
  have h1:=h.gz x ob ho hc
  simp [World.cell?,World.frozen?,ho,h1]
variable {es:Array Event}
theorem Sd.cell {hid gd:Nat->Nat->Prop} (h:Sd hid gd w w' es) (hn:hid x k\/gd x k) (hlt:x<w.heap.size):w'.cell? ⟨x,k,none⟩=w.cell? ⟨x,k,none⟩/\w'.frozen? ⟨x,k,none⟩=w.frozen? ⟨x,k,none⟩:=by
 obtain ⟨ob,ho⟩:∃ob,w.heap[x]?=some ob:=⟨_,H_ hlt⟩
 cases hc:aR ob with
 |true=>
  cases ob<;>simp [aR] at hc
  obtain ⟨c',h1,_,h3⟩:=h.cells x _ _ _ ho
  simp [World.cell?,World.frozen?,ho,h1,h3 k hn]
 |false=>
  obtain ⟨zk,h1,h2⟩:=h.gz x ob ho hc
  cases ob<;>simp [aR] at hc<;>cases zk<;>simp [aR] at h2<;>simp [World.cell?,World.frozen?,ho,h1]
theorem lC {a:Addr} {v:M'} (h:w.cell? a=some v):a.block<w.heap.size:=by
 obtain ⟨c,e,f,hb,_⟩:=dF h
 exact (cI hb)
theorem di (w:J') {x' k':Nat} (v:M') (h:x≠x'\/k≠k'):(w.setCell ⟨x,k,none⟩ v).cell? ⟨x',k',none⟩=w.cell? ⟨x',k',none⟩:=by
 unfold World.cell?
 simp only [heap_setCell]
 by_cases hx:x=x'
 ·subst hx
  have hk:k≠k':=h.elim (fun q=>absurd rfl q) id
  cases hb:w.heap[x]? with
  |none=>simp
  |some ob=>cases ob<;>simp [I_ hk]
 ·simp [hx]
theorem oz {XZ:M'} (v:M') (h:w.cell? ⟨x,k,none⟩=some XZ):(w.setCell ⟨x,k,none⟩ v).cell? ⟨x,k,none⟩=some v:=by
 obtain ⟨c,e,f,hb,hk⟩:=dF h
 have hlt:k<c.size:=(cI hk)
 unfold World.cell?
 simp only [heap_setCell]
 simp only at hb
 simp [hb,hlt]
theorem jq (w:J') (a a':Addr) (v:M'):(w.setCell a v).frozen? a'=w.frozen? a':=by
 unfold World.frozen?
 simp only [heap_setCell]
 by_cases hx:a.block=a'.block
 ·simp only [hx,if_true]
  cases hb:w.heap[a'.block]? with
  |none=>rfl
  |some ob=>cases ob<;>rfl
 ·simp [hx]
theorem mU {a:Addr} {v:M'} {r:Nat} {ob:Obj} (h:w.heap[r]?=some ob) (hc:aR ob=false):(w.setCell a v).heap[r]?=some ob:=by
 rw [heap_setCell]
 split
 ·rw [h];cases ob<;>first|(cases hc;done)|rfl
 ·exact h
theorem gH (w:J') (x k:Nat) (v:M'):Out (fun x' k'=>x'=x/\k'=k) w (w.setCell ⟨x,k,none⟩ v):=by
 refine ⟨by simp [World.setCell],fun y c e f hb=> ?_,fun y ob hb hc=>mU hb hc,rfl,rfl,rfl⟩
 rw [heap_setCell]
 by_cases hx:x=y
 ·subst hx
  refine ⟨c.setIfInBounds k v,by simp [hb],by simp,fun k' hk=> ?_⟩
  rw [I_ (fun e=>hk ⟨rfl,e.symm⟩)]
 ·exact ⟨c,by simp [hx,hb],rfl,fun _ _=>rfl⟩
theorem Out.mono {hid UM:Nat->Nat->Prop} (h:Out hid w w') (hs:∀x k,hid x k->UM x k):Out UM w w':=
 ⟨h.size,fun x c e f hb=>let ⟨c',h1,h2,h3⟩:=h.cells x c e f hb;⟨c',h1,h2,fun k hk=>h3 k fun q=>hk (hs x k q)⟩,h.gz,h.os,h.out,h.tape⟩
variable {b:Nat} {m:Int}
theorem cx.setSt {o:Nat} {s:Int} (h:cx b o w s m) (s':Int):cx b o (w.setCell ⟨b,o,none⟩ (.int .u64 s')) s' m:=
 ⟨oz _ h.st,by rw [di _ _ (.inr (by omega))];exact h.sm,by rw [jq,jq];exact h.thaw⟩
theorem cx.setSm {o:Nat} {s:Int} (h:cx b o w s m) (m':Int):cx b o (w.setCell ⟨b,o+1,none⟩ (.int .u32 m')) s m':=
 ⟨by rw [di _ _ (.inr (by omega))];exact h.st,oz _ h.sm,by rw [jq,jq];exact h.thaw⟩
theorem cx.keep {o:Nat} {s:Int} (h:cx b o w s m) (h0:w'.cell? ⟨b,o,none⟩=w.cell? ⟨b,o,none⟩/\w'.frozen? ⟨b,o,none⟩=w.frozen? ⟨b,o,none⟩) (h1:w'.cell? ⟨b,o+1,none⟩=w.cell? ⟨b,o+1,none⟩/\w'.frozen? ⟨b,o+1,none⟩=w.frozen? ⟨b,o+1,none⟩):cx b o w' s m:=
 ⟨h0.1.trans h.st,h1.1.trans h.sm,h0.2.trans h.thaw.1,h1.2.trans h.thaw.2⟩
def bS (C:cS) (x k:Nat):Prop:=C.Sh (.cell ⟨x,k,none⟩)\/C.Gr (.cell ⟨x,k,none⟩)\/∃g,C.Pv g (.cell ⟨x,k,none⟩)
def fy (C:cS) (x k:Nat):Prop:=∃g,C.St g (.cell ⟨x,k,none⟩)
def cnt (ρ:Nat->aX) (n:Nat):Nat:=sumTo n fun i=>(ρ i).count
def dy (b o:Nat) (ρ:Nat->aX) (n:Nat) (w:J'):Prop:=
 match ρ 0 with
 | .wait .w3=>((∀j,(ρ j).isLast=false)/\(0<cnt ρ n/\cx b o w (cnt ρ n * KK+1) 0\/cnt ρ n=0/\cx b o w 0 1))\/
  (cnt ρ n=0/\∃i,(∀j,(ρ j).isLast=true->j=i)/\((ρ i=.ky\/ρ i=.kx)/\cx b o w 1 0\/ρ i=.ku/\cx b o w 0 0))
 | .wait .w4| .wait .w5| .wait .w6=>(∀j,(ρ j).isLast=false)/\cnt ρ n=0/\cx b o w 0 0
 |_=>(∀j,(ρ j).isLast=false)/\cx b o w (cnt ρ n * KK) 0
def aX.FP:aX->Prop
 | .quit _| .none=>True
 | .self k _=>k=0
 |_=>False
def aX.isW3:aX->Bool
 | .wait .w3=>true
 |_=>false
def Acc (who:Option Nat) (rel:Nat->Prop) (t:Trace) (i:Nat):Prop:=
 match who with
 |some h=>Knows t h i
 |none=>∃p,rel p/\Before t i p
structure aC (P:U') (C:cS) (b o:Nat) (ae Fin:O'->J'->Prop) (who:Option Nat) (rel:Nat->Prop) (ρ:Nat->aX) (q:Nat->Nat) (gs:Array O') (w:J') (t:Trace):Prop where
 ok:C.Ok
 ad:C.ad=⟨b,o,none⟩
 yk:∀l,C.Sh l↔C.on/\(l=.cell ⟨b,o,none⟩\/l=.cell ⟨b,o+1,none⟩)
 IB:∀l,C.Gr l->∃x k,l=.cell ⟨x,k,none⟩/\x<w.heap.size
 Ls:∀g,C.Dd g->∃d,ρ g=.quit d
 old:∀g l,C.St g l\/C.Pv g l->g<gs.size
 plain:∀g l,C.St g l\/C.Pv g l->(∃x k,l=.cell ⟨x,k,none⟩)\/∃r,l=.obj r
 CG:∀g x k,C.Pv g (.cell ⟨x,k,none⟩)\/C.St g (.cell ⟨x,k,none⟩)->x<w.heap.size
 mO:∀g r,C.Pv g (.obj r)\/C.St g (.obj r)->∃ob,w.heap[r]?=some ob/\aR ob=false
 tr:Tr C (fun i=>(ρ i).loose=true) rel gs.size (fun i=>(ρ i).dd) (Acc who rel t) t
 eD:∀i g,gs[i]?=some g->fx P C b o ae Fin i (ρ i) (q i) g w
 above:∀i,gs.size<=i->ρ i=.none
 chans:∀i p home,ρ i=.seat p home->∃k,w.heap[p.chan]?=some (.chan 0 #[] false k k false)
 apart:∀i j p p' h h',ρ i=.seat p h->ρ j=.seat p' h'->p.chan=p'.chan->p.out=p'.out
 shuts:∀i p home,ρ i=.shut p home->∃k,w.heap[p.chan]?=some (.chan 0 #[] true k k false)
 one:∀i k d,ρ i=.self k d->who=some i
 holder:∀x,who=some x->x=0\/(ρ x).isSelf=true\/ρ x=.done
 few:cnt ρ gs.size<2147483647
 wg:C.on->dy b o ρ gs.size w
 off:¬C.on->∀j,(ρ j).FP
 cX:0<gs.size
 awake:ρ 0=.wait .w3->cx b o w 0 1->0<q 0
section
variable {P:U'} {C:cS} {o:Nat} {ae Fin:O'->J'->Prop} {who who':Option Nat} {rel bZ:Nat->Prop} {ρ:Nat->aX} {q:Nat->Nat} {gs:Array O'} {t u:Trace}
variable {i:Nat}
theorem Acc.app (h:∀p,rel p->bZ p) (ha:Acc who rel t i):Acc who bZ (t++u) i:=by
 cases who with
 |some g=>exact Knows.app u ha
 |none=>exact ha.imp fun p hp=>⟨h p hp.1,hp.2.app u⟩
theorem dy.live {n:Nat} (h:dy b o ρ n w):Live b o w:=by
 unfold dy at h
 split at h
 ·rcases h with ⟨_,⟨_,h⟩|⟨_,h⟩⟩|⟨_,i,_,⟨_,h⟩|⟨_,h⟩⟩<;>exact ⟨_,_,h⟩
 ·exact ⟨_,_,h.2.2⟩
 ·exact ⟨_,_,h.2.2⟩
 ·exact ⟨_,_,h.2.2⟩
 ·exact ⟨_,_,h.2⟩
theorem dy.keep {n:Nat} (h:dy b o ρ n w) (hk:∀s m,cx b o w s m->cx b o w' s m):dy b o ρ n w':=by
 unfold dy at h ⊢
 split<;>rename_i e<;>simp only [e] at h
 ·rcases h with ⟨h0,⟨h1,h⟩|⟨h1,h⟩⟩|⟨h0,i,h1,⟨h2,h⟩|⟨h2,h⟩⟩
  ·exact .inl ⟨h0,.inl ⟨h1,hk _ _ h⟩⟩
  ·exact .inl ⟨h0,.inr ⟨h1,hk _ _ h⟩⟩
  ·exact .inr ⟨h0,i,h1,.inl ⟨h2,hk _ _ h⟩⟩
  ·exact .inr ⟨h0,i,h1,.inr ⟨h2,hk _ _ h⟩⟩
 ·exact ⟨h.1,h.2.1,hk _ _ h.2.2⟩
 ·exact ⟨h.1,h.2.1,hk _ _ h.2.2⟩
 ·exact ⟨h.1,h.2.1,hk _ _ h.2.2⟩
 ·exact ⟨h.1,hk _ _ h.2⟩
theorem aC.jw (T:aC P C b o ae Fin who rel ρ q gs w t) (h:¬(ρ i).FP):C.on:=by
 by_cases hc:C.on
 ·exact hc
 ·exact absurd (T.off hc i) h
theorem aC.fX (T:aC P C b o ae Fin who rel ρ q gs w t) (h:∀d,ρ i≠.quit d):¬C.Dd i:=fun hd=>by
 obtain ⟨d,e⟩:=T.Ls i hd
 exact h d e
theorem aC.at (T:aC P C b o ae Fin who rel ρ q gs w t) (d:Nat):aC P C b o ae Fin who rel ρ q gs (w.at d) t:=
 ⟨T.ok,T.ad,T.yk,T.IB,T.Ls,T.old,T.plain,T.CG,T.mO,T.tr,fun i g hg=>(T.eD i g hg).rely (RB.at i w d),T.above,T.chans,T.apart,T.shuts,T.one,T.holder,T.few,fun c=>(T.wg c).keep fun _ _ h=>⟨h.st,h.sm,h.thaw⟩,T.off,T.cX,fun h1 h2=>T.awake h1 ⟨h2.st,h2.sm,h2.thaw⟩⟩
theorem aC.P6 (T:aC P C b o ae Fin who rel ρ q gs w t) (h:Out (fun x k=>C.Pv i (.cell ⟨x,k,none⟩)) w w'):
 (∀j,j≠i->RB C b o j w w')/\(C.on->∀s m,cx b o w s m->cx b o w' s m):=by
 have my:C.on->∀s m,cx b o w s m->cx b o w' s m:=fun c s m hs=>
  hs.keep (h.cell (fun q=>(T.ok.off i _ ((T.yk _).2 ⟨c,.inl rfl⟩)).1 q) (lC hs.st)) (h.cell (fun q=>(T.ok.off i _ ((T.yk _).2 ⟨c,.inr rfl⟩)).1 q) (lC hs.sm))
 refine ⟨fun j hj=>⟨fun c ⟨s,m,hs⟩=>⟨s,m,my c s m hs⟩,fun x k hx=>h.cell (fun q=> ?_) (T.CG j x k hx),fun r hr=> ?_⟩,my⟩
 ·have:=T.ok.apart i j _ q (Ne.symm hj)
  exact hx.elim this.1 this.2
 ·obtain ⟨ob,h1,h2⟩:=T.mO j r hr
  rw [h1,h.gz r ob h1 h2]
theorem aC.tq (T:aC P C b o ae Fin who rel ρ q gs w t) (b9:C.on) {v:M'} (hk:k=o\/k=o+1) (hl:Live b o (w.setCell ⟨b,k,none⟩ v)) (j:Nat):RB C b o j w (w.setCell ⟨b,k,none⟩ v):=by
 have h:=gH w b k v
 refine ⟨fun _ _=>hl,fun x k' hx=>h.cell (fun ⟨h1,h2⟩=> ?_) (T.CG j x k' hx),fun r hr=> ?_⟩
 ·subst h1 h2
  have:=T.ok.off j _ ((T.yk (.cell ⟨x,k',none⟩)).2 ⟨b9,hk.imp (fun e=>by rw [e]) (fun e=>by rw [e])⟩)
  exact hx.elim this.1 this.2
 ·obtain ⟨ob,h1,h2⟩:=T.mO j r hr
  rw [h1,h.gz r ob h1 h2]
variable {a':O'}
theorem aC.Mn (T:aC P C b o ae Fin who rel ρ q gs w t) (hA:∀g w,ae g w->g.status=.running) (hch:∀i p home,ρ i=.seat p home->∃k,w'.heap[p.chan]?=some (.chan 0 #[] false k k false)) {j:Nat} {y a:O'} (hy:gs[j]?=some y) (hs:(ρ j).isSelf=false):
 woken P a a' w' y=y\/(ρ j=.wait .w3/\woken P a a' w' y={y with status:=.running}/\y.status=.blocked):=by
 have key:y.again w'=y\/(ρ j=.wait .w3/\y.again w'={y with status:=.running}/\y.status=.blocked):=by
  have hr:=T.eD j y hy
  rcases hr.status hA hs with h|h|⟨h,hq,⟨p,home,e⟩|e⟩
  ·exact .inl (again_running _ (.inl h))
  ·exact .inl (again_running _ (.inr h))
  ·left
   rw [e] at hr
   rcases hr.2 with ⟨k,hk,_⟩|⟨_,dN,bp,rfl,_⟩
   ·omega
   ·obtain ⟨k,hc⟩:=hch j p home e
    cases p with
    |recv c z ok=>exact again_recv_open hc
    |send c v z=>exact again_send_open hc
  ·refine .inr ⟨e, ?_,h⟩
   rw [e] at hr
   rcases hr.2 with ⟨k,hk,_⟩|⟨_,dN,h1,rfl,_⟩
   ·omega
   ·have:=h1.2.1
    simp only [Goroutine.again,this]
 unfold woken
 split
 ·exact key
 ·exact .inl rfl
variable {g g':O'} {r':aX} {n':Nat}
theorem aC.step (T:aC P C b o ae Fin who rel ρ q gs w t) (hA:∀g w,ae g w->g.status=.running) {a:O'} (hi:gs[i]?=some g)
 (po:∀j,j≠i->RB C b o j w w') (hsz:w.heap.size<=w'.heap.size) (Kp:∀(r:Nat) (ob:Obj),w.heap[r]?=some ob->aR ob=false->ob.isChan=true->w'.heap[r]?=some ob) (hio:∀r,C.Pv i (.obj r)\/C.St i (.obj r)->∃ob,w'.heap[r]?=some ob/\aR ob=false)
 (kD:∀p h,r'=.seat p h->∃h₀,ρ i=.seat p h₀) (uG:∀p h,r'=.shut p h->∃h₀,ρ i=.shut p h₀) (Nb:∀j k d,upd ρ i r' j=.self k d->who'=some j) (UU:∀x,who'=some x->x=0\/(upd ρ i r' x).isSelf=true\/upd ρ i r' x=.done) (aM:fx P C b o ae Fin i r' n' g' w')
 (AV:Tr C (fun j=>(upd ρ i r' j).loose=true) bZ gs.size (fun j=>(upd ρ i r' j).dd) (Acc who' bZ (t++u)) (t++u)) (my:C.on->dy b o (upd ρ i r') gs.size w') (b9:¬C.on->r'.FP) (hdq:C.Dd i->∃d,r'=.quit d) (U3:cnt (upd ρ i r') gs.size<2147483647)
 (ES:i≠0->ρ 0=.wait .w3->cx b o w' 0 1->cx b o w 0 1\/(mayWake P a=true/\a'.status=.running)) (KG:i=0->r'=.wait .w3->cx b o w' 0 1->0<n'):
 ∃q',aC P C b o ae Fin who' bZ (upd ρ i r') q' ((gs.map (woken P a a' w')).setIfInBounds i g') w' (t++u)/\q' i=n'/\∀j,j≠i->ρ j≠.wait .w3->q' j=q j:=by
 have hlt:i<gs.size:=(cI hi)
 have hch:∀j p home,ρ j=.seat p home->∃k,w'.heap[p.chan]?=some (.chan 0 #[] false k k false):=fun j p home e=>by
  obtain ⟨k,hk⟩:=T.chans j p home e
  exact ⟨k,Kp _ _ hk rfl rfl⟩
 refine ⟨fun j=>if j=i then n' else if (ρ j).isW3&&((gs[j]?).any fun y=>(woken P a a' w' y).status==.running&&y.status==.blocked) then 1 else q j, ?_,by simp, ?_⟩
 ·refine ⟨T.ok,T.ad,T.yk,fun l hl=>(T.IB l hl).imp fun x h=>h.imp fun k h=>⟨h.1,E_ h.2 hsz⟩,fun j hj=> ?_,by simpa using T.old,T.plain,fun g x k h=>E_ (T.CG g x k h) hsz,fun gg r hr=> ?_,by simpa using AV,fun j y hy=> ?_,fun j hj=> ?_,fun j p home e=> ?_,fun j l p p' h h' e e'=> ?_,fun j p home e=> ?_,Nb,UU,by simpa using U3,by simpa using my,fun c j=> ?_,by simpa using T.cX,fun h1 h2=> ?_⟩
  ·by_cases e:j=i
   ·subst e;rw [O_];exact hdq hj
   ·rw [P_ _ _ e];exact T.Ls j hj
  ·by_cases e:gg=i
   ·subst e;exact hio r hr
   ·obtain ⟨ob,h1,h2⟩:=T.mO gg r hr
    exact ⟨ob,((po gg e).gz r hr).trans h1,h2⟩
  ·by_cases e:j=i
   ·subst e
    rw [Array.getElem?_setIfInBounds_self_of_lt (by simpa using hlt)] at hy
    obtain rfl:=some_inj hy
    simp only [O_,if_true]
    exact aM
   ·rw [I_ (Ne.symm e),Array.getElem?_map] at hy
    obtain ⟨BP,CI,rfl⟩:=Option.map_eq_some_iff.1 hy
    rw [P_ _ _ e]
    simp only [e,if_false,CI,Option.any_some]
    cases hs:(ρ j).isSelf with
    |true=>cases hr:ρ j<;>rw [hr] at hs<;>first|(cases hs;done)|trivial
    |false=>
     have hj:=(T.eD j BP CI).rely (po j e)
     rcases T.Mn hA hch (a:=a) (a':=a') CI hs with hw|⟨CK,hw,hb⟩
     ·rw [hw]
      have:(BP.status==.running&&BP.status==.blocked)=false:=by cases BP.status<;>rfl
      simp only [this,Bool.and_false,Bool.false_eq_true,if_false]
      exact hj
     ·rw [hw,hb]
      rw [CK] at hj ⊢
      simp only [aX.isW3,beq_self_eq_true,Bool.and_self,if_true]
      obtain ⟨rfl,hj⟩:=hj
      refine ⟨rfl,.inl ⟨0,rfl, ?_⟩⟩
      rcases hj with ⟨k,_,hg⟩|⟨_,dN,h1,rfl,h2⟩
      ·have:=hg.running (fun _ _ x=>x.1) w' (RB.refl 0 w')
       rw [hb] at this;cases this
      ·have e0:({{dN with status:=.blocked} with status:=.running}:O')=dN:=by
        have:=h1.1
        cases dN;simp_all
       rw [e0]
       exact Goes.stop fun w₁ h₁=>h2 w₁ h₁
  ·have EL:gs.size<=j:=by simpa using hj
   have e:j≠i:=by omega
   rw [P_ _ _ e];exact T.above j EL
  ·by_cases ej:j=i
   ·subst ej
    rw [O_] at e
    obtain ⟨h₀,RL⟩:=kD p home e
    exact hch j p h₀ RL
   ·rw [P_ _ _ ej] at e;exact hch j p home e
  ·have old:∀j p h,upd ρ i r' j=.seat p h->∃h₀,ρ j=.seat p h₀:=by
    intro j p h e
    by_cases ej:j=i
    ·subst ej;rw [O_] at e;exact kD p h e
    ·rw [P_ _ _ ej] at e;exact ⟨h,e⟩
   obtain ⟨h₁,e₁⟩:=old j p h e
   obtain ⟨iN,e₂⟩:=old l p' h' e'
   exact T.apart j l p p' _ _ e₁ e₂
  ·have old:∃h₀,ρ j=.shut p h₀:=by
    by_cases ej:j=i
    ·subst ej;rw [O_] at e;exact uG p home e
    ·rw [P_ _ _ ej] at e;exact ⟨home,e⟩
   obtain ⟨h₀,RL⟩:=old
   obtain ⟨k,hk⟩:=T.shuts j p h₀ RL
   exact ⟨k,Kp _ _ hk rfl rfl⟩
  ·by_cases e:j=i
   ·subst e;rw [O_];exact b9 c
   ·rw [P_ _ _ e];exact T.off c j
  ·by_cases e:(0:Nat)=i
   ·simp only [e,if_true]
    subst e
    rw [O_] at h1
    exact KG rfl h1 h2
   ·rw [P_ _ _ e] at h1
    simp only [e,if_false,h1,aX.isW3,Bool.true_and]
    obtain ⟨y,hy⟩:∃y,gs[0]?=some y:=⟨_,H_ T.cX⟩
    simp only [hy,Option.any_some]
    have hr:=T.eD 0 y hy
    rw [h1] at hr
    rcases hr.2 with ⟨k,hk,_⟩|⟨hk,dN,h3,rfl,_⟩
    ·split<;>omega
    ·have hold:¬cx b o w 0 1:=fun h=>by have:=T.awake h1 h;omega
     rcases ES (Ne.symm e) h1 h2 with h|⟨h4,h5⟩
     ·exact absurd h hold
     ·have AX:=h3.2.1
      have:woken P a a' w' {dN with status:=.blocked}={{dN with status:=.blocked} with status:=.running}:=by
       simp [woken,h4,h5,Goroutine.again,AX]
      rw [this];simp
 ·intro j e CK
  have:(ρ j).isW3=false:=by
   cases hr:ρ j with
   |wait t=>cases t<;>first|rfl|exact absurd hr CK
   |_=>rfl
  simp [e,this]
end
end
section
open Go Go.Conc
open Go.ConcN (sumTo upd sumTo_upd upd_ne upd_same sumTo_congr le_sumTo)
def wP (ρ:Nat->aX) (n:Nat):Nat:=sumTo n fun i=>(ρ i).fW
def uw (ρ:Nat->aX) (q:Nat->Nat) (n:Nat):Nat:=sumTo n fun i=>if (ρ i).fW=0 then 0 else q i
def jB (ρ:Nat->aX) (n:Nat):Nat:=
 match ρ 0 with
 | .wait .w0=>9
 | .wait (.w2 v)=>if v=cnt ρ n then 5 else 8
 | .wait .IQ=>7
 | .wait .w1=>6
 | .wait .w3=>4
 | .wait .w4=>3
 | .wait .w5=>2
 | .wait .w6=>1
 |_=>0
def Ob (ρ:Nat->aX) (q:Nat->Nat):Nat:=
 match ρ 0 with
 | .wait _=>q 0
 |_=>0
def meas (ρ:Nat->aX) (q:Nat->Nat) (n:Nat):Nat × Nat × Nat × Nat:=(wP ρ n,uw ρ q n,jB ρ n,Ob ρ q)
def Bz:Nat × Nat × Nat × Nat->Nat × Nat × Nat × Nat->Prop:=Prod.Lex (·<·) (Prod.Lex (·<·) (Prod.Lex (·<·) (·<·)))
theorem sf:WellFounded Bz:=(Prod.lex Nat.lt_wfRel (Prod.lex Nat.lt_wfRel (Prod.lex Nat.lt_wfRel Nat.lt_wfRel))).wf
theorem nA {α:Type} (f:Nat->α) (x:α) (φ:Nat->α->Nat) {i:Nat}:∀{j:Nat},i<j->sumTo j (fun a=>φ a (upd f i x a))+φ i (f i)=sumTo j (fun a=>φ a (f a))+φ i x
 |j+1,h=>by
  rcases Nat.lt_or_ge i j with hlt|vI
  ·have:=nA f x φ hlt
   simp only [sumTo,P_ f x (show j≠i by omega)]
   omega
  ·obtain rfl:i=j:=by omega
   simp only [sumTo,O_]
   rw [sumTo_congr (g:=fun a=>φ a (f a)) (fun a ha=>by rw [P_ f x (by omega)])]
   omega
variable {ρ:Nat->aX} {i:Nat}
theorem tu {n:Nat} (r:aX) (h:i<n):wP (upd ρ i r) n+(ρ i).fW=wP ρ n+r.fW:=nA ρ r (fun _ x=>x.fW) h
theorem kL {n:Nat} (r:aX) (h:i<n):cnt (upd ρ i r) n+(ρ i).count=cnt ρ n+r.count:=nA ρ r (fun _ x=>x.count) h
theorem Bn {n:Nat} (h:i<n) (hc:0<(ρ i).count):0<cnt ρ n:=E_ hc (le_sumTo (f:=fun i=>(ρ i).count) h)
variable {q':Nat->Nat}
theorem jG {q:Nat->Nat} {n:Nat} {r:aX} (h:i<n) (hr:r.fW<(ρ i).fW):Bz (meas (upd ρ i r) q' n) (meas ρ q n):=by
 have:=tu (ρ:=ρ) r h
 exact .left _ _ (by omega)
theorem AH {q:Nat->Nat} {n:Nat} {r:aX} (h:i<n) (hr:r.fW=(ρ i).fW) (h0:0<r.fW) (hq:q' i<q i) (ho:∀j,j≠i->ρ j≠.wait .w3->q' j=q j):Bz (meas (upd ρ i r) q' n) (meas ρ q n):=by
 have h1:=tu (ρ:=ρ) r h
 have e1:wP (upd ρ i r) n=wP ρ n:=by omega
 have h2:uw (upd ρ i r) q' n<uw ρ q n:=by
  have key:uw (upd ρ i r) q' n+(if (ρ i).fW=0 then 0 else q i)=uw ρ q n+(if r.fW=0 then 0 else q' i):=by
   have:=nA (fun j=>(ρ j,q j)) (r,q' i) (fun _ x=>if x.1.fW=0 then 0 else x.2) h
   rw [show uw (upd ρ i r) q' n=sumTo n fun a=>if (upd (fun j=>(ρ j,q j)) i (r,q' i) a).1.fW=0 then 0 else (upd (fun j=>(ρ j,q j)) i (r,q' i) a).2 from sumTo_congr fun a _=>by
    by_cases e:a=i
    ·subst e;simp [O_]
    ·rw [P_ _ _ e,P_ _ _ e]
     by_cases hw:ρ a=.wait .w3
     ·simp [hw,aX.fW]
     ·simp [ho a e hw]]
   exact this
  rw [if_neg (by omega),if_neg (by omega)] at key
  omega
 unfold meas
 rw [e1]
 exact .right _ (.left _ _ h2)
def aX.leaving:aX->Bool
 | .shut ..| .done| .rel| .deaf| .ky| .kx| .ku| .quit _=>true
 |_=>false
def vS (r r':aX):Prop:=r'=r\/(r.leaving=true/\r'.leaving=true)\/∃s s',r=.wait s/\r'=.wait s'
theorem vS.rfl' (r:aX):vS r r:=.inl rfl
variable {r':aX}
theorem vS.trans {r r'':aX} (h:vS r r') (k:vS r' r''):vS r r'':=by
 rcases h with rfl|⟨h1,h2⟩|⟨s,s',rfl,rfl⟩
 ·exact k
 ·rcases k with rfl|⟨_,k2⟩|⟨s,s',rfl,rfl⟩
  ·exact .inr (.inl ⟨h1,h2⟩)
  ·exact .inr (.inl ⟨h1,k2⟩)
  ·cases h2
 ·rcases k with rfl|⟨k1,_⟩|⟨_,s'',_,rfl⟩
  ·exact .inr (.inr ⟨_,_,rfl,rfl⟩)
  ·cases k1
  ·exact .inr (.inr ⟨_,_,rfl,rfl⟩)
variable {fn:w_} {es:Array Event}
theorem K9 {g:Nat} {pos:String} {op:MemOp} (h:op∈MemOp.ofEvents g fn pos es):∃e∈es,op={g,fn,pos,act:=.ofEvent e}:=by
 rw [ofEvents_eq] at h
 obtain ⟨e,he,rfl⟩:=Array.mem_map.1 h
 exact ⟨e,he,rfl⟩
section
variable {C:cS}
theorem uY {e:Event} (h:∀a,e.loc≠.mark (.release a)):∀a,MemAct.ofEvent e≠.mark (.release a):=by
 intro a;replace h:=h a
 obtain ⟨loc,wr,sy⟩:=e
 cases loc with
 |mark m=>intro hh;apply h;cases wr<;>cases sy<;>(injection hh with h1;subst h1;rfl)
 |_=>cases wr<;>cases sy<;>simp [MemAct.ofEvent]
end
section
variable {P:U'} {C:cS} {b o:Nat} {ae Fin:O'->J'->Prop} {who who':Option Nat} {rel bZ:Nat->Prop} {q:Nat->Nat} {gs:Array O'} {w w':J'} {t u:Trace} {sl:Option (Nat × Nat)}
theorem pN (h:r'.loose=(ρ i).loose):(fun j=>(upd ρ i r' j).loose=true)=fun j=>(ρ j).loose=true:=by
 funext j
 by_cases e:j=i
 ·subst e;rw [O_,h]
 ·rw [P_ _ _ e]
theorem Lp (T:aC P C b o ae Fin who rel ρ q gs w t) (fn:w_) (pos:String) (h:deafBehind (ρ i).dd es=r'.dd):∀j,Deaf (t++MemOp.ofEvents i fn pos es) j=(upd ρ i r' j).dd:=by
 intro j
 by_cases e:j=i
 ·subst e;rw [Deaf_own,T.tr.deaf,O_];exact h
 ·rw [P_ _ _ e,Deaf_other t (Ne.symm e) _ (fun op hop=>by obtain ⟨e,_,rfl⟩:=K9 hop;rfl)]
  exact T.tr.deaf j
theorem aC.jS (T:aC P C b o ae Fin who rel ρ q gs w t) {H:Prop} (fn:w_) (pos:String) (hl:r'.loose=(ρ i).loose) (hd:deafBehind (ρ i).dd es=r'.dd)
 (hm:∀(k:Nat) e,es[k]?=some e->qP C (fun j=>(ρ j).loose=true) gs.size i H ((t++MemOp.ofEvents i fn pos es).heard (t.size+k)) {g:=i,fn,pos,act:=.ofEvent e}/\∀x,e.loc≠.mark (.release x))
 (hH:H->who=some i):Tr C (fun j=>(upd ρ i r' j).loose=true) rel gs.size (fun j=>(upd ρ i r' j).dd) (Acc who rel (t++MemOp.ofEvents i fn pos es)) (t++MemOp.ofEvents i fn pos es):=by
 rw [pN hl]
 refine T.tr.one T.ok (H:=H) (fun op hop=>by obtain ⟨e,_,rfl⟩:=K9 hop;rfl) (fun k op hk=> ?_) (fun i hi=>Acc.app (fun _ h=>h) hi) (fun h=> ?_) (Lp T fn pos hd) (fun op hop=> ?_)
 ·rw [ofEvents_eq,Array.getElem?_map] at hk
  obtain ⟨e,he,rfl⟩:=Option.map_eq_some_iff.1 hk
  exact (hm k e he).1
 ·have hw:=hH h
  subst hw
  refine ⟨fun j hj=>hj,fun k hk=> ?_⟩
  refine fQ ?_
  rw [ofEvents_eq] at hk ⊢
  have:k<es.size:=by simpa using hk
  rw [g?_of (op:={g:=i,fn,pos,act:=.ofEvent es[k]}) (by rw [at_new];simp [this])]
 ·obtain ⟨e,he,rfl⟩:=K9 hop
  obtain ⟨k,hk⟩:=Array.mem_iff_getElem?.1 he
  exact uY (hm k e hk).2
variable {k:Nat}
theorem mG (T:aC P C b o ae Fin who rel ρ q gs w t) {pos:String} (hk:k<es.size) (hd:0<deafBehind (ρ i).dd (es.extract 0 k)):¬(t++MemOp.ofEvents i fn pos es).heard (t.size+k):=by
 rintro ⟨g,hg,h0⟩
 have:(t++MemOp.ofEvents i fn pos es).g? (t.size+k)=some i:=by
  rw [ofEvents_eq]
  rw [g?_of (op:={g:=i,fn,pos,act:=.ofEvent es[k]}) (by rw [at_new];simp [hk])]
 rw [this] at hg
 obtain rfl:=some_inj hg
 rw [deaf_inside _ _ _ _ _ _ (Nat.le_of_lt hk),T.tr.deaf] at h0
 omega
def sU (ρ:Nat->aX):Prop:=∀j,ρ j=.none\/(∃d,ρ j=.quit d)\/(ρ j).isSelf=true
variable {g:O'}
theorem Yz (T:aC P C b o ae Fin who rel ρ q gs w t) (hi:gs[i]?=some g) (hl:(ρ i).loose=true) {e:Event} (h:NY C i e) (H heard:Prop) (fn:w_) (pos:String):qP C (fun j=>(ρ j).loose=true) gs.size i H heard {g:=i,fn,pos,act:=.ofEvent e}:=by
 rcases h.1 with h|⟨x,h1,h2,h3⟩
 ·exact .mute h
 ·exact .own h1 hl (cI hi) h2 h3
theorem ji (T:aC P C b o ae Fin who rel ρ q gs w t) (b9:C.on) (QM:¬C.Dd i) (hi:gs[i]?=some g) (hk:k=o\/k=o+1) (wr:Bool) {heard:Prop} (hh:i=0\/¬heard) (H:Prop) (fn:w_) (pos:String):
 qP C (fun j=>(ρ j).loose=true) gs.size i H heard {g:=i,fn,pos,act:=.ofEvent ⟨.cell ⟨b,k,none⟩,wr,true⟩}:=
 .book (b:=⟨.cell ⟨b,k,none⟩,wr,.atomic⟩) (by cases wr<;>rfl) (cI hi) QM ((T.yk _).2 ⟨b9,hk.imp (fun e=>by rw [e]) (fun e=>by rw [e])⟩) (.inl ⟨rfl,hh⟩)
variable (P C b o ae Fin) in
def fp (who:Option Nat) (rel:Nat->Prop) (ρ:Nat->aX) (q:Nat->Nat) (gs:Array O') (w:J') (sl:Option (Nat × Nat)) (t:Trace) (i:Nat):Prop:=
 ∃gs' w' ops fT q' who' bZ,runT P (crowd gs w sl) i=(.next (crowd gs' w' sl),ops)/\gs'.size=gs.size/\aC P C b o ae Fin who' bZ fT q' gs' w' (t++ops)/\Bz (meas fT q' gs.size) (meas ρ q gs.size)/\Out (bS C) w w'/\
  (∀j,vS (ρ j) (fT j))/\((∃x,(ρ x).isSelf=true)->who'=who)/\(∀x,(ρ x).isSelf=true->gs'[x]?=gs[x]?)/\(∀j,j≠i->ρ j≠.wait .w3->q' j=q j)/\
  (0<q' i\/∀p home,ρ i=.seat p home->∃g bp,gs[i]?=some g/\gP P (i==0) p g bp)/\(sU ρ->bZ=rel/\sU fT)
def bO (ρ:Nat->aX) (gs:Array O') (w:J'):Prop:=
 ∀x y,(ρ x).isSelf=true->gs[x]?=some y->∀w':J',(∀(r:Nat) (ob:Obj),w.heap[r]?=some ob->ob.isChan=true->w'.heap[r]?=some ob)->y.again w'=y
theorem Bu (h:vS (ρ i) r'):∀j,vS (ρ j) (upd ρ i r' j):=fun j=>by
 by_cases e:j=i
 ·subst e;rw [O_];exact h
 ·rw [P_ _ _ e];exact .inl rfl
variable {g':O'} {n':Nat}
theorem aC.moves (T:aC P C b o ae Fin who rel ρ q gs w t) (hA:∀g w,ae g w->g.status=.running) (hS:bO ρ gs w) (hi:gs[i]?=some g) (lu:(ρ i).isSelf=false)
 (hstep:stepG P (i==0) g w=.go g' w' es) (CO:Out (bS C) w w') (po:∀j,j≠i->RB C b o j w w') (kD:∀p h,r'=.seat p h->∃h₀,ρ i=.seat p h₀) (uG:∀p h,r'=.shut p h->∃h₀,ρ i=.shut p h₀) (su:r'.isSelf=false) (oE:who'=who\/(who'=none/\who=some i)) (ZD:ρ i=.done->r'=.done\/who'=none\/who≠some i)
 (aM:fx P C b o ae Fin i r' n' g' w')
 (AV:Tr C (fun j=>(upd ρ i r' j).loose=true) bZ gs.size (fun j=>(upd ρ i r' j).dd) (Acc who' bZ (t++MemOp.ofEvents i g.frame.fn g.frame.place es)) (t++MemOp.ofEvents i g.frame.fn g.frame.place es))
 (Uf:((∃d,ρ i=.quit d)/\(∃d,r'=.quit d)/\bZ=rel)\/(C.on/\∀d,ρ i≠.quit d)) (my:C.on->dy b o (upd ρ i r') gs.size w') (jW:r'.count<=(ρ i).count) (YZ:0<n'\/∀p home,ρ i≠.seat p home) (HN:vS (ρ i) r') (ES:i≠0->ρ 0=.wait .w3->cx b o w' 0 1->cx b o w 0 1\/(mayWake P g=true/\g'.status=.running)) (KG:i=0->r'=.wait .w3->cx b o w' 0 1->0<n')
 (Kt:∀q':Nat->Nat,q' i=n'->(∀j,j≠i->ρ j≠.wait .w3->q' j=q j)->Bz (meas (upd ρ i r') q' gs.size) (meas ρ q gs.size)):fp P C b o ae Fin who rel ρ q gs w sl t i:=by
 have hlt:i<gs.size:=(cI hi)
 have uH:∀x,(ρ x).isSelf=true->who'=who:=fun x hx=>by
  rcases oE with h|⟨_,h⟩
  ·exact h
  ·cases hr:ρ x<;>rw [hr] at hx<;>try (cases hx;done)
   have:=T.one x _ _ hr
   rw [h] at this
   obtain rfl:=some_inj this
   rw [hr] at lu;cases lu
 obtain ⟨q',T',h1,h2⟩:=T.step hA (a:=g) (a':=g') hi po (by rw [CO.size];exact C_ _) (fun r ob hr hc _=>CO.gz r ob hr hc) (fun r hr=>by
  obtain ⟨ob,k1,k2⟩:=T.mO i r hr
  exact ⟨ob,CO.gz r ob k1 k2,k2⟩) kD uG (fun j k d hj=>by
  by_cases e:j=i
  ·subst e;rw [O_] at hj;rw [hj] at su;cases su
  ·rw [P_ _ _ e] at hj
   rw [uH j (by rw [hj];rfl)]
   exact T.one j k d hj) (fun x hx=>by
  rcases oE with h|⟨h,_⟩
  ·rw [h] at hx
   by_cases e:x=i
   ·subst e
    rcases T.holder x hx with h1|h1|h1
    ·exact .inl h1
    ·rw [lu] at h1;cases h1
    ·rcases ZD h1 with h2|h2|h2
     ·rw [O_];exact .inr (.inr h2)
     ·rw [h,hx] at h2;cases h2
     ·exact absurd hx h2
   ·rw [P_ _ _ e];exact T.holder x hx
  ·rw [h] at hx;cases hx) aM AV my (fun c=>by
  rcases Uf with ⟨_,⟨d,e⟩,_⟩|⟨h,_⟩
  ·rw [e];trivial
  ·exact absurd h c) (fun hd=>by
  rcases Uf with ⟨_,h,_⟩|⟨_,h⟩
  ·exact h
  ·exact absurd hd (T.fX h)) (by
  have:=kL (ρ:=ρ) r' hlt
  have hf:=T.few
  omega) ES KG
 refine ⟨_,w',_,upd ρ i r',q',who',bZ,runT_crowd_go (sl:=sl) hi hstep,by simp,T',Kt q' h1 h2,CO,Bu HN,fun ⟨x,hx⟩=>uH x hx,fun x hx=> ?_,h2,by rw [h1];exact YZ.imp id fun h p home e=>absurd e (h p home),fun hc=> ?_⟩
 rotate_left
 ·rcases Uf with ⟨_,⟨d,e⟩,h⟩|⟨_,h⟩
  ·refine ⟨h,fun j=> ?_⟩
   by_cases ej:j=i
   ·subst ej;rw [O_];exact .inr (.inl ⟨d,e⟩)
   ·rw [P_ _ _ ej];exact hc j
  ·rcases hc i with h1|⟨d,h1⟩|h1
   ·have:=T.eD i g hi
    rw [h1] at this;exact this.elim
   ·exact absurd h1 (h d)
   ·rw [lu] at h1;cases h1
 have TS:x≠i:=fun e=>by subst e;rw [lu] at hx;cases hx
 rw [I_ (Ne.symm TS),Array.getElem?_map]
 cases hy:gs[x]? with
 |none=>rfl
 |some y=>
  have:y.again w'=y:=hS x y hx hy w' fun r ob h1 h2=>CO.gz r ob h1 (by cases ob<;>first|(cases h2;done)|rfl)
  simp only [Option.map_some,woken,this,ite_self]
end
section
variable {P:U'} {C:cS} {b o:Nat} {ae Fin:O'->J'->Prop} {who who':Option Nat} {rel bZ:Nat->Prop} {q:Nat->Nat} {gs:Array O'} {w w':J'} {t u:Trace} {sl:Option (Nat × Nat)}
variable {x:Nat}
theorem aC.Am (T:aC P C b o ae Fin who rel ρ q gs w t) (hA:∀g w,ae g w->g.status=.running) {y:O'} (hy:gs[x]?=some y) (lu:(ρ x).isSelf=false) {c:Nat} {dir:Bool}
 (h:∀p' h',ρ x=.seat p' h'->p'.chan=c->p'.out≠dir):offersAt y c dir=[]:=by
 have hr:=T.eD x y hy
 rcases hr.status hA lu with hs|hs|⟨hs,hq,⟨p,home,e⟩|e⟩
 ·exact offersAt_of_not_blocked (by rw [hs];simp) _ _
 ·exact offersAt_of_not_blocked (by rw [hs];simp) _ _
 ·rw [e] at hr
  rcases hr.2 with ⟨k,hk,_⟩|⟨_,dN,bp,rfl,_⟩
  ·omega
  ·have hh:=h p home e
   cases p with
   |recv c' z ok=>
    cases dir with
    |true=>exact offersAt_parked_recv' ..
    |false=>
     rw [show (Port.recv c' z ok).cases=#[rcase c' z] from rfl,offersAt_parked_recv,if_neg]
     exact fun ec=>hh ec rfl
   |send c' v z=>
    cases dir with
    |false=>exact offersAt_parked_send' ..
    |true=>
     rw [show (Port.send c' v z).cases=#[scase c' v z] from rfl,offersAt_parked_send,if_neg]
     exact fun ec=>hh ec rfl
 ·rw [e] at hr
  rcases hr.2 with ⟨k,hk,_⟩|⟨_,dN,h1,rfl,_⟩
  ·omega
  ·have:=h1.2.1
   simp [offersAt,this]
theorem dh (h:0<i):(i==0)=false:=by simp;omega
theorem dy.dG {n:Nat} (h:dy b o ρ n w) (hi:i<n) (h0:i≠0\/∀s,ρ 0≠.wait s/\r'≠.wait s) (hc:r'.count=(ρ i).count) (hl:r'.isLast=(ρ i).isLast) (hp:r'=ρ i\/r'.isLast=false):dy b o (upd ρ i r') n w:=by
 have e1:cnt (upd ρ i r') n=cnt ρ n:=by
  have:=kL (ρ:=ρ) r' hi
  rw [hc] at this;omega
 have e2:∀j,(upd ρ i r' j).isLast=(ρ j).isLast:=fun j=>by
  by_cases e:j=i
  ·subst e;rw [O_,hl]
  ·rw [P_ _ _ e]
 have e3:∀j,(ρ j).isLast=true->upd ρ i r' j=ρ j:=fun j hj=>by
  by_cases e:j=i
  ·subst e
   rw [O_]
   rcases hp with hp|hp
   ·exact hp
   ·rw [<-hl,hp] at hj;cases hj
  ·rw [P_ _ _ e]
 have e4:(∃s,ρ 0=.wait s)->upd ρ i r' 0=ρ 0:=fun ⟨s,hs⟩=>by
  rcases h0 with h0|h0
  ·rw [P_ _ _ (Ne.symm h0)]
  ·exact absurd hs (h0 s).1
 have e5:(∀s,ρ 0≠.wait s)->∀s,upd ρ i r' 0≠.wait s:=fun hs s=>by
  by_cases e:(0:Nat)=i
  ·subst e
   rw [O_]
   rcases h0 with h0|h0
   ·exact absurd rfl h0
   ·exact (h0 s).2
  ·rw [P_ _ _ e];exact hs s
 have wl:∀j,(ρ j).isLast=true->(ρ j=.ky\/ρ j=.kx)\/ρ j=.ku:=fun j hj=>by
  cases hr:ρ j<;>rw [hr] at hj<;>first|(cases hj;done)|simp
 unfold dy at h ⊢
 by_cases hw:∃s,ρ 0=.wait s
 ·rw [e4 hw]
  split<;>rename_i e<;>simp only [e,e1,e2] at h ⊢
  ·rcases h with h|⟨h1,j,h2,h3⟩
   ·exact .inl h
   ·have:(ρ j).isLast=true:=by rcases h3 with ⟨h3|h3,_⟩|⟨h3,_⟩<;>rw [h3]<;>rfl
    exact .inr ⟨h1,j,h2,by rw [e3 j this];exact h3⟩
  ·exact h
  ·exact h
  ·exact h
  ·exact h
 ·have cf:∀s,ρ 0≠.wait s:=fun s hs=>hw ⟨s,hs⟩
  have wh:=e5 cf
  cases hr:ρ 0 with
  |wait s=>exact absurd hr (cf s)
  |_=>
   all_goals
    rw [hr] at h
    simp only at h
    cases sX:upd ρ i r' 0 with
    |wait s=>exact absurd sX (wh s)
    |_=>simp only [e1,e2];exact h
variable {g g':O'} {n':Nat}
theorem aC.IM (T:aC P C b o ae Fin who rel ρ q gs w t) (hA:∀g w,ae g w->g.status=.running) (hS:bO ρ gs w) {r:aX} (hi:gs[i]?=some g) (hr:ρ i=r) (iq:0<i)
 (hk:0<r.fW) (lu:r.isSelf=false) (kD:∀p h,r≠.seat p h/\r≠.shut p h) (ZD:r≠.done) (kE:¬r.FP) (hn:n'<q i) (hgo:stepG P false g w=.go g' w #[]) (aM:fx P C b o ae Fin i r n' g' w):fp P C b o ae Fin who rel ρ q gs w sl t i:=by
 have hlt:i<gs.size:=(cI hi)
 refine T.moves hA hS (w':=w) (es:=#[]) (r':=r) (n':=n') (who':=who) (bZ:=rel) hi (by rw [hr];exact lu) (by rw [dh iq];exact hgo) (Out.refl _ _) (fun j _=>RB.refl j w) (fun p h e=>absurd e (kD p h).1) (fun p h e=>absurd e (kD p h).2) lu (.inl rfl) (by rw [hr];exact fun e=>absurd e ZD) aM ?_ ?_ ?_ (by rw [hr];exact C_ _) (.inr (by rw [hr];exact fun p h=>(kD p h).1)) (by rw [hr];exact .inl rfl) (fun _ _ h=>.inl h) (fun e=>by omega) (fun q' h1 h2=>AH hlt (by rw [hr]) hk (by omega) h2)
 ·exact T.jS (H:=False) _ _ (by rw [hr]) (by rw [hr];rfl) (fun k e he=>by simp at he) (fun h=>h.elim)
 ·exact .inr ⟨T.jw (i:=i) (by rw [hr];exact kE),fun d e=>by rw [<-hr,e] at kE;exact kE trivial⟩
 ·exact fun c=>(T.wg c).dG hlt (.inl (by omega)) (by rw [hr]) (by rw [hr]) (.inl hr.symm)
theorem aC.Mp (T:aC P C b o ae Fin who rel ρ q gs w t) (hA:∀g w,ae g w->g.status=.running) (hS:bO ρ gs w) (hi:gs[i]?=some g) (hl:(ρ i).loose=true)
 (hn:n'<q i) (hgo:stepG P (i==0) g w=.go g' w' es) (hd:DR C i w w' es) (aM:fx P C b o ae Fin i (ρ i) n' g' w') (YZ:0<n'\/∀p home,ρ i≠.seat p home):fp P C b o ae Fin who rel ρ q gs w sl t i:=by
 have hlt:i<gs.size:=(cI hi)
 obtain ⟨po,my⟩:=T.P6 hd.1
 have lu:(ρ i).isSelf=false:=by cases h:ρ i<;>rw [h] at hl<;>first|(cases hl;done)|rfl
 have hk:0<(ρ i).fW:=by cases h:ρ i<;>rw [h] at hl<;>first|(cases hl;done)|simp [aX.fW]
 have h0:(ρ i).dd=0:=by cases h:ρ i<;>rw [h] at hl<;>first|(cases hl;done)|rfl
 have b9:C.on:=T.jw (i:=i) (by cases h:ρ i<;>rw [h] at hl<;>first|(cases hl;done)|exact id)
 have ot:cx b o w' 0 1->cx b o w 0 1:=fun h=>by
  obtain ⟨s,m,h₀⟩:=(T.wg b9).live
  have h₁:=my b9 _ _ h₀
  have e1:=h₁.st.symm.trans h.st
  have e2:=h₁.sm.symm.trans h.sm
  simp only [Option.some.injEq,Value.int.injEq,true_and] at e1 e2
  rw [<-e1,<-e2];exact h₀
 have hu:upd ρ i (ρ i)=ρ:=by
  funext j
  by_cases e:j=i
  ·subst e;rw [O_]
  ·rw [P_ _ _ e]
 refine T.moves hA hS (r':=ρ i) (n':=n') (who':=who) (bZ:=rel) hi lu hgo (hd.1.mono fun x k h=>.inr (.inr ⟨i,h⟩)) po (fun p h e=>⟨h,e⟩) (fun p h e=>⟨h,e⟩) lu (.inl rfl) (fun e=>.inl e) aM ?_ (.inr ⟨b9,fun d e=>by rw [e] at hl;cases hl⟩) ?_ (C_ _) YZ (.inl rfl) (fun _ _ h=>.inl (ot h)) (fun e e'=>by rw [e'] at hl;cases hl) (fun q' h1 h2=>AH hlt rfl hk (by omega) h2)
 ·refine T.jS (H:=False) _ _ rfl ?_ (fun k e he=>⟨Yz T hi hl (hd.2 e (l_ he)) _ _ _ _,(hd.2 e (l_ he)).2.2.2⟩) (fun h=>h.elim)
  exact deafBehind_still (fun e he=>⟨(hd.2 e he).2.1,(hd.2 e he).2.2.1⟩) _
 ·rw [hu]
  exact fun c=>(T.wg c).keep (my c)
theorem aC.Yt (T:aC P C b o ae Fin who rel ρ q gs w t) (hA:∀g w,ae g w->g.status=.running) {bp:O'} {p:Port} {home:O'->J'->Prop} (hi:gs[i]?=some g) (hr:ρ i=.seat p home) (hq:0<q i)
 (fH:gP P (i==0) p g bp) (hh:home bp w) (yH:∀(x:Nat) (y:O'),(ρ x).isSelf=true->gs[x]?=some y->offersAt y p.chan (!p.out)=[]):fp P C b o ae Fin who rel ρ q gs w sl t i:=by
 have hlt:i<gs.size:=(cI hi)
 have aM:=T.eD i g hi
 rw [hr] at aM
 obtain ⟨k,hc⟩:=T.chans i p home hr
 have hno:∀(x:Nat) (y:O'),(gs.setIfInBounds i ph)[x]?=some y->offersAt y p.chan (!p.out)=[]:=by
  intro x y hy
  rcases getElem?_stand gs i x y hy with ⟨_,rfl⟩|⟨hx,pg⟩
  ·exact offersAt_ph _ _
  ·cases hs:(ρ x).isSelf with
   |true=>exact yH x y hs pg
   |false=>exact T.Am hA pg hs fun p' h' e ec=>by rw [T.apart x i p' p h' home e hr ec];cases p.out<;>simp
 have hw:∀cc∈p.cases,NoWays w (gs.setIfInBounds i ph) cc:=by
  intro cc hcc
  cases p with
  |recv c z ok=>
   have:cc=rcase c z:=by simpa [Port.cases] using hcc
   subst this
   exact ways_recv_none hc (partners_nil hno)
  |send c v z=>
   have:cc=scase c v z:=by simpa [Port.cases] using hcc
   subst this
   exact ways_send_none hc (by simp) (partners_nil hno)
 have vC:gs.map (woken P g (parked bp p.cases p.shape) w)=gs:=by
  have:woken P g (parked bp p.cases p.shape) w=id:=by funext y;simp [woken,parked]
  rw [this,Array.map_id]
 have hu:upd ρ i (.seat p home)=ρ:=by
  funext j
  by_cases e:j=i
  ·subst e;rw [O_,hr]
  ·rw [P_ _ _ e]
 obtain ⟨q',T',h1,h2⟩:=T.step hA (a:=g) (a':=parked bp p.cases p.shape) (g':=parked bp p.cases p.shape) (r':=.seat p home) (n':=0) (who':=who) (bZ:=rel) (u:=MemOp.ofEvents i g.frame.fn g.frame.place #[]) hi (fun j _=>RB.refl j w) (C_ _) (fun r ob h _ _=>h) (T.mO i)
  (fun p' h' e=>⟨home,by injection e with e1 e2;rw [<-e1];exact hr⟩) (fun p' h' e=>by cases e) (fun j k d hj=>by rw [hu] at hj;exact T.one j k d hj) (by rw [hu];exact T.holder) ⟨aM.1,.inr ⟨rfl,g,bp,rfl,fH,hh⟩⟩ (T.jS (H:=False) _ _ (by rw [hr]) (by rw [hr];rfl) (fun k e he=>by simp at he) (fun h=>h.elim)) (by rw [hu];exact T.wg) (fun c=>absurd (T.jw (i:=i) (by rw [hr];exact id)) c) (fun hd=>absurd hd (T.fX (by rw [hr];simp))) (by rw [hu];exact T.few) (fun _ _ h=>.inl h) (fun _ e=>by cases e)
 rw [vC] at T'
 refine ⟨_,w,_,upd ρ i (.seat p home),q',who,rel,crowd_waits (sl:=sl) hi (fH.2.2.2.2 w) hw,by simp,T',AH hlt (by rw [hr]) (by simp [aX.fW]) (by omega) h2,Out.refl _ _,by rw [hu];exact fun j=>.inl rfl,fun _=>rfl,fun x hx=> ?_,h2,.inr fun p' h' e=>⟨g,bp,hi,by rw [hr] at e;injection e with e1;subst e1;exact fH⟩,fun hc=>by
  rcases hc i with h|⟨d,h⟩|h<;>rw [hr] at h<;>cases h⟩
 have TS:x≠i:=fun e=>by subst e;rw [hr] at hx;cases hx
 rw [I_ (Ne.symm TS)]
theorem aC.RV (T:aC P C b o ae Fin who rel ρ q gs w t) (hA:∀g w,ae g w->g.status=.running) (hS:bO ρ gs w) {p:Port} {home:O'->J'->Prop} (hi:gs[i]?=some g) (hr:ρ i=.seat p home) (hrun:g.status=.running)
 (yH:∀(x:Nat) (y:O'),(ρ x).isSelf=true->gs[x]?=some y->offersAt y p.chan (!p.out)=[]):fp P C b o ae Fin who rel ρ q gs w sl t i:=by
 have aM:=T.eD i g hi
 rw [hr] at aM
 rcases aM.2 with ⟨k,hk,hg⟩|⟨_,dN,bp,rfl,_⟩
 ·rcases hg.cases with dR|⟨k',rfl,hst⟩
  ·obtain ⟨bp,fH,hh⟩:=dR w (RB.refl i w)
   exact T.Yt hA hi hr (by omega) fH hh yH
  ·obtain ⟨g',w',es,hgo,hd,iJ⟩:=hst w (RB.refl i w)
   exact T.Mp hA hS (n':=k'+1) hi (by rw [hr];rfl) (by omega) hgo hd (by rw [hr];exact ⟨aM.1,.inl ⟨k',rfl,iJ⟩⟩) (.inl (Nat.succ_pos _))
 ·cases hrun
end
end
end Go.aC
