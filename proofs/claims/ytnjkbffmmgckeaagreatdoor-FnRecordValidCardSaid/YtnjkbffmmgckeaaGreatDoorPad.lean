/-
  T4: the holder closes a channel; T5: its words to the WaitGroup (deafness, the add, 'take it that I 
-/
import Derived.Conc.Token
import Derived.Conc.WgGenN
import Derived.Conc.CrowdMono
import Derived.Conc.WgGenWait
import Derived.Conc.CompanyDraw
import Derived.Conc.MuWords
import Derived.Conc.CrowdStepC
import Derived.Test.YtnjkbffmmgckeaaGreatDoorPaa
import Derived.Test.YtnjkbffmmgckeaaGreatDoorPac
set_option linter.all false
set_option maxRecDepth 100000
set_option maxHeartbeats 32000000
open Go renaming undef->I',World->J',Value->M',Goroutine->O',Program->U',execOp->V',Frame->Y',FuncId->w_,Item->x_,Oper->y_
open Option renaming getD_some->A_
open Nat renaming le_refl->C_
open Array renaming replicate->F_,getElem?_setIfInBounds_ne->I_,size_setIfInBounds->X_,mem_of_getElem?->l_
open Go.ConcN renaming upd_same->O_,upd_ne->P_
open Go.Region renaming wanted->U_
open Go.MemOp renaming ofEvents->cC
open Ne renaming symm->ru
namespace Go.aC
section
open Go Go.Conc
open Go.ConcN (sumTo upd sumTo_upd upd_ne upd_same sumTo_congr le_sumTo)
variable {P:U'} {C:cS} {b o:Nat} {ae Fin:O'->J'->Prop} {who who':Option Nat} {rel bZ:Nat->Prop} {ρ:Nat->aX} {q:Nat->Nat} {gs gs':Array O'} {w w':J'} {t t' u:Trace} {sl:Option (Nat × Nat)}
variable {Post:M'->J'->Prop} {h k d:Nat} {a:O'}
variable {a':O'} {es:Array Event}
theorem aC.word (T:aC P C b o ae Fin (some 0) rel ρ q gs w t) (b9:C.on) (hA:∀g w,ae g w->g.status=.running) (hr:ρ 0=.self k d) (hi:gs[0]?=some a) {d':Nat} (hd:deafBehind d es=d')
 (hes:∀e∈es,e=mh .disable\/e=mh .enable\/e=mh (.read ⟨b,o+1,none⟩)):
 ∃q',aC P C b o ae Fin (some 0) rel (upd ρ 0 (.self k d')) q' ((gs.map (woken P a a' w)).setIfInBounds 0 a') w (t++cC 0 a.frame.fn a.frame.place es)/\∀j,j≠0->ρ j≠.wait .w3->q' j=q j:=by
 have hlt:=T.cX
 obtain ⟨q',T',_,h2⟩:=T.step hA (a:=a) (a':=a') (g':=a') (r':=.self k d') (n':=0) (who':=some 0) (bZ:=rel) (u:=cC 0 a.frame.fn a.frame.place es) hi (fun j _=>RB.refl j w) (C_ _) (fun r ob h _ _=>h) (T.mO 0) (fun p h' e=>by cases e) (fun p h' e=>by cases e)
  (fun j k' d'' e=>by
   by_cases e1:j=0
   ·subst e1;rfl
   ·rw [P_ _ _ e1] at e;exact T.one j _ _ e) (fun x hx=>.inl (some_inj hx).symm) trivial
  (by
   refine T.jS (H:=True) _ _ (by rw [hr];rfl) (by rw [hr];exact hd) (fun j e he=> ?_) (fun _=>rfl)
   rcases hes e (l_ he) with rfl|rfl|rfl
   ·exact ⟨.mute rfl,by simp [mh]⟩
   ·exact ⟨.mute rfl,by simp [mh]⟩
   ·exact ⟨.book (b:=⟨.cell ⟨b,o+1,none⟩,false,.said⟩) rfl hlt (T.fX (by rw [hr];simp)) ((T.yk _).2 ⟨b9,.inr rfl⟩) (.inr ⟨rfl,rfl⟩),by simp [mh]⟩)
  (fun c=>(T.wg c).dG hlt (.inr fun s=>⟨by rw [hr];simp,by simp⟩) (by rw [hr];rfl) (by rw [hr];rfl) (.inr rfl)) (fun c=>absurd b9 c) (fun hd=>absurd hd (T.fX (by rw [hr];simp))) (by rw [js hlt (by rw [hr];rfl)];exact T.few) (fun h=>absurd rfl h) (fun _ e=>by cases e)
 exact ⟨q',T',h2⟩
theorem aC.DV (T:aC P C b o ae Fin who rel ρ q gs w t) (b9:C.on) (hr:ρ 0=.self k d):(∀j,(ρ j).isLast=false)/\cx b o w (cnt ρ gs.size * KK) 0:=by
 have:=T.wg b9
 unfold dy at this
 rw [hr] at this
 exact this
theorem aC.added (T:aC P C b o ae Fin (some 0) rel ρ q gs w t) (b9:C.on) (hA:∀g w,ae g w->g.status=.running) (hr:ρ 0=.self k d) (hi:gs[0]?=some a) (a':O') (hf:cnt ρ gs.size+1<2147483647):
 ∃q',aC P C b o ae Fin (some 0) rel (upd ρ 0 (.self (k+1) d)) q' ((gs.map (woken P a a' (w.setCell ⟨b,o,none⟩ (.int .u64 ((cnt ρ gs.size+1:Nat) * KK))))).setIfInBounds 0 a') (w.setCell ⟨b,o,none⟩ (.int .u64 ((cnt ρ gs.size+1:Nat) * KK))) (t++cC 0 a.frame.fn a.frame.place #[mF ⟨b,o,none⟩,vT ⟨b,o,none⟩])/\
  (∀j,j≠0->ρ j≠.wait .w3->q' j=q j)/\Out (bS C) w (w.setCell ⟨b,o,none⟩ (.int .u64 ((cnt ρ gs.size+1:Nat) * KK))):=by
 have hlt:=T.cX
 obtain ⟨hl,hw⟩:=T.DV b9 hr
 have gC:=hw.setSt ((cnt ρ gs.size+1:Nat) * KK)
 have jW:cnt (upd ρ 0 (.self (k+1) d)) gs.size=cnt ρ gs.size+1:=by
  have:=kL (ρ:=ρ) (.self (k+1) d) hlt
  rw [hr] at this
  simp only [aX.count] at this
  omega
 have Kp:∀r ob,w.heap[r]?=some ob->aR ob=false->(w.setCell ⟨b,o,none⟩ (.int .u64 ((cnt ρ gs.size+1:Nat) * KK))).heap[r]?=some ob:=fun r ob h1 h2=>mU h1 h2
 obtain ⟨q',T',_,h2⟩:=T.step hA (a:=a) (a':=a') (g':=a') (r':=.self (k+1) d) (n':=0) (who':=some 0) (bZ:=rel) (u:=cC 0 a.frame.fn a.frame.place #[mF ⟨b,o,none⟩,vT ⟨b,o,none⟩]) hi (fun j _=>T.tq b9 (.inl rfl) ⟨_,_,gC⟩ j) (by simp [World.setCell]) (fun r ob h1 h2 _=>Kp r ob h1 h2)
  (fun r hr=>by obtain ⟨ob,h1,h2⟩:=T.mO 0 r hr;exact ⟨ob,Kp r ob h1 h2,h2⟩) (fun p h' e=>by cases e) (fun p h' e=>by cases e)
  (fun j k' d'' e=>by
   by_cases e1:j=0
   ·subst e1;rfl
   ·rw [P_ _ _ e1] at e;exact T.one j _ _ e) (fun x hx=>.inl (some_inj hx).symm) trivial
  (by
   refine T.jS (H:=True) _ _ (by rw [hr];rfl) (by rw [hr];simp [deafBehind,aX.dd,mF,vT]) (fun j e he=> ?_) (fun _=>rfl)
   match j,he with
   |0,he=>
    obtain rfl:mF ⟨b,o,none⟩=e:=by simpa using he
    exact ⟨ji T b9 (T.fX (by rw [hr];simp)) hi (.inl rfl) false (.inl rfl) _ _ _,by simp [mF]⟩
   |1,he=>
    obtain rfl:vT ⟨b,o,none⟩=e:=by simpa using he
    exact ⟨ji T b9 (T.fX (by rw [hr];simp)) hi (.inl rfl) true (.inl rfl) _ _ _,by simp [vT]⟩
   |j+2,he=>simp at he)
  (by
   intro _
   unfold dy
   rw [O_]
   exact ⟨rW hl rfl,by rw [jW];exact gC⟩) (fun c=>absurd b9 c) (fun hd=>absurd hd (T.fX (by rw [hr];simp))) (by rw [jW];exact hf) (fun h=>absurd rfl h) (fun _ e=>by cases e)
 exact ⟨q',T',h2,(gH w b o _).mono (zc T b9 (.inl rfl))⟩
def bD (c:Nat):aX->aX
 | .seat p home=>if p.chan=c then .shut p home else .seat p home
 |r=>r
theorem vM {c:Nat} {r:aX} (h:∀p home,r=.seat p home->p.chan≠c):bD c r=r:=by
 cases r with
 |seat p home=>simp [bD,h p home rfl]
 |_=>rfl
theorem eG (c:Nat) (p:Port) (home:O'->J'->Prop):(bD c (.seat p home)=.shut p home/\p.chan=c)\/(bD c (.seat p home)=.seat p home/\p.chan≠c):=by
 by_cases h:p.chan=c
 ·exact .inl ⟨by simp [bD,h],h⟩
 ·exact .inr ⟨by simp [bD,h],h⟩
theorem iK (c:Nat) (r:aX):(bD c r).count=r.count/\(bD c r).dd=r.dd/\(bD c r).loose=r.loose/\(bD c r).isLast=r.isLast/\(bD c r).isSelf=r.isSelf:=by
 cases r with
 |seat p home=>rcases eG c p home with ⟨h,_⟩|⟨h,_⟩<;>rw [h]<;>exact ⟨rfl,rfl,rfl,rfl,rfl⟩
 |_=>exact ⟨rfl,rfl,rfl,rfl,rfl⟩
variable {kk:Nat}
theorem aC.closed (T:aC P C b o ae Fin (some h) rel ρ q gs w t) (b9:C.on) (hA:∀g w,ae g w->g.status=.running) (hr:ρ h=.self k d) (hi:gs[h]?=some a) {c:Nat} (gv:w.heap[c]?=some (.chan 0 #[] false kk kk false)) (hno:∀g,¬C.St g (.obj c)/\¬C.Pv g (.obj c))
 (QP:mayWake P a=true) (xw:a'.status=.running)
 (KD:∀j p home,ρ j=.seat p home->p.chan=c->0<j/\∃z ok,p=.recv c z ok/\∀bp w,home bp w->∃m,Goes P false (RB C b o j) (DR C j) (AtR0 P C b o j) m (Go.Conc.served bp (recvd ok z false)) w):
 ∃q',aC P C b o ae Fin (some h) rel (fun j=>bD c (ρ j)) q' ((gs.map (woken P a a' (w.setChan c 0 #[] true kk kk false))).setIfInBounds h a') (w.setChan c 0 #[] true kk kk false) (t++cC h a.frame.fn a.frame.place (closeEvents c)):=by
 have hlt:h<gs.size:=(cI hi)
 generalize gC:w.setChan c 0 #[] true kk kk false=w'
 have fH:w.at w.drawn=w:=rfl
 have Vu:∀j,RB C b o j w w':=fun j=>by have:=(vW (b:=b) (o:=o) gv rfl hno w.drawn 0 #[] true kk kk false j).1;rw [fH,gC] at this;exact this
 have HO:∀s m,cx b o w s m->cx b o w' s m:=by have:=(vW (b:=b) (o:=o) gv rfl hno w.drawn 0 #[] true kk kk false 0).2;rw [fH,gC] at this;exact this
 have ot:∀s m,cx b o w' s m->cx b o w s m:=fun s m h=>by
  obtain ⟨S9,TI,h₀⟩:=(T.wg b9).live
  obtain ⟨rfl,rfl⟩:=(HO _ _ h₀).uniq h
  exact h₀
 have uM:∀x,w'.heap[x]?=if x=c then some (.chan 0 #[] true kk kk false) else w.heap[x]?:=fun x=>by rw [<-gC];exact heap_setChan gv _ _ _ _ _ _ x
 have vC:∀y:O',woken P a a' w' y=y.again w':=fun y=>by simp [woken,QP,xw]
 have jW:cnt (fun j=>bD c (ρ j)) gs.size=cnt ρ gs.size:=sumTo_congr fun j _=>(iK c (ρ j)).1
 have CJ:∀s,bD c (ρ 0)=.wait s↔ρ 0=.wait s:=fun s=>by
  cases hx:ρ 0 with
  |seat p home=>rcases eG c p home with ⟨h,_⟩|⟨h,_⟩<;>rw [h]<;>simp
  |_=>exact Iff.rfl
 have EK:∀j r,r.isLast=true->(bD c (ρ j)=r↔ρ j=r):=fun j r hl=>by
  cases hx:ρ j with
  |seat p home=>
   constructor
   ·intro e;rcases eG c p home with ⟨h,_⟩|⟨h,_⟩<;>rw [h] at e<;>subst e<;>cases hl
   ·intro e;subst e;cases hl
  |_=>exact Iff.rfl
 have hu:t++cC h a.frame.fn a.frame.place (closeEvents c)=(t++cC h a.frame.fn a.frame.place #[(⟨.obj c,false,true⟩:Event)])++#[{g:=h,fn:=a.frame.fn,pos:=a.frame.place,act:=.close c}]:=by
  rw [closeOps,ofEvents_one,Array.append_assoc];rfl
 have rq:c<w.heap.size:=(cI gv)
 have Qy:=T.jS (i:=h) (r':=.self k d) (es:=#[(⟨.obj c,false,true⟩:Event)]) (H:=True) a.frame.fn a.frame.place (by rw [hr]) (by rw [hr];rfl) (fun j e he=>by
  obtain rfl:e=⟨.obj c,false,true⟩:=by simpa using l_ he
  exact AA T (e:=⟨.obj c,false,true⟩) (top:=w.heap.size) ⟨rq,fun _=>rfl⟩ (fun r sX g=>by injection sX with sX;subst sX;exact ⟨(hno g).2,fun hs=>absurd hs (hno g).1⟩) _ _ _) (fun _=>rfl)
 rw [zU hr] at Qy
 have hq1:∀j,∀op∈(#[{g:=h,fn:=a.frame.fn,pos:=a.frame.place,act:=.close c}]:Array MemOp),∀d,deafStep j d op=d:=by
  intro j op hop d
  simp only [List.mem_toArray,List.mem_cons,List.not_mem_nil,or_false] at hop
  subst hop;rfl
 have my:dy b o (fun j=>bD c (ρ j)) gs.size w':=by
  have hw:=T.wg b9
  unfold dy at hw ⊢
  have hl:∀j,(bD c (ρ j)).isLast=(ρ j).isLast:=fun j=>(iK c (ρ j)).2.2.2.1
  simp only [jW,hl]
  by_cases M1:∃s,ρ 0=.wait s
  ·obtain ⟨s,hs⟩:=M1
   rw [(CJ s).2 hs]
   rw [hs] at hw
   cases s with
   |w3=>
    simp only at hw ⊢
    rcases hw with ⟨h0,⟨h1,h⟩|⟨h1,h⟩⟩|⟨h0,i,h1,⟨h2,h⟩|⟨h2,h⟩⟩
    ·exact .inl ⟨h0,.inl ⟨h1,HO _ _ h⟩⟩
    ·exact .inl ⟨h0,.inr ⟨h1,HO _ _ h⟩⟩
    ·exact .inr ⟨h0,i,h1,.inl ⟨h2.imp (EK i .ky rfl).2 (EK i .kx rfl).2,HO _ _ h⟩⟩
    ·exact .inr ⟨h0,i,h1,.inr ⟨(EK i .ku rfl).2 h2,HO _ _ h⟩⟩
   |w4=>exact ⟨hw.1,hw.2.1,HO _ _ hw.2.2⟩
   |w5=>exact ⟨hw.1,hw.2.1,HO _ _ hw.2.2⟩
   |w6=>exact ⟨hw.1,hw.2.1,HO _ _ hw.2.2⟩
   |_=>exact ⟨hw.1,HO _ _ hw.2⟩
  ·have EE:(∀j,(ρ j).isLast=false)/\cx b o w (cnt ρ gs.size * KK) 0:=by
    cases hz:ρ 0 with
    |wait s=>exact absurd ⟨s,hz⟩ M1
    |_=>rw [hz] at hw;exact hw
   cases hz:bD c (ρ 0) with
   |wait s=>exact absurd ⟨s,(CJ s).1 hz⟩ M1
   |_=>exact ⟨EE.1,HO _ _ EE.2⟩
 have hsz:((gs.map (woken P a a' w')).setIfInBounds h a').size=gs.size:=by simp
 have EH:∀j p home,bD c (ρ j)=.seat p home->ρ j=.seat p home/\p.chan≠c:=fun j p home e=>by
  cases hx:ρ j with
  |seat p' pq=>
   rw [hx] at e
   rcases eG c p' pq with ⟨h,_⟩|⟨h,hn⟩
   ·rw [h] at e;cases e
   ·rw [h] at e;injection e with e1 e2;subst e1 e2;exact ⟨rfl,hn⟩
  |_=>rw [hx] at e;cases e
 have QD:∀j p home,bD c (ρ j)=.shut p home->ρ j=.shut p home\/(ρ j=.seat p home/\p.chan=c):=fun j p home e=>by
  cases hx:ρ j with
  |seat p' pq=>
   rw [hx] at e
   rcases eG c p' pq with ⟨h,hc⟩|⟨h,_⟩
   ·rw [h] at e;injection e with e1 e2;subst e1 e2;exact .inr ⟨rfl,hc⟩
   ·rw [h] at e;cases e
  |shut p' pq=>rw [hx] at e;exact .inl e
  |_=>rw [hx] at e;cases e
 have QE:∀j k' d',bD c (ρ j)=.self k' d'->ρ j=.self k' d':=fun j k' d' e=>by
  cases hx:ρ j with
  |seat p' pq=>rw [hx] at e;rcases eG c p' pq with ⟨h,_⟩|⟨h,_⟩<;>rw [h] at e<;>cases e
  |_=>rw [hx] at e;exact e
 refine ⟨fun j=>match ρ j with
  | .seat p _=>if p.chan=c then q j - 1 else q j
  | .wait .w3=>if q j=0 then 1 else q j
  |_=>q j,T.ok,T.ad,T.yk,fun l hl=> ?_,fun g hg=> ?_,by rw [hsz];exact T.old,T.plain,fun g x k' hx=> ?_,fun g r hx=> ?_, ?_,fun j y hy=> ?_,fun j hj=> ?_,fun j p home e=> ?_,fun j l p p' h₁ iN e1 e2 hch=> ?_,fun j p home e=> ?_,fun j k' d' e=>T.one j _ _ (QE j k' d' e),fun x hx=> ?_,by rw [hsz,jW];exact T.few,by rw [hsz];exact fun _=>my,fun c=>absurd b9 c,by rw [hsz];exact T.cX,fun h1 h2=> ?_⟩
 ·have:w'.heap.size=w.heap.size:=by rw [<-gC];simp [World.setChan]
  rw [this];exact T.IB l hl
 ·obtain ⟨d,e⟩:=T.Ls g hg
  exact ⟨d,by rw [e];rfl⟩
 ·have:w'.heap.size=w.heap.size:=by rw [<-gC];simp [World.setChan]
  rw [this];exact T.CG g x k' hx
 ·obtain ⟨ob,h1,h2⟩:=T.mO g r hx
  exact ⟨ob,((Vu g).gz r hx).trans h1,h2⟩
 ·rw [hsz]
  have e1:(fun j=>(bD c (ρ j)).loose=true)=fun j=>(ρ j).loose=true:=by funext j;rw [(iK c (ρ j)).2.2.1]
  have e2:(fun j=>(bD c (ρ j)).dd)=fun j=>(ρ j).dd:=by funext j;rw [(iK c (ρ j)).2.1]
  rw [e1,e2,hu]
  refine Qy.mute (fun op hop=> ?_) (fun i hi=>Acc.app (fun _ h=>h) hi) (fun j=>(Deaf_quiet (hq1 j)).trans (Qy.deaf j)) (fun op hop=> ?_)
  ·simp only [List.mem_toArray,List.mem_cons,List.not_mem_nil,or_false] at hop
   subst hop;rfl
  ·simp only [List.mem_toArray,List.mem_cons,List.not_mem_nil,or_false] at hop
   intro x;subst hop;simp
 ·by_cases e:j=h
  ·subst e
   rw [hr]
   trivial
  ·rw [I_ (ru e),Array.getElem?_map] at hy
   obtain ⟨BP,CI,rfl⟩:=Option.map_eq_some_iff.1 hy
   rw [vC]
   have aM:=T.eD j BP CI
   have oj:=aM.rely (Vu j)
   have lu:(ρ j).isSelf=false:=by
    cases hs:(ρ j).isSelf with
    |false=>rfl
    |true=>exact absurd (eY T hs) e
   cases hx:ρ j with
   |seat p home=>
    rw [hx] at oj
    rcases eG c p home with ⟨Vd,L6⟩|⟨Vd,L6⟩
    ·obtain ⟨Nn,z,ok,rfl,Q9⟩:=KD j p home hx L6
     rw [Vd]
     simp only [if_pos L6]
     refine ⟨Nn,oj.1,⟨_,z,ok,rfl,Q9⟩, ?_⟩
     have hb:=dh Nn
     rcases oj.2 with ⟨k',fS,hg⟩|⟨Y1,dN,bp,rfl,xH,hh⟩
     ·rw [hb] at hg
      rw [again_running _ (.inl (hg.running (fun _ _ x=>x.choose_spec.1.1) w' (RB.refl j w'))),fS]
      exact hg
     ·rw [hb] at xH
      have rq:w'.heap[c]?=some (.chan 0 #[] true kk kk false):=by rw [uM,if_pos rfl]
      have:(parked bp (Port.recv c z ok).cases (Port.recv c z ok).shape).again w'={parked bp (Port.recv c z ok).cases (Port.recv c z ok).shape with status:=.running}:=again_recv_closed rq
      rw [this]
      exact Goes.stop fun w₁ h₁=>⟨bp,⟨rfl,rfl,rfl,rfl,fun lZ=>by rw [<-xH.2.2.2.2 lZ];exact stepG_same xH.2.1.symm xH.2.2.1.symm xH.2.2.2.1.symm lZ⟩,oj.1 _ _ _ h₁ hh⟩
    ·rw [Vd]
     simp only [if_neg L6]
     have Ko:∃k',w'.heap[p.chan]?=some (.chan 0 #[] false k' k' false):=by
      obtain ⟨k',fS⟩:=T.chans j p home hx
      exact ⟨k',by rw [uM,if_neg L6];exact fS⟩
     have:BP.again w'=BP:=by
      rcases oj.2 with ⟨k',fS,hg⟩|⟨Y1,dN,bp,rfl,xH,hh⟩
      ·exact again_running _ (.inl (hg.running (fun _ _ x=>x.choose_spec.1.1) w' (RB.refl j w')))
      ·exact wQ Ko.choose_spec
     rw [this];exact oj
   |wait s=>
    rw [hx] at oj
    have KE:bD c (.wait s)=.wait s:=rfl
    rw [KE]
    obtain ⟨rfl,hW⟩:=oj
    cases s with
    |w3=>
     rcases hW with ⟨k',fS,hg⟩|⟨Y1,dN,h1,rfl,h2⟩
     ·rw [again_running _ (.inl (hg.running (fun _ _ x=>x.1) w' (RB.refl 0 w')))]
      simp only [if_neg (show ¬q 0=0 by omega)]
      exact ⟨rfl,.inl ⟨k',fS,hg⟩⟩
     ·have AX:=h1.2.1
      have e0:({dN with status:=.blocked}:O').again w'=dN:=by
       have h3:=h1.1
       cases dN;simp_all [Goroutine.again]
      rw [e0]
      simp only [Y1,if_true]
      exact ⟨rfl,.inl ⟨0,rfl,Goes.stop fun w₁ h₁=>h2 w₁ h₁⟩⟩
    |w2 v=>rw [again_running _ (.inl (Goes.running (fun _ _ x=>x.1) w' (RB.refl 0 w') hW.2))];exact ⟨rfl,hW⟩
    |IQ=>rw [again_running _ (.inl (Goes.running hA w' (RB.refl 0 w') hW))];exact ⟨rfl,hW⟩
    |w0=>rw [again_running _ (.inl (Goes.running (fun _ _ x=>x.1) w' (RB.refl 0 w') hW))];exact ⟨rfl,hW⟩
    |w1=>rw [again_running _ (.inl (Goes.running (fun _ _ x=>x.1) w' (RB.refl 0 w') hW))];exact ⟨rfl,hW⟩
    |w4=>rw [again_running _ (.inl (Goes.running (fun _ _ x=>x.1) w' (RB.refl 0 w') hW))];exact ⟨rfl,hW⟩
    |w5=>rw [again_running _ (.inl (Goes.running (fun _ _ x=>x.1) w' (RB.refl 0 w') hW))];exact ⟨rfl,hW⟩
    |w6=>rw [again_running _ (.inl (Goes.running (fun _ _ x=>x.1) w' (RB.refl 0 w') hW))];exact ⟨rfl,hW⟩
   |self k' d'=>rw [hx] at lu;cases lu
   |_=>
    all_goals
     rw [hx] at oj
     rcases oj.status hA (by rfl) with hs|hs|⟨_,_,⟨p,home,hs⟩|hs⟩
     ·rw [again_running _ (.inl hs)];exact oj
     ·rw [again_running _ (.inr hs)];exact oj
     ·cases hs
     ·cases hs
 ·rw [hsz] at hj
  rw [T.above j hj];rfl
 ·obtain ⟨e1,e2⟩:=EH j p home e
  obtain ⟨k',fS⟩:=T.chans j p home e1
  exact ⟨k',by rw [uM,if_neg e2];exact fS⟩
 ·exact T.apart j l p p' h₁ iN (EH j p h₁ e1).1 (EH l p' iN e2).1 hch
 ·rcases QD j p home e with e1|⟨_,e2⟩
  ·obtain ⟨k',fS⟩:=T.shuts j p home e1
   exact ⟨k',by rw [uM,if_neg (fun ec=>by rw [ec,gv] at fS;cases fS)];exact fS⟩
  ·exact ⟨kk,by rw [uM,if_pos e2]⟩
 ·obtain rfl:=some_inj hx
  exact .inr (.inl (by rw [hr];rfl))
 ·have HQ:=(CJ .w3).1 h1
  have:=T.awake HQ (ot _ _ h2)
  simp only [HQ]
  split<;>omega
def cS.empty (ad:Addr):cS:={St:=fun _ _=>False,Pv:=fun _ _=>False,Sh:=fun _=>False,Gr:=fun _=>False,Dd:=fun _=>False,on:=False,ad:=ad}
def BN (j:Nat):aX:=if j=0 then .self 0 0 else .none
variable {j:Nat}
theorem fK (h:j≠0):BN j=.none:=if_neg h
theorem M6:sU BN:=fun j=>by
 by_cases e:j=0
 ·subst e;exact .inr (.inr rfl)
 ·exact .inl (fK e)
theorem IY {dU rel:Nat->Prop} {n:Nat} {K:Nat->Prop} (hr:∀p,¬rel p):Tr C dU rel n (fun _=>0) K #[]:=by
 have no:∀{i:Nat} {a:Touch},touchAt (#[]:Trace) i=some a->False:=fun h=>by
  obtain ⟨x,hx,_⟩:=touch_of h
  simp at hx
 refine ⟨fun said=> ?_,fun i a h=>(no h).elim,fun i a h=>(no h).elim,fun i a h=>(no h).elim,fun i a g h=>(no h).elim,fun i a g h=>(no h).elim,fun g=>rfl,fun p hp=>absurd hp (hr p),fun op hop=>by simp at hop⟩
 rintro ⟨i,j,_,⟨a,b,h,_⟩,_⟩
 simp [Trace.act?] at h
theorem aC.start (P:U') (b o:Nat) (ae Fin:O'->J'->Prop) (a:O') (w:J'):aC P (cS.empty ⟨b,o,none⟩) b o ae Fin (some 0) (fun _=>False) BN (fun _=>0) #[a] w #[]:=by
 have dd0:(fun j=>(BN j).dd)=fun _=>0:=by
  funext j
  by_cases e:j=0
  ·subst e;rfl
  ·rw [fK e];rfl
 refine ⟨⟨fun _ _ _ h=>h.elim,fun _ _ h=>h.elim,fun _ h=>h.elim⟩,rfl,fun l=>⟨fun h=>h.elim,fun h=>h.1.elim⟩,fun _ h=>h.elim,fun _ h=>h.elim,fun _ _ h=>h.elim False.elim False.elim,fun _ _ h=>h.elim False.elim False.elim,fun _ _ _ h=>h.elim False.elim False.elim,fun _ _ h=>h.elim False.elim False.elim, ?_,fun i g hg=> ?_,fun i hi=> ?_,fun i p home e=> ?_,fun i j p p' h h' e e'=> ?_,fun i p home e=> ?_,fun i k d e=> ?_,fun x hx=>.inl (some_inj hx).symm, ?_,fun h=>h.elim,fun _ j=> ?_,by simp,fun e=> ?_⟩
 ·rw [dd0];exact IY fun _ h=>h
 ·have:i=0:=by
   have:=(cI hg)
   simp at this;exact this
  subst this;trivial
 ·simp at hi;exact fK (by omega)
 ·by_cases e':i=0
  ·subst e';cases e
  ·rw [fK e'] at e;cases e
 ·by_cases e'':i=0
  ·subst e'';cases e
  ·rw [fK e''] at e;cases e
 ·by_cases e':i=0
  ·subst e';cases e
  ·rw [fK e'] at e;cases e
 ·by_cases e':i=0
  ·subst e';rfl
  ·rw [fK e'] at e;cases e
 ·simp [cnt,sumTo,BN,aX.count]
 ·by_cases e:j=0
  ·subst e;exact rfl
  ·rw [fK e];trivial
 ·cases e
theorem aC.anew (T:aC P C b o ae Fin (some 0) (fun _=>False) ρ q gs w t) (hr:ρ 0=.self 0 0) (hc:sU ρ) (on:Prop) (b' o':Nat) (LR Sg:O'->J'->Prop)
 (hw:on->cx b' o' w 0 0/\∀k,k=o'\/k=o'+1->¬C.Sh (.cell ⟨b',k,none⟩)/\¬C.Gr (.cell ⟨b',k,none⟩)):
 aC P (C.anew gs.size (fun l=>on/\(l=.cell ⟨b',o',none⟩\/l=.cell ⟨b',o'+1,none⟩)) on ⟨b',o',none⟩) b' o' LR Sg (some 0) (fun _=>False) ρ q gs w t:=by
 have su:∀j,(ρ j).isSelf=true->j=0:=fun j hj=>eY T hj
 have sx:∀j,j≠0->ρ j=.none\/∃d,ρ j=.quit d:=fun j hj=>by
  rcases hc j with h|h|h
  ·exact .inl h
  ·exact .inr h
  ·exact absurd (su j h) hj
 have FX:∀j,0<j->j<gs.size->∃d,ρ j=.quit d:=fun j h0 hj=>by
  rcases sx j (by omega) with h|h
  ·have:=T.eD j _ (Array.getElem?_eq_getElem hj)
   rw [h] at this;exact this.elim
  ·exact h
 have rp:∀g,¬(ρ g).loose=true:=fun g hg=>by
  by_cases e:g=0
  ·subst e;rw [hr] at hg;cases hg
  ·rcases sx g e with h|⟨d,h⟩<;>rw [h] at hg<;>cases hg
 have hlf:(fun i=>(ρ i).loose=true)=fun _=>False:=by
  funext i;exact propext ⟨rp i,False.elim⟩
 have hSh:∀l,on/\(l=Loc.cell ⟨b',o',none⟩\/l=.cell ⟨b',o'+1,none⟩)->¬C.Sh l/\¬C.Gr l:=by
  rintro l ⟨h,rfl|rfl⟩
  ·exact (hw h).2 _ (.inl rfl)
  ·exact (hw h).2 _ (.inr rfl)
 have QM:¬C.Dd 0:=T.fX (by rw [hr];simp)
 have AV:=T.tr.anew (S:=fun l=>on/\(l=Loc.cell ⟨b',o',none⟩\/l=.cell ⟨b',o'+1,none⟩)) (on:=on) (ad:=⟨b',o',none⟩) T.cX QM rp (fun _ h=>h) (fun l hl=>⟨by rcases hl.2 with rfl|rfl<;>rfl,hSh l hl⟩)
 have WI:∀n,cnt ρ n=0:=fun n=>by
  induction n with
  |zero=>rfl
  |succ n ih=>
   show cnt ρ n+_=0
   rw [ih];show 0+(ρ n).count=0
   by_cases e:n=0
   ·subst e;rw [hr];rfl
   ·rcases sx n e with h|⟨d,h⟩<;>rw [h]<;>rfl
 have hno:∀j r,(r.isSelf=false)->(∀d,r≠.quit d)->r≠.none->ρ j≠r:=fun j r h1 h2 h3 e=>by
  by_cases ej:j=0
  ·subst ej;rw [hr] at e;subst e;cases h1
  ·rcases sx j ej with h|⟨d,h⟩
   ·exact h3 (e.symm.trans h)
   ·exact h2 d (e.symm.trans h)
 refine ⟨⟨fun _ _ _ h=>h.elim,fun _ _ _=>⟨id,id⟩,fun l hl=>⟨fun h=> ?_,fun _=>⟨id,id⟩⟩⟩,rfl,fun l=>Iff.rfl,fun l hl=> ?_,fun g hg=>FX g hg.1 hg.2,fun _ _ h=>h.elim False.elim False.elim,fun _ _ h=>h.elim False.elim False.elim,fun _ _ _ h=>h.elim False.elim False.elim,fun _ _ h=>h.elim False.elim False.elim, ?_,fun i g hg=> ?_,T.above,fun i p home e=>absurd e (hno i _ rfl (fun d e=>by cases e) (fun e=>by cases e)),fun i j p p' h h' e=>absurd e (hno i _ rfl (fun d e=>by cases e) (fun e=>by cases e)),fun i p home e=>absurd e (hno i _ rfl (fun d e=>by cases e) (fun e=>by cases e)),T.one,T.holder,T.few,fun b9=> ?_,fun _ j=> ?_,T.cX,fun e=>absurd e (hno 0 _ rfl (fun d e=>by cases e) (fun e=>by cases e))⟩
 ·have:=hSh l h
  rcases hl with hl|hl
  ·exact this.2 hl
  ·exact this.1 hl
 ·rcases hl with hl|hl
  ·exact T.IB l hl
  ·obtain ⟨b9,h⟩:=(T.yk l).1 hl
   have my:=(T.wg b9).live
   obtain ⟨s,m,my⟩:=my
   have hb:=lC my.st
   rcases h with rfl|rfl
   ·exact ⟨b,o,rfl,hb⟩
   ·exact ⟨b,o+1,rfl,hb⟩
 ·rw [hlf];exact AV
 ·have aM:=T.eD i g hg
  by_cases e:i=0
  ·subst e;rw [hr];trivial
  ·rcases sx i e with h|⟨d,h⟩
   ·rw [h] at aM;exact aM.elim
   ·rw [h] at aM ⊢;exact aM
 ·unfold dy
  rw [hr]
  refine ⟨fun j=> ?_,by rw [WI];simpa using (hw b9).1⟩
  by_cases e:j=0
  ·subst e;rw [hr];rfl
  ·rcases sx j e with h|⟨d,h⟩<;>rw [h]<;>rfl
 ·by_cases e:j=0
  ·subst e;rw [hr];exact rfl
  ·rcases sx j e with h|⟨d,h⟩<;>rw [h]<;>trivial
theorem cS.Kw (C:cS) (n:Nat):C.hire n (fun _=>False) (fun _=>False)=C:=by
 obtain ⟨St,Pv,Sh,Gr,Dd,on,ad⟩:=C
 simp only [cS.hire,and_false,or_false]
theorem aC.led {n:Nat} {child:O'} (T:aC P C b o ae Fin (some 0) rel ρ q gs w t) (hr:ρ 0=.self 1 0) (hi:gs[0]?=some a) (CJ:Goes P true (RB C b o 0) (DW b o) (AtKd P C b o ae) n a' w) (fh:w_) (pos:String) (fc:w_):
 aC P C b o ae Fin (some gs.size) rel (upd (upd ρ 0 (.wait .w0)) gs.size (.self 1 0)) (upd (upd q 0 n) gs.size 0) ((gs.setIfInBounds 0 a').push child) w (t++#[{g:=0,fn:=fh,pos:=pos,act:=.go gs.size},{g:=gs.size,fn:=fc,pos:=pos,act:=.start}]):=by
 have hlt:0<gs.size:=T.cX
 have hne:(0:Nat)≠gs.size:=by omega
 have hsz:((gs.setIfInBounds 0 a').push child).size=gs.size+1:=by simp
 have om:ρ gs.size=.none:=T.above _ (C_ _)
 have b9:C.on:=T.jw (i:=0) (by rw [hr];exact Nat.one_ne_zero)
 have zN:upd (upd ρ 0 (.wait .w0)) gs.size (.self 1 0) 0=.wait .w0:=by rw [P_ _ _ hne,O_]
 have BC:upd (upd ρ 0 (.wait .w0)) gs.size (.self 1 0) gs.size=.self 1 0:=O_ _ _ _
 have uW:∀j,j≠0->j≠gs.size->upd (upd ρ 0 (.wait .w0)) gs.size (.self 1 0) j=ρ j:=fun j h1 h2=>by rw [P_ _ _ h2,P_ _ _ h1]
 have AV:=T.tr.hire (h:=0) (S:=fun _=>False) (Q:=fun _=>False) (K':=Knows (t++#[{g:=0,fn:=fh,pos:=pos,act:=.go gs.size},{g:=gs.size,fn:=fc,pos:=pos,act:=.start}]) gs.size) (fun i hi=>hi) hlt (T.fX (by rw [hr];simp)) (by rw [hr];rfl) (by rw [om];rfl) (fun g l hg=>T.old g l hg) (fun l hl=>hl.elim) (fun l hl=>hl.elim) fh pos fc (fun _ _ h=>h)
 rw [cS.Kw] at AV
 have jW:cnt (upd (upd ρ 0 (.wait .w0)) gs.size (.self 1 0)) (gs.size+1)=cnt ρ gs.size:=by
  have e1:=kL (ρ:=ρ) (.wait .w0) hlt
  rw [hr] at e1
  have e2:cnt (upd (upd ρ 0 (.wait .w0)) gs.size (.self 1 0)) (gs.size+1)=cnt (upd ρ 0 (.wait .w0)) gs.size+1:=by
   show sumTo gs.size _+_=_
   simp only [BC]
   congr 1
   exact sumTo_congr fun j hj=>by rw [P_ _ _ (by omega)]
  simp only [aX.count] at e1
  omega
 have xD:∀j,(upd (upd ρ 0 (.wait .w0)) gs.size (.self 1 0) j).isLast=(ρ j).isLast:=fun j=>by
  by_cases e1:j=0
  ·subst e1;rw [zN,hr];rfl
  ·by_cases e2:j=gs.size
   ·subst e2;rw [BC,om];rfl
   ·rw [uW j e1 e2]
 obtain ⟨hl,my⟩:=T.DV b9 hr
 refine ⟨T.ok,T.ad,T.yk,T.IB,fun g hg=> ?_,fun g l hg=> ?_,T.plain,T.CG,T.mO, ?_,fun j y hy=> ?_,fun j hj=> ?_,fun j p' h' e=> ?_,fun j l p p' h₁ iN e1 e2 hch=> ?_,fun j p' h' e=> ?_,fun j k' d' e=> ?_,fun x hx=> ?_,by rw [hsz,jW];exact T.few,fun _=> ?_,fun c=>absurd b9 c,by rw [hsz];omega,fun h1 h2=> ?_⟩
 ·obtain ⟨d,e⟩:=T.Ls g hg
  rw [uW g (by rintro rfl;rw [hr] at e;cases e) (by rintro rfl;rw [om] at e;cases e)];exact ⟨d,e⟩
 ·rw [hsz]
  have:=T.old g l hg;omega
 ·rw [hsz]
  have e1:(fun j=>(upd (upd ρ 0 (.wait .w0)) gs.size (.self 1 0) j).dd)=fun j=>(ρ j).dd:=by
   funext j
   by_cases e1:j=0
   ·subst e1;rw [zN,hr];rfl
   ·by_cases e2:j=gs.size
    ·subst e2;rw [BC,om];rfl
    ·rw [uW j e1 e2]
  rw [e1]
  refine AV.n9 (fun p hp=>.inl hp) (fun z a ha hm hs _=>⟨fun hk=>.inl hk,fun g hg hl=> ?_⟩)
  rcases hl with (zp|WB)|hl
  ·have h1:g≠0:=fun e=>by rw [e,hr] at zp;cases zp
   have h2:g≠gs.size:=fun e=>by rw [e,om] at zp;cases zp
   exact .inr (.inl (by rw [uW g h1 h2];exact zp))
  ·exact .inl (fQ (WB▸hg))
  ·exact .inr (.inr hl)
 ·by_cases e2:j=gs.size
  ·subst e2
   rw [BC];trivial
  ·rw [Array.getElem?_push,if_neg (by simpa using e2)] at hy
   by_cases e1:j=0
   ·subst e1
    rw [Array.getElem?_setIfInBounds_self_of_lt hlt] at hy
    obtain rfl:=some_inj hy
    rw [zN,P_ _ _ hne,O_];exact ⟨rfl,CJ⟩
   ·rw [I_ (ru e1)] at hy
    rw [uW j e1 e2,P_ _ _ e2,P_ _ _ e1]
    exact T.eD j y hy
 ·rw [hsz] at hj
  rw [uW j (by omega) (by omega)];exact T.above j (by omega)
 ·by_cases e1:j=0
  ·subst e1;rw [zN] at e;cases e
  ·by_cases e2:j=gs.size
   ·subst e2;rw [BC] at e;cases e
   ·rw [uW j e1 e2] at e;exact T.chans j p' h' e
 ·have of:∀j p h₁,upd (upd ρ 0 (.wait .w0)) gs.size (.self 1 0) j=.seat p h₁->ρ j=.seat p h₁:=fun j p h₁ e=>by
   by_cases e1:j=0
   ·subst e1;rw [zN] at e;cases e
   ·by_cases e2:j=gs.size
    ·subst e2;rw [BC] at e;cases e
    ·rw [uW j e1 e2] at e;exact e
  exact T.apart j l p p' h₁ iN (of j p h₁ e1) (of l p' iN e2) hch
 ·by_cases e1:j=0
  ·subst e1;rw [zN] at e;cases e
  ·by_cases e2:j=gs.size
   ·subst e2;rw [BC] at e;cases e
   ·rw [uW j e1 e2] at e;exact T.shuts j p' h' e
 ·by_cases e1:j=0
  ·subst e1;rw [zN] at e;cases e
  ·by_cases e2:j=gs.size
   ·subst e2;rfl
   ·rw [uW j e1 e2] at e
    have:=T.one j _ _ e
    exact absurd (some_inj this).symm e1
 ·obtain rfl:=some_inj hx
  rw [BC];exact .inr (.inl rfl)
 ·unfold dy
  rw [zN,hsz]
  exact ⟨fun j=>(xD j).trans (hl j),by rw [jW];exact my⟩
 ·rw [zN] at h1;cases h1
end
section
open Go Go.Conc Go.Conc.Lib Go.ConcR Go.ConcR.Gen
structure Wk (R:J'->J'->Prop) (D:J'->J'->Array Event->Prop) (I:J'->Prop):Prop where
 keep:∀w w₁,R w w₁->I w->I w₁
 quiet:∀w,D w w #[]
variable {P:U'} {main:Bool} {R:J'->J'->Prop} {D:J'->J'->Array Event->Prop} {Stop:O'->J'->Prop} {I:J'->Prop} {n d:Nat} {b:Y'} {a:Act} {k:List x_} {cs:List Y'} {ops:Array y_} {i:Nat} {rest:List Nat} {o:y_} {w:J'}
variable {g g':O'}
theorem Wk.ctl (W:Wk R D I) (hrun:g.status=.running) (hst:∀w,stepG P main g w=.go g' w #[]) (h:∃n,∀w,I w->Goes P main R D Stop n g' w):∃n,∀w,I w->Goes P main R D Stop n g w:=by
 obtain ⟨n,h⟩:=h
 exact ⟨n+1,fun w hK=>Goes.step hrun fun w₁ h₁=>by rw [hst w₁];exact ⟨W.quiet w₁,h w₁ (W.keep _ _ h₁ hK)⟩⟩
theorem Wk.look (W:Wk R D I) (hrun:g.status=.running) (hst:∀w,I w->stepG P main g w=.go g' w #[]) (h:∃n,∀w,I w->Goes P main R D Stop n g' w):∃n,∀w,I w->Goes P main R D Stop n g w:=by
 obtain ⟨n,h⟩:=h
 exact ⟨n+1,fun w hK=>Goes.step hrun fun w₁ h₁=>by
  have sG:=W.keep _ _ h₁ hK
  rw [hst w₁ sG];exact ⟨W.quiet w₁,h w₁ sG⟩⟩
theorem Wk.stop (W:Wk R D I) (h:∀w,I w->Stop g w):∃n,∀w,I w->Goes P main R D Stop n g w:=⟨0,fun _ hK=>Goes.stop fun w₁ h₁=>h w₁ (W.keep _ _ h₁ hK)⟩
theorem Wk.here (hK:I w) (h:∃n,∀w,I w->Goes P main R D Stop n g w):∃n,Goes P main R D Stop n g w:=h.imp fun _ h=>h w hK
variable {fn:w_}
theorem listed_nil {o:y_} (h:(V' a.eval o).events P w #[]=#[]):listed P fn a o w=#[]:=by
 refine Array.eq_empty_iff_forall_not_mem.2 fun e he=> ?_
 have:=mem_listed he
 rw [h] at this
 simp at this
variable {es:Array Event}
theorem Wk.said (W:Wk R D I) (hD:∀w,D w w es) (hrun:g.status=.running) (hst:∀w,I w->stepG P main g w=.go g' w es) (h:∃n,∀w,I w->Goes P main R D Stop n g' w):∃n,∀w,I w->Goes P main R D Stop n g w:=by
 obtain ⟨n,h⟩:=h
 exact ⟨n+1,fun w hK=>Goes.step hrun fun w₁ h₁=>by
  have sG:=W.keep _ _ h₁ hK
  rw [hst w₁ sG];exact ⟨hD w₁,h w₁ sG⟩⟩
def Xe (R:J'->J'->Prop) (St:O'->J'->Prop) (g:O') (w:J'):Prop:=∀w₁,R w w₁->St g w₁
theorem Wk.Ta (W:Wk R D I) {St:O'->J'->Prop} (h:∀w,I w->St g w):∃n,∀w,I w->Goes P main R D (Xe R St) n g w:=⟨0,fun _ hK=>Goes.stop fun w₁ h₁ lZ iN=>h lZ (W.keep _ _ iN (W.keep _ _ h₁ hK))⟩
theorem Wk.val (W:Wk R D I) (ho:ops[i]?=some o) (hw:U_ o (yielded ops a.tmps)=true) (hk:b.kind≠.early) (he:∀w,(V' a.eval o).events P w #[]=#[])
 (h:∀K:(J'->Result Next)->Prop,(∀v,(∃n,∀w,I w->Goes P main R D Stop n (G (b.at (a.put o.dst v) (.inRegion ops rest::k)) cs) w)->K (fun w=>.ok (.value v) w))->K (fun w=>(V' a.eval o).run P w)):
 ∃n,∀w,I w->Goes P main R D Stop n (G (b.at a (.inRegion ops (i::rest)::k)) cs) w:=by
 obtain ⟨v,h1,h2⟩:=h (fun f=>∃v,(∀w,f w=.ok (.value v) w)/\∃n,∀w,I w->Goes P main R D Stop n (G (b.at (a.put o.dst v) (.inRegion ops rest::k)) cs) w) (fun v hq=>⟨v,fun _=>rfl,hq⟩)
 refine W.ctl rfl (fun w=> ?_) h2
 rw [stepG_value ho hw hk (h1 w),listed_nil (he w)]
theorem Wk.IW (W:Wk R D I) (v:M') (ho:ops[i]?=some o) (hw:U_ o (yielded ops a.tmps)=true) (hk:b.kind≠.early) (he:∀w,I w->(V' a.eval o).run P w=.ok (.value v) w/\(V' a.eval o).events P w #[]=#[])
 (h:∃n,∀w,I w->Goes P main R D Stop n (G (b.at (a.put o.dst v) (.inRegion ops rest::k)) cs) w):∃n,∀w,I w->Goes P main R D Stop n (G (b.at a (.inRegion ops (i::rest)::k)) cs) w:=by
 refine W.look rfl (fun w gC=> ?_) h
 rw [stepG_value ho hw hk (he w gC).1,listed_nil (he w gC).2]
theorem dt (hs:g.status=.running) (h:∀w,stepG P false g w=.go g' w #[]) (hq:∃n,QuitsD P n d g'):∃n,QuitsD P n d g:=hq.elim fun n hq=>⟨n+1,.ctl hs h hq⟩
theorem P8 (ho:ops[i]?=some o) (hw:U_ o (yielded ops a.tmps)=true) (hk:b.kind≠.early) (he:∀w,(V' a.eval o).events P w #[]=#[])
 (h:∀K:(J'->Result Next)->Prop,(∀v,(∃n,QuitsD P n d (G (b.at (a.put o.dst v) (.inRegion ops rest::k)) cs))->K (fun w=>.ok (.value v) w))->K (fun w=>(V' a.eval o).run P w)):∃n,QuitsD P n d (G (b.at a (.inRegion ops (i::rest)::k)) cs):=by
 obtain ⟨v,h1,n,h2⟩:=h (fun f=>∃v,(∀w,f w=.ok (.value v) w)/\∃n,QuitsD P n d (G (b.at (a.put o.dst v) (.inRegion ops rest::k)) cs)) (fun v hq=>⟨v,fun _=>rfl,hq⟩)
 exact ⟨n+1,QuitsD.value v ho hw hk h1 he h2⟩
variable {L:WgLink}
theorem pS (H:WgLib P L) {ds:List Deferred} {todo:List x_} (hd:a.defers=dcall L.enable #[]::ds) (hq:∃n,QuitsD P n 0 (G {b.at ⟨a.tmps,ds⟩ todo with mode:=.returning} cs)):∃n,QuitsD P n 1 (G {b.at a todo with mode:=.returning} cs):=
 hq.elim fun n hq=>⟨n+1,QuitsD.unwind_mark .enable rfl (by simp) hd H.f_enable (x_enable_n L) (x_enable_b L) (x_enable_x L) (x_enable_f L) hq⟩
variable {f:w_} {fn:Func} {c:Code} {args:Array Operand} {ats:Array TypeId} {aI:Y'} {aS:Act} {todo:List x_}
theorem i6 (ho:ops[i]?=some o) (hw:U_ o (yielded ops a.tmps)=true) (hk:b.kind≠.early) (hop:o.op=.call {callee:=.value (.func f),args,argTypes:=ats})
 (hf:P.funcs[f]?=some fn) (lV:(fn.name== "runtime.NumGoroutine")=false) (hb:fn.body=some c):
 stepG P main (G (b.at a (.inRegion ops (i::rest)::k)) cs) w=.go (G ((base f).at {tmps:=args.map a.eval++F_ (fn.ntmps - (args.map a.eval).size) I',defers:=[]} [.code c]) (b.at a (.inRegion ops (i::rest)::k)::cs)) w #[]:=by
 have A8:fn.body.isNone=false:=by rw [hb];rfl
 rw [stepG_enter ho hw hk (run_call_body hop hf lV A8),enter_at _ hf hb]
 have:listed P b.fn a o w=#[]:=by unfold listed;rw [events_call_body hop hf lV A8];exact seen_none P _
 rw [this]
theorem aZ {t:Tmp} (hn:b.kind=.normal) (hd:a.defers=[]) (hf:P.funcs[b.fn]?=some fn) (hr:fn.results=#[.tmp t]):
 stepG P main (G {b.at a todo with mode:=.returning} (aI.at aS (.inRegion ops (i::rest)::k)::cs)) w=.go (G (aI.at (aS.put ((ops[i]?).bind (·.dst)) (a.tmps.getD t I')) (.inRegion ops rest::k)) cs) w #[]:=by
 rw [stepG_leave hn hd hf (results_tmp hr _ P w) (events_results_tmp hr _ _),Frame.finish_at]
theorem fC (hn:b.kind=.normal) (hd:a.defers=[]) (hf:P.funcs[b.fn]?=some fn) (hr:fn.results=#[]):
 stepG P main (G {b.at a todo with mode:=.returning} (aI.at aS (.inRegion ops (i::rest)::k)::cs)) w=.go (G (aI.at (aS.put ((ops[i]?).bind (·.dst)) (.tuple #[])) (.inRegion ops rest::k)) cs) w #[]:=by
 rw [stepG_leave hn hd hf (results_none hr _ P w) (events_results_none hr _ _),Frame.finish_at]
structure Hid (p:Prop):Prop where
 out:p
def uV (b o:Nat) (w:J'):Prop:=(∃v,w.cell? ⟨b,o,none⟩=some v)/\∃v,w.cell? ⟨b,o+1,none⟩=some v
theorem Live.has {b o:Nat} (h:Live b o w):uV b o w:=let ⟨_,_,x⟩:=h;⟨⟨_,x.st⟩,_,x.sm⟩
variable {C:cS}
theorem wk0 (b9:C.on) (b o i:Nat):Wk (RB C b o i) D0 (Live b o):=⟨fun _ _ h k=>h.live b9 k,fun _=>⟨rfl,rfl⟩⟩
theorem wkR (b9:C.on) (b o i:Nat):Wk (RB C b o i) (DR C i) (Live b o):=⟨fun _ _ h k=>h.live b9 k,fun _=>⟨Out.refl _ _,fun e he=>by simp at he⟩⟩
theorem XI (b9:C.on) (b o:Nat):Wk (RB C b o 0) (DW b o) (Live b o):=⟨fun _ _ h k=>h.live b9 k,fun _=>⟨rfl,fun e he=>by simp at he⟩⟩
theorem Ln (w:J'):DH C w w #[]:=
 ⟨⟨C_ _,fun _ c _ _ h=>⟨c,h,rfl,fun _ _=>rfl⟩,fun _ _ h _=>h,fun _ o h ho=>⟨o,h,ho⟩,rfl,rfl,rfl,fun e he=>by simp at he⟩,fun _ _=>rfl,fun e he=>by simp at he⟩
variable {w₁:J'}
theorem Gn {hid:Nat->Nat->Prop} {b o:Nat} (h:∃v,w.cell? ⟨b,o,none⟩=some v) (ho:Out hid w w₁):∃v,w₁.cell? ⟨b,o,none⟩=some v:=by
 obtain ⟨v,hv⟩:=h
 obtain ⟨c,e,f,hb,hc⟩:=dF hv
 obtain ⟨c',A8,hs,_⟩:=ho.cells _ c e f hb
 have hlt:o<c'.size:=by rw [hs];exact (cI hc)
 exact ⟨c'[o],by simp [World.cell?,A8,hlt]⟩
theorem uV.out {hid:Nat->Nat->Prop} {b o:Nat} (h:uV b o w) (ho:Out hid w w₁):uV b o w₁:=⟨Gn h.1 ho,Gn h.2 ho⟩
theorem wkH (C:cS) (b o:Nat):Wk (Out (bS C)) D0 (uV b o):=⟨fun _ _ h k=>k.out h,fun _=>⟨rfl,rfl⟩⟩
theorem V7 (C:cS):Wk (Out (bS C)) D0 (fun _=>True):=⟨fun _ _ _ _=>trivial,fun _=>⟨rfl,rfl⟩⟩
theorem sJ {P:U'} {main:Bool} {hid:Nat->Nat->Prop} {Stop:O'->J'->Prop}:∀{n:Nat} {g:O'} {w:J'},Goes P main (Out hid) D0 Stop n g w->Goes P main (Out hid) D0 (fun g' w'=>Stop g' w'/\Out hid w w') n g w
 |0,_,_,h=>fun w₁ h₁=>⟨h w₁ h₁,h₁⟩
 |n+1,g,w,h=>by
  rcases h with h|⟨hs,h⟩
  ·exact .inl fun w₁ h₁=>⟨h w₁ h₁,h₁⟩
  ·refine .inr ⟨hs,fun w₁ h₁=> ?_⟩
   have:=h w₁ h₁
   revert this
   cases stepG P main g w₁ with
   |go g' w' es=>
    simp only [goes_go]
    rintro ⟨⟨rfl,rfl⟩,hg⟩
    exact ⟨⟨rfl,rfl⟩,Go.ConcN.goes_mono (fun _ _ x=>⟨x.1,h₁.trans x.2⟩) (sJ hg)⟩
   |_=>exact id
class Rg (ops:Array y_) (l:outParam (List Nat)):Prop where
 q:List.range ops.size=l
instance:Rg #[] []:=⟨rfl⟩
instance {a:y_}:Rg #[a] [0]:=⟨rfl⟩
instance {a b:y_}:Rg #[a,b] [0,1]:=⟨rfl⟩
instance {a b c:y_}:Rg #[a,b,c] [0,1,2]:=⟨rfl⟩
instance {a b c d:y_}:Rg #[a,b,c,d] [0,1,2,3]:=⟨rfl⟩
instance {a b c d e:y_}:Rg #[a,b,c,d,e] [0,1,2,3,4]:=⟨rfl⟩
instance {a b c d e f:y_}:Rg #[a,b,c,d,e,f] [0,1,2,3,4,5]:=⟨rfl⟩
instance {a b c d e f g:y_}:Rg #[a,b,c,d,e,f,g] [0,1,2,3,4,5,6]:=⟨rfl⟩
instance {a b c d e f g h:y_}:Rg #[a,b,c,d,e,f,g,h] [0,1,2,3,4,5,6,7]:=⟨rfl⟩
instance {a b c d e f g h i:y_}:Rg #[a,b,c,d,e,f,g,h,i] [0,1,2,3,4,5,6,7,8]:=⟨rfl⟩
instance {a b c d e f g h i j:y_}:Rg #[a,b,c,d,e,f,g,h,i,j] [0,1,2,3,4,5,6,7,8,9]:=⟨rfl⟩
instance {a b c d e f g h i j k:y_}:Rg #[a,b,c,d,e,f,g,h,i,j,k] [0,1,2,3,4,5,6,7,8,9,10]:=⟨rfl⟩
instance {a b c d e f g h i j k m:y_}:Rg #[a,b,c,d,e,f,g,h,i,j,k,m] [0,1,2,3,4,5,6,7,8,9,10,11]:=⟨rfl⟩
instance {a b c d e f g h i j k m n:y_}:Rg #[a,b,c,d,e,f,g,h,i,j,k,m,n] [0,1,2,3,4,5,6,7,8,9,10,11,12]:=⟨rfl⟩
instance {a b c d e f g h i j k m n o:y_}:Rg #[a,b,c,d,e,f,g,h,i,j,k,m,n,o] [0,1,2,3,4,5,6,7,8,9,10,11,12,13]:=⟨rfl⟩
instance {a b c d e f g h i j k m n o p:y_}:Rg #[a,b,c,d,e,f,g,h,i,j,k,m,n,o,p] [0,1,2,3,4,5,6,7,8,9,10,11,12,13,14]:=⟨rfl⟩
instance {a b c d e f g h i j k m n o p q:y_}:Rg #[a,b,c,d,e,f,g,h,i,j,k,m,n,o,p,q] [0,1,2,3,4,5,6,7,8,9,10,11,12,13,14,15]:=⟨rfl⟩
instance {a b c d e f g h i j k m n o p q r:y_}:Rg #[a,b,c,d,e,f,g,h,i,j,k,m,n,o,p,q,r] [0,1,2,3,4,5,6,7,8,9,10,11,12,13,14,15,16]:=⟨rfl⟩
instance {a b c d e f g h i j k m n o p q r s:y_}:Rg #[a,b,c,d,e,f,g,h,i,j,k,m,n,o,p,q,r,s] [0,1,2,3,4,5,6,7,8,9,10,11,12,13,14,15,16,17]:=⟨rfl⟩
instance {a b c d e f g h i j k m n o p q r s t:y_}:Rg #[a,b,c,d,e,f,g,h,i,j,k,m,n,o,p,q,r,s,t] [0,1,2,3,4,5,6,7,8,9,10,11,12,13,14,15,16,17,18]:=⟨rfl⟩
instance {a b c d e f g h i j k m n o p q r s t u:y_}:Rg #[a,b,c,d,e,f,g,h,i,j,k,m,n,o,p,q,r,s,t,u] [0,1,2,3,4,5,6,7,8,9,10,11,12,13,14,15,16,17,18,19]:=⟨rfl⟩
instance {a b c d e f g h i j k m n o p q r s t u v:y_}:Rg #[a,b,c,d,e,f,g,h,i,j,k,m,n,o,p,q,r,s,t,u,v] [0,1,2,3,4,5,6,7,8,9,10,11,12,13,14,15,16,17,18,19,20]:=⟨rfl⟩
instance {a b c d e f g h i j k m n o p q r s t u v w:y_}:Rg #[a,b,c,d,e,f,g,h,i,j,k,m,n,o,p,q,r,s,t,u,v,w] [0,1,2,3,4,5,6,7,8,9,10,11,12,13,14,15,16,17,18,19,20,21]:=⟨rfl⟩
instance {a b c d e f g h i j k m n o p q r s t u v w x:y_}:Rg #[a,b,c,d,e,f,g,h,i,j,k,m,n,o,p,q,r,s,t,u,v,w,x] [0,1,2,3,4,5,6,7,8,9,10,11,12,13,14,15,16,17,18,19,20,21,22]:=⟨rfl⟩
variable {x:Code}
theorem Wk.s (W:Wk R D I) {y:Code} (h:∃n,∀w,I w->Goes P main R D Stop n (G (b.at a (.code x::.code y::k)) cs) w):∃n,∀w,I w->Goes P main R D Stop n (G (b.at a (.code (.seq x y)::k)) cs) w:=W.ctl rfl (fun _=>stepG_seq) h
theorem Wk.e (W:Wk R D I) (h:∃n,∀w,I w->Goes P main R D Stop n (G (b.at a (k)) cs) w):∃n,∀w,I w->Goes P main R D Stop n (G (b.at a (.inRegion ops []::k)) cs) w:=W.ctl rfl (fun _=>stepG_region_end) h
theorem Wk.z (W:Wk R D I) (h:∃n,∀w,I w->Goes P main R D Stop n (G (b.at a (k)) cs) w):∃n,∀w,I w->Goes P main R D Stop n (G (b.at a (.code .skip::k)) cs) w:=W.ctl rfl (fun _=>stepG_skip) h
theorem Wk.t (W:Wk R D I) {y:Code} {c:Operand} (hc:a.eval c=.bool true) (h:∃n,∀w,I w->Goes P main R D Stop n (G (b.at a (.code x::k)) cs) w):∃n,∀w,I w->Goes P main R D Stop n (G (b.at a (.code (.cond c x y)::k)) cs) w:=W.ctl rfl (fun _=>stepG_cond hc) h
theorem Wk.fa (W:Wk R D I) {y:Code} {c:Operand} (hc:a.eval c=.bool false) (h:∃n,∀w,I w->Goes P main R D Stop n (G (b.at a (.code y::k)) cs) w):∃n,∀w,I w->Goes P main R D Stop n (G (b.at a (.code (.cond c x y)::k)) cs) w:=W.ctl rfl (fun _=>stepG_cond hc) h
variable {j:Nat} {l:List Nat}
theorem Wk.r (W:Wk R D I) [q:Rg ops l] (h:∃n,∀w,I w->Goes P main R D Stop n (G (b.at a (.inRegion ops l::k)) cs) w):∃n,∀w,I w->Goes P main R D Stop n (G (b.at a (.code (.region j ops false)::k)) cs) w:=W.ctl rfl (fun _=>q.q▸stepG_region) h
theorem Wk.u (W:Wk R D I) (ho:ops[i]?=some o) (hw:U_ o (yielded ops a.tmps)=false) (h:∃n,∀w,I w->Goes P main R D Stop n (G (b.at (a.put o.dst I') (.inRegion ops rest::k)) cs) w):∃n,∀w,I w->Goes P main R D Stop n (G (b.at a (.inRegion ops (i::rest)::k)) cs) w:=W.ctl rfl (fun _=>stepG_unwanted ho hw) h
theorem Yd {y:Code} (h:∃n,QuitsD P n d (G (b.at a (.code x::.code y::k)) cs)):∃n,QuitsD P n d (G (b.at a (.code (.seq x y)::k)) cs):=dt rfl (fun _=>stepG_seq) h
theorem He (h:∃n,QuitsD P n d (G (b.at a (k)) cs)):∃n,QuitsD P n d (G (b.at a (.inRegion ops []::k)) cs):=dt rfl (fun _=>stepG_region_end) h
theorem Ya (h:∃n,QuitsD P n d (G (b.at a (k)) cs)):∃n,QuitsD P n d (G (b.at a (.code .skip::k)) cs):=dt rfl (fun _=>stepG_skip) h
theorem Yc {y:Code} {c:Operand} (hc:a.eval c=.bool true) (h:∃n,QuitsD P n d (G (b.at a (.code x::k)) cs)):∃n,QuitsD P n d (G (b.at a (.code (.cond c x y)::k)) cs):=dt rfl (fun _=>stepG_cond hc) h
theorem aEj {y:Code} {c:Operand} (hc:a.eval c=.bool false) (h:∃n,QuitsD P n d (G (b.at a (.code y::k)) cs)):∃n,QuitsD P n d (G (b.at a (.code (.cond c x y)::k)) cs):=dt rfl (fun _=>stepG_cond hc) h
theorem Ye [q:Rg ops l] (h:∃n,QuitsD P n d (G (b.at a (.inRegion ops l::k)) cs)):∃n,QuitsD P n d (G (b.at a (.code (.region j ops false)::k)) cs):=dt rfl (fun _=>q.q▸stepG_region) h
theorem Yb (ho:ops[i]?=some o) (hw:U_ o (yielded ops a.tmps)=false) (h:∃n,QuitsD P n d (G (b.at (a.put o.dst I') (.inRegion ops rest::k)) cs)):∃n,QuitsD P n d (G (b.at a (.inRegion ops (i::rest)::k)) cs):=dt rfl (fun _=>stepG_unwanted ho hw) h
theorem Wk.y {q:Prop} (W:Wk R D I) (k:q) (m:Go.aC.Hid q->∃n,∀w,I w->Goes P main R D Stop n (g) w:=by
 intro hq
 first
  |(with_reducible first
   |exact W.s hq.out
   |exact W.e hq.out
   |exact W.z hq.out
   |exact W.r hq.out)
  |exact W.t rfl hq.out
  |exact W.fa rfl hq.out
  |(refine W.u rfl rfl ?_
    walk_nrm
    exact hq.out)
  |(refine W.val rfl rfl (by k_ne) (fun _=>by simp [go_sem, *]) (fun K hy=> ?_)
    go_simp
    (try w_num)
    refine hy _ ?_
    clear hy K
    walk_nrm
    exact hq.out)):∃n,∀w,I w->Goes P main R D Stop n (g) w:=m ⟨k⟩
theorem Cf {q:Prop} (k:q) (m:Go.aC.Hid q->∃n,QuitsD P n d (g):=by
 intro hq
 first
  |(with_reducible first
   |exact Yd hq.out
   |exact He hq.out
   |exact Ya hq.out
   |exact Ye hq.out)
  |exact Yc rfl hq.out
  |exact aEj rfl hq.out
  |(refine Yb rfl rfl ?_
    walk_nrm
    exact hq.out)
  |(refine P8 rfl rfl (by k_ne) (fun _=>by simp [go_sem, *]) (fun K hy=> ?_)
    go_simp
    (try w_num)
    refine hy _ ?_
    clear hy K
    walk_nrm
    exact hq.out)):∃n,QuitsD P n d (g):=m ⟨k⟩
theorem zb {main:Bool} [q:Rg ops l]:stepG P main (G (b.at a (.code (.region j ops false)::k)) cs) w=.go (G (b.at a (.inRegion ops l::k)) cs) w:=q.q▸stepG_region
end
section
open Go Go.Conc Go.Conc.Lib Go.ConcR.Gen Go.RowKit
variable {L:WgLink} {P:U'} {C:cS} {b i:Nat} {cs:List Y'}
theorem Di (H:WgLib P L) (b9:C.on) {o:Nat} {c:Y'} {qt:Nat} (Ve:c.mode=.returning) (hT:QuitsD P qt 0 (G c cs)):
 ∃n,∀w,Live b o w->Goes P false (RB C b o i) (DR C i) (AtR0 P C b o i) n (G ((baseD L.done).at ⟨#[.pointer (some ⟨b,o,none⟩),I',I',I'],[]⟩ [.code ((doneFn L).body.getD .skip)]) (c::cs)) w:=by
 lib_facts
 have W:=wkR b9 b o i
 simp only [doneFn,A_]
 iterate 2 refine W.y ?_
 refine W.ctl rfl (fun _=>i6 rfl rfl (by k_ne) rfl H.f_add (nm_add L) rfl) ?_;walk_nrmf addFn
 iterate 11 refine W.y ?_
 refine W.IW (.pointer (some ⟨b,o,none⟩)) rfl rfl (by k_ne) (fun w hw=> ?_) ?_
 ·have hcv:=run_convert_to_unsafe (P:=P) H.underlying_tWgP H.underlying_tUP H.room_tWg hw.has.1.choose_spec
  have hce:=fun es=>events_convert_to_unsafe (P:=P) H.underlying_tWgP H.underlying_tUP H.room_tWg hw.has.1.choose_spec es
  refine ⟨?_, ?_⟩
  ·go_simp
  ·simp [go_sem,hce, *]
 walk_nrm
 refine W.stop fun w hK=>⟨rfl,_,stepG_markAt .releaseMerge (by simp) rfl rfl (by k_ne) rfl H.f_relMerge (x_relMerge_n L) (x_relMerge_b L) (x_relMerge_x L) (x_relMerge_f L) (by simp [Act.eval]),Wk.here hK ?_⟩
 clear W hK w
 have W:=wk0 b9 b o i
 walk_nrm
 iterate 3 refine W.y ?_
 refine W.stop fun w hK=>⟨rfl,_,stepG_mark0 .disable (by simp) rfl rfl (by k_ne) rfl H.f_disable (x_disable_n L) (x_disable_b L) (x_disable_x L) (x_disable_f L),Wk.here hK ?_⟩
 clear hK w
 walk_nrm
 iterate 2 refine W.y ?_
 refine W.ctl rfl (fun _=>stepG_defer rfl rfl (by k_ne) rfl) ?_;walk_nrm
 iterate 8 refine W.y ?_
 refine W.ctl rfl (fun _=>stepG_entry_pure (.bool false) rfl rfl (by k_ne) rfl H.f_inBubble (x_inBubble_n L) (x_inBubble_b L) (x_inBubble_x L) (x_inBubble_f L)) ?_;walk_nrm
 iterate 11 refine W.y ?_
 refine W.ctl rfl (fun _=>i6 rfl rfl (by k_ne) rfl H.f_uAdd (nm_uAdd L) rfl) ?_;walk_nrmf uAddFn
 iterate 10 refine W.y ?_
 refine W.stop fun w hK=>⟨rfl,fun v wt M1 hv hw=> ?_⟩
 clear hK W
 have e0:IntKind.u64.wrap ((v+1:Nat) * Go.aC.KK+wt+18446744069414584320)=v * Go.aC.KK+wt:=by
  unfold Go.aC.KK;rw [IntKind.wrap_u64];omega
 refine ⟨_,(stepG_add_atomic rfl rfl (by k_ne) rfl H.f_addU64 (x_addU64_n L) (x_addU64_b L) (x_addU64_x L) .u64 (x_addU64_f L) rfl rfl hw.st hw.thaw.1).trans (by rw [e0];rfl),fun hl=> ?_,fun hl=> ?_⟩
 ·obtain ⟨rfl,rfl⟩:=hl
  have W:=wk0 b9 b o i
  have hK:Live b o (w.setCell ⟨b,o,none⟩ (.int .u64 ((0:Nat) * Go.aC.KK+(1:Nat)))):=⟨_,_,hw.setSt _⟩
  clear hw e0
  rw [show (((0:Nat):Int) * Go.aC.KK+((1:Nat):Int))=1 from rfl] at hK ⊢
  refine Wk.here hK ?_
  clear hK w
  walk_nrm
  iterate 2 refine W.y ?_
  refine W.ctl rfl (fun _=>stepG_ret') ?_
  refine W.ctl rfl (fun _=>aZ rfl rfl H.f_uAdd rfl) ?_;walk_nrm
  iterate 89 refine W.y ?_
  refine W.ctl rfl (fun _=>i6 rfl rfl (by k_ne) rfl H.f_uLoad (nm_uLoad L) rfl) ?_;walk_nrmf uLoadFn
  iterate 9 refine W.y ?_
  refine W.stop fun w hL=>⟨rfl,fun hw=>⟨_,stepG_load_atomic rfl rfl (by k_ne) rfl H.f_loadU64 (x_loadU64_n L) (x_loadU64_b L) (x_loadU64_x L) .u64 (x_loadU64_f L) rfl hw.st,Wk.here (I:=Live b o) ⟨_,_,hw⟩ ?_⟩⟩
  clear hw hL w
  walk_nrm
  iterate 2 refine W.y ?_
  refine W.ctl rfl (fun _=>stepG_ret') ?_
  refine W.ctl rfl (fun _=>aZ rfl rfl H.f_uLoad rfl) ?_;walk_nrm
  iterate 10 refine W.y ?_
  refine W.ctl rfl (fun _=>i6 rfl rfl (by k_ne) rfl H.f_uStore (nm_uStore L) rfl) ?_;walk_nrmf uStoreFn
  iterate 5 refine W.y ?_
  refine W.stop fun w hL=>⟨rfl,fun hw=>⟨_,stepG_store_atomic rfl rfl (by k_ne) rfl H.f_storeU64 (x_storeU64_n L) (x_storeU64_b L) (x_storeU64_x L) (x_storeU64_f L) rfl rfl hw.st hw.thaw.1,Wk.here (I:=Live b o) ⟨_,_,hw.setSt 0⟩ ?_⟩⟩
  clear hw hL w
  walk_nrm
  refine W.e ?_
  refine W.ctl rfl (fun _=>stepG_end) ?_
  refine W.ctl rfl (fun _=>fC rfl rfl H.f_uStore rfl) ?_;walk_nrm
  iterate 8 refine W.y ?_
  refine W.ctl rfl (fun _=>stepG_block) ?_
  refine W.ctl rfl (fun _=>stepG_loop) ?_
  iterate 9 refine W.y ?_
  refine W.ctl rfl (fun _=>stepG_block) ?_
  iterate 4 refine W.y ?_
  refine W.stop fun w hL=>⟨rfl,mayWake_entry rfl rfl H.f_semrelease (x_semrelease_b L),fun hw=>⟨_,rfl,(stepG_semrelease rfl rfl (by k_ne) rfl H.f_semrelease (x_semrelease_n L) (x_semrelease_b L) (x_semrelease_x L) (x_semrelease_f L) (by simp [Act.eval]) hw.sm hw.thaw.2).trans (by rfl), ?_⟩⟩
  clear hw hL W w
  walk_nrm
  refine He ?_
  refine dt rfl (fun _=>stepG_inBlock) ?_
  iterate 5 refine Cf ?_
  refine dt rfl (fun _=>stepG_inLoop) ?_
  iterate 7 refine Cf ?_
  refine dt rfl (fun _=>stepG_exit rfl) ?_
  refine dt rfl (fun _=>stepG_end) ?_
  refine pS H rfl ?_
  refine dt rfl (fun _=>fC rfl rfl H.f_add rfl) ?_;walk_nrm
  refine He ?_
  refine dt rfl (fun _=>stepG_end) ?_
  exact ⟨_,.leaveD rfl rfl H.f_done rfl Ve hT⟩
 ·clear hw e0
  obtain ⟨S,hS⟩:∃S:Int,S=(v:Int) * 4294967296+(wt:Int):=⟨_,rfl⟩
  have Iy:(v:Int) * Go.aC.KK+(wt:Int)=S:=hS.symm
  have eo:bits .and .u64 S 2147483648=0:=by rw [hS];exact Go.ConcN.st_flag v wt (by omega) M1
  have HJ:bits .and .u64 S 2147483647=(wt:Int):=by rw [hS];exact Go.ConcN.st_waiters v wt (by omega) M1
  have Mi:S / 4294967296=(v:Int):=by omega
  have CX:IntKind.i32.wrap (v:Int)=(v:Int):=by rw [IntKind.wrap_i32];omega
  have qo:decide ((v:Int)<0)=false:=by simp
  rw [Iy]
  clear hS Iy
  walk_nrm
  rcases Nat.eq_zero_or_pos v with rfl|hvp
  ·obtain rfl:wt=0:=by omega
   iterate 2 refine Cf ?_
   refine dt rfl (fun _=>stepG_ret') ?_
   refine dt rfl (fun _=>aZ rfl rfl H.f_uAdd rfl) ?_;walk_nrm
   iterate 82 refine Cf ?_
   refine dt rfl (fun _=>stepG_ret') ?_
   refine pS H rfl ?_
   refine dt rfl (fun _=>fC rfl rfl H.f_add rfl) ?_;walk_nrm
   refine He ?_
   refine dt rfl (fun _=>stepG_end) ?_
   exact ⟨_,.leaveD rfl rfl H.f_done rfl Ve hT⟩
  ·have KF:decide (0<(v:Int))=true:=by simp;omega
   obtain rfl|rfl:wt=0\/wt=1:=by omega
   ·skip
    iterate 2 refine Cf ?_
    refine dt rfl (fun _=>stepG_ret') ?_
    refine dt rfl (fun _=>aZ rfl rfl H.f_uAdd rfl) ?_;walk_nrm
    iterate 82 refine Cf ?_
    refine dt rfl (fun _=>stepG_ret') ?_
    refine pS H rfl ?_
    refine dt rfl (fun _=>fC rfl rfl H.f_add rfl) ?_;walk_nrm
    refine He ?_
    refine dt rfl (fun _=>stepG_end) ?_
    exact ⟨_,.leaveD rfl rfl H.f_done rfl Ve hT⟩
   ·skip
    iterate 2 refine Cf ?_
    refine dt rfl (fun _=>stepG_ret') ?_
    refine dt rfl (fun _=>aZ rfl rfl H.f_uAdd rfl) ?_;walk_nrm
    iterate 82 refine Cf ?_
    refine dt rfl (fun _=>stepG_ret') ?_
    refine pS H rfl ?_
    refine dt rfl (fun _=>fC rfl rfl H.f_add rfl) ?_;walk_nrm
    refine He ?_
    refine dt rfl (fun _=>stepG_end) ?_
    exact ⟨_,.leaveD rfl rfl H.f_done rfl Ve hT⟩
section
variable (P:U') (C:cS) (b o:Nat) (dN:O')
def Hw (St:O'->J'->Prop) (g:O') (w:J'):Prop:=∃m,Goes P true (Out (bS C)) D0 (Xe (Out (bS C)) St) m g w
def Sj (g:O') (w:J'):Prop:=g.status=.running/\∃g',stepG P true g w=.go g' w #[mh .enable]/\∃m,Goes P true (Out (bS C)) D0 (fun g _=>g=dN) m g' w
def aDg (g:O') (w:J'):Prop:=g.status=.running/\∃g',stepG P true g w=.go g' w #[mh (.read ⟨b,o+1,none⟩)]/\Hw P C (Sj P C dN) g' w
def AtA1 (g:O') (w:J'):Prop:=
 g.status=.running/\∀v:Nat,v<2147483646->cx b o w (v * KK) 0->∃g',stepG P true g w=.go g' (w.setCell ⟨b,o,none⟩ (.int .u64 ((v+1:Nat) * KK))) #[mF ⟨b,o,none⟩,vT ⟨b,o,none⟩]/\
  (v=0->Hw P C (aDg P C b o dN) g' (w.setCell ⟨b,o,none⟩ (.int .u64 ((v+1:Nat) * KK))))/\(v≠0->Hw P C (Sj P C dN) g' (w.setCell ⟨b,o,none⟩ (.int .u64 ((v+1:Nat) * KK))))
def aDh (g:O') (w:J'):Prop:=g.status=.running/\∃g',stepG P true g w=.go g' w #[mh .disable]/\Hw P C (AtA1 P C b o dN) g' w
end
variable {aI:Y'} {aS:Act} {av:Array y_} {aN:Nat} {ak:List Nat} {aV:List x_}
theorem NS (H:WgLib P L) (C:cS) (b o:Nat):
 ∃n,∀w,uV b o w->Goes P true (Out (bS C)) D0 (Xe (Out (bS C)) (aDh P C b o (G (aI.at (aS.put ((av[aN]?).bind (·.dst)) (.tuple #[])) (.inRegion av ak::aV)) cs))) n
  (G ((base L.add).at ⟨#[.pointer (some ⟨b,o,none⟩),.int .i64 1]++F_ 115 I',[]⟩ [.code ((addFn L).body.getD .skip)]) (aI.at aS (.inRegion av (aN::ak)::aV)::cs)) w:=by
 lib_facts
 have W:=wkH C b o
 simp only [addFn,A_]
 walk_nrm
 iterate 12 refine W.y ?_
 refine W.Ta fun w hK=>⟨rfl,_,stepG_mark0 .disable (by simp) rfl rfl (by k_ne) rfl H.f_disable (x_disable_n L) (x_disable_b L) (x_disable_x L) (x_disable_f L),Wk.here hK ?_⟩
 clear hK w
 walk_nrm
 iterate 2 refine W.y ?_
 refine W.ctl rfl (fun _=>stepG_defer rfl rfl (by k_ne) rfl) ?_;walk_nrm
 iterate 8 refine W.y ?_
 refine W.ctl rfl (fun _=>stepG_entry_pure (.bool false) rfl rfl (by k_ne) rfl H.f_inBubble (x_inBubble_n L) (x_inBubble_b L) (x_inBubble_x L) (x_inBubble_f L)) ?_;walk_nrm
 iterate 11 refine W.y ?_
 refine W.ctl rfl (fun _=>i6 rfl rfl (by k_ne) rfl H.f_uAdd (nm_uAdd L) rfl) ?_;walk_nrmf uAddFn
 iterate 10 refine W.y ?_
 refine W.Ta fun w hK=>⟨rfl,fun v hv hw=> ?_⟩
 have e0:IntKind.u64.wrap ((v:Nat) * Go.aC.KK+4294967296)=(v+1:Nat) * Go.aC.KK:=by
  unfold Go.aC.KK;rw [IntKind.wrap_u64];omega
 have hK':uV b o (w.setCell ⟨b,o,none⟩ (.int .u64 ((v+1:Nat) * Go.aC.KK))):=Live.has ⟨_,_,hw.setSt _⟩
 refine ⟨_,(stepG_add_atomic rfl rfl (by k_ne) rfl H.f_addU64 (x_addU64_n L) (x_addU64_b L) (x_addU64_x L) .u64 (x_addU64_f L) rfl rfl hw.st hw.thaw.1).trans (by rw [e0];rfl),fun BG=>Wk.here hK' ?_,fun BG=>Wk.here hK' ?_⟩
 ·subst BG
  clear hK' e0 hw hK hv
  rw [show (((0+1:Nat):Int) * Go.aC.KK)=4294967296 from rfl]
  walk_nrm
  iterate 2 refine W.y ?_
  refine W.ctl rfl (fun _=>stepG_ret') ?_
  refine W.ctl rfl (fun _=>aZ rfl rfl H.f_uAdd rfl) ?_;walk_nrm
  iterate 48 refine W.y ?_
  refine W.IW (.pointer (some ⟨b,o+1,none⟩)) rfl rfl (by k_ne) (fun w hw=> ?_) ?_
  ·have hcv:=run_convert_to_unsafe (P:=P) H.underlying_tPU32 H.underlying_tUP H.room_tU32 hw.2.choose_spec
   have hce:=fun es=>events_convert_to_unsafe (P:=P) H.underlying_tPU32 H.underlying_tUP H.room_tU32 hw.2.choose_spec es
   refine ⟨?_, ?_⟩
   ·go_simp
   ·simp [go_sem,hce, *]
  walk_nrm
  refine W.Ta fun w hK=>⟨rfl,_,stepG_markAt .read (by simp) rfl rfl (by k_ne) rfl H.f_raceRead (x_raceRead_n L) (x_raceRead_b L) (x_raceRead_x L) (x_raceRead_f L) (by simp [Act.eval]),Wk.here hK ?_⟩
  clear hK w
  walk_nrm
  iterate 38 refine W.y ?_
  refine W.ctl rfl (fun _=>stepG_ret') ?_
  refine W.Ta fun w hK=>⟨rfl,_,stepG_unwind_entry (v:=.tuple #[]) (evs:=#[mh .enable]) rfl H.f_enable (x_enable_n L) (x_enable_b L) (x_enable_x L) (x_enable_f L) (by simp [Extern.Race.none_]) (by simp [mh]) (by simp [mh]),Wk.here hK ?_⟩
  refine W.ctl rfl (fun _=>fC rfl rfl H.f_add rfl) ?_
  exact W.stop fun w _=>rfl
 ·obtain ⟨S,hS⟩:∃S:Int,S=((v+1:Nat):Int) * 4294967296:=⟨_,rfl⟩
  have Iy:((v+1:Nat):Int) * Go.aC.KK=S:=hS.symm
  have eo:bits .and .u64 S 2147483648=0:=by have:=Go.ConcN.st_flag (v+1) 0 (by omega) (by omega);rw [hS];simpa using this
  have HJ:bits .and .u64 S 2147483647=0:=by have:=Go.ConcN.st_waiters (v+1) 0 (by omega) (by omega);rw [hS];simpa using this
  obtain ⟨V,hV⟩:∃V:Int,V=((v+1:Nat):Int):=⟨_,rfl⟩
  have Mi:S / 4294967296=V:=by omega
  have CX:IntKind.i32.wrap V=V:=by rw [IntKind.wrap_i32];omega
  have qo:decide (V<0)=false:=by simp;omega
  have KF:decide (0<V)=true:=by simp;omega
  have Vj:(V=1)=False:=by simp;omega
  have hb8:decide (V=1)=false:=by simp;omega
  have vJ:(V==(1:Int))=false:=by simp;omega
  rw [Iy]
  clear hS Iy hV hK' e0 hw hK hv BG
  walk_nrm
  iterate 2 refine W.y ?_
  refine W.ctl rfl (fun _=>stepG_ret') ?_
  refine W.ctl rfl (fun _=>aZ rfl rfl H.f_uAdd rfl) ?_;walk_nrm
  iterate 82 refine W.y ?_
  refine W.ctl rfl (fun _=>stepG_ret') ?_
  refine W.Ta fun w hK=>⟨rfl,_,stepG_unwind_entry (v:=.tuple #[]) (evs:=#[mh .enable]) rfl H.f_enable (x_enable_n L) (x_enable_b L) (x_enable_x L) (x_enable_f L) (by simp [Extern.Race.none_]) (by simp [mh]) (by simp [mh]),Wk.here hK ?_⟩
  refine W.ctl rfl (fun _=>fC rfl rfl H.f_add rfl) ?_
  exact W.stop fun w _=>rfl
def ya (L:WgLink) (b o:Nat) (c:Y') (cs:List Y') (g:O') (w:J'):Prop:=
 ∃T:Array M',g=G ((base L.wait).at ⟨T,[]⟩ [.code (L7 L),.inLoop (L7 L),.inBlock 0]) (c::cs)/\T.size=84/\T[0]?=some (.pointer (some ⟨b,o,none⟩))/\Live b o w
def Fs (P:U') (C:cS) (dN:O') (g:O') (w:J'):Prop:=∃m,Goes P true (Out (bS C)) D0 (fun g _=>g=dN) m g w
theorem yT {o:Nat} {c:Y'} (g:O') (w:J') (h:ya L b o c cs g w):g.status=.running:=by obtain ⟨_,rfl,_⟩:=h;rfl
section
variable (H:WgLib P L) (b9:C.on) (b o:Nat)
include H b9
theorem waitStart:∃n,∀w,Live b o w->Goes P true (RB C b o 0) (DW b o) (AtKd P C b o (ya L b o (aI.at aS (.inRegion av (aN::ak)::aV)) cs)) n
 (G ((base L.wait).at ⟨#[.pointer (some ⟨b,o,none⟩)]++F_ 83 I',[]⟩ [.code ((waitFn L).body.getD .skip)]) (aI.at aS (.inRegion av (aN::ak)::aV)::cs)) w:=by
 lib_facts
 have W:=XI b9 b o
 simp only [waitFn,A_]
 walk_nrm
 iterate 3 refine W.y ?_
 refine W.stop fun w hL=>⟨rfl,_,stepG_mark0 .disable (by simp) rfl rfl (by k_ne) rfl H.f_disable (x_disable_n L) (x_disable_b L) (x_disable_x L) (x_disable_f L),Wk.here hL ?_⟩
 clear hL w
 walk_nrm
 refine W.e ?_
 refine W.ctl rfl (fun _=>stepG_block) ?_
 refine W.ctl rfl (fun _=>stepG_loop) ?_
 exact W.stop fun w hL=>⟨_,by simp only [L7,body_wait,waitFn,A_];rfl,by rfl,by rfl,hL⟩
theorem waitRound (g:O') (w:J') (h:ya L b o (aI.at aS (.inRegion av (aN::ak)::aV)) cs g w):
 ∃m,Goes P true (RB C b o 0) (DW b o) (AtW1 P C b o (ya L b o (aI.at aS (.inRegion av (aN::ak)::aV)) cs) (Fs P C (G (aI.at (aS.put ((av[aN]?).bind (·.dst)) (.tuple #[])) (.inRegion av ak::aV)) cs))) m g w:=by
 lib_facts
 obtain ⟨T,rfl,hT84,t0,hL⟩:=h
 obtain ⟨v0,v1,v2,v3,v4,v5,v6,v7,v8,v9,v10,v11,v12,v13,v14,v15,v16,v17,v18,v19,v20,v21,v22,v23,v24,v25,v26,v27,v28,v29,v30,v31,v32,v33,v34,v35,v36,v37,v38,v39,v40,v41,v42,v43,v44,v45,v46,v47,v48,v49,v50,v51,v52,v53,v54,v55,v56,Kx,v58,v59,v60,v61,v62,v63,v64,v65,v66,v67,v68,v69,v70,v71,v72,v73,v74,v75,v76,v77,v78,v79,v80,v81,v82,v83,rfl⟩:=array84 T hT84
 simp only [List.getElem?_toArray,List.getElem?_cons_zero,Option.some.injEq] at t0
 subst t0
 have W:=XI b9 b o
 refine Wk.here hL ?_
 clear hL w hT84
 simp only [L7,body_wait,waitFn,A_]
 refine W.ctl rfl (fun _=>stepG_block) ?_
 iterate 5 refine W.y ?_
 refine W.ctl rfl (fun _=>i6 rfl rfl (by k_ne) rfl H.f_uLoad (nm_uLoad L) rfl) ?_;walk_nrmf uLoadFn
 iterate 9 refine W.y ?_
 refine W.stop fun w hL=>⟨rfl,fun v hv hw=>⟨_,stepG_load_atomic rfl rfl (by k_ne) rfl H.f_loadU64 (x_loadU64_n L) (x_loadU64_b L) (x_loadU64_x L) .u64 (x_loadU64_f L) rfl hw.st,fun BG=>Wk.here hL ?_,fun BG=>Wk.here hL ?_⟩⟩
 ·subst BG
  clear hw hv hL w
  rw [show (((0:Nat):Int) * Go.aC.KK)=0 from rfl]
  walk_nrm
  iterate 2 refine W.y ?_
  refine W.ctl rfl (fun _=>stepG_ret') ?_
  refine W.ctl rfl (fun _=>aZ rfl rfl H.f_uLoad rfl) ?_;walk_nrm
  iterate 27 refine W.y ?_
  refine W.stop fun w hL=>⟨rfl,_,stepG_mark0 .enable (by simp) rfl rfl (by k_ne) rfl H.f_enable (x_enable_n L) (x_enable_b L) (x_enable_x L) (x_enable_f L),Wk.here hL ?_⟩
  clear hL w
  walk_nrm
  iterate 3 refine W.y ?_
  refine W.IW (.pointer (some ⟨b,o,none⟩)) rfl rfl (by k_ne) (fun w hw=> ?_) ?_
  ·have hcv:=run_convert_to_unsafe (P:=P) H.underlying_tWgP H.underlying_tUP H.room_tWg hw.has.1.choose_spec
   have hce:=fun es=>events_convert_to_unsafe (P:=P) H.underlying_tWgP H.underlying_tUP H.room_tWg hw.has.1.choose_spec es
   refine ⟨?_, ?_⟩
   ·go_simp
   ·simp [go_sem,hce, *]
  walk_nrm
  refine W.stop fun w hL=>⟨rfl,_,stepG_markAt .acquire (by simp) rfl rfl (by k_ne) rfl H.f_acquire (x_acquire_n L) (x_acquire_b L) (x_acquire_x L) (x_acquire_f L) (by simp [Act.eval]),Wk.here (I:=fun _=>True) trivial ?_⟩
  clear hL w W
  have W:=V7 C
  walk_nrm
  iterate 18 refine W.y ?_
  refine W.ctl rfl (fun _=>stepG_ret') ?_
  refine W.ctl rfl (fun _=>fC rfl rfl H.f_wait rfl) ?_;walk_nrm
  exact W.stop fun w _=>rfl
 ·obtain ⟨S,hS⟩:∃S:Int,S=((v:Nat):Int) * 4294967296:=⟨_,rfl⟩
  have Iy:((v:Nat):Int) * Go.aC.KK=S:=hS.symm
  have eo:bits .and .u64 S 2147483648=0:=by have:=Go.ConcN.st_flag v 0 (by omega) (by omega);rw [hS];simpa using this
  have HJ:bits .and .u64 S 2147483647=0:=by have:=Go.ConcN.st_waiters v 0 (by omega) (by omega);rw [hS];simpa using this
  obtain ⟨V,hV⟩:∃V:Int,V=((v:Nat):Int):=⟨_,rfl⟩
  have Mi:S / 4294967296=V:=by omega
  have CX:IntKind.i32.wrap V=V:=by rw [IntKind.wrap_i32];omega
  have qo:(V=0)=False:=by simp;omega
  have KF:decide (V=0)=false:=by simp;omega
  have Vj:(V==(0:Int))=false:=by simp;omega
  have hb8:IntKind.u64.wrap (S+1)=S+1:=by rw [IntKind.wrap_u64];omega
  rw [Iy]
  have hh:Hid (S=((v:Nat):Int) * 4294967296):=⟨hS⟩
  clear hw hL w hS Iy hV
  walk_nrm
  iterate 2 refine W.y ?_
  refine W.ctl rfl (fun _=>stepG_ret') ?_
  refine W.ctl rfl (fun _=>aZ rfl rfl H.f_uLoad rfl) ?_;walk_nrm
  iterate 32 refine W.y ?_
  refine W.ctl rfl (fun _=>i6 rfl rfl (by k_ne) rfl H.f_uCas (nm_uCas L) rfl) ?_;walk_nrmf uCasFn
  iterate 11 refine W.y ?_
  refine W.stop fun w hL=>⟨rfl,fun SX TW hw=>⟨fun he=> ?_,fun he=> ?_⟩⟩
  ·subst he
   have Iy:((SX:Nat):Int) * Go.aC.KK=S:=hh.out.symm
   have gC:=hw.setSt (SX * Go.aC.KK+1)
   rw [Iy] at hw
   refine ⟨_,(stepG_cas_hit rfl rfl (by k_ne) rfl H.f_casU64 (x_casU64_n L) (x_casU64_b L) (x_casU64_x L) .u64 (x_casU64_f L) rfl rfl rfl hw.st hw.thaw.1).trans (by rw [Iy];rfl),Wk.here (I:=Live b o) ⟨_,_,gC⟩ ?_⟩
   clear gC hw hL w TW hh Iy hv BG
   walk_nrm
   iterate 2 refine W.y ?_
   refine W.ctl rfl (fun _=>stepG_ret') ?_
   refine W.ctl rfl (fun _=>aZ rfl rfl H.f_uCas rfl) ?_;walk_nrm
   iterate 15 refine W.y ?_
   refine W.IW (.pointer (some ⟨b,o+1,none⟩)) rfl rfl (by k_ne) (fun w hw=> ?_) ?_
   ·have hcv:=run_convert_to_unsafe (P:=P) H.underlying_tPU32 H.underlying_tUP H.room_tU32 hw.has.2.choose_spec
    have hce:=fun es=>events_convert_to_unsafe (P:=P) H.underlying_tPU32 H.underlying_tUP H.room_tU32 hw.has.2.choose_spec es
    refine ⟨?_, ?_⟩
    ·go_simp
    ·simp [go_sem,hce, *]
   walk_nrm
   refine W.said (es:=#[mh (.write ⟨b,o+1,none⟩)]) (fun w=>⟨rfl,fun e he=>by simpa [mh] using he⟩) rfl (fun w _=>stepG_markAt .write (by simp) rfl rfl (by k_ne) rfl H.f_raceWrite (x_raceWrite_n L) (x_raceWrite_b L) (x_raceWrite_x L) (x_raceWrite_f L) (ad:=⟨b,o+1,none⟩) (by simp [Act.eval])) ?_
   walk_nrm
   iterate 23 refine W.y ?_
   refine W.stop fun w hL=>⟨rfl,rfl,fun hs=>stepG_semacquire_wait rfl rfl rfl H.f_semacquire (x_semacquire_n L) (x_semacquire_b L) (x_semacquire_x L) (x_semacquire_f L) (by simp [Act.eval]) hs.choose_spec.sm,fun hw=>⟨_,(stepG_semacquire rfl rfl (by k_ne) rfl H.f_semacquire (x_semacquire_n L) (x_semacquire_b L) (x_semacquire_x L) (x_semacquire_f L) (by simp [Act.eval]) hw.sm (by decide) hw.thaw.2).trans (by rfl),Wk.here (I:=Live b o) ⟨_,_,hw.setSm 0⟩ ?_⟩⟩
   clear hw hL w
   walk_nrm
   iterate 6 refine W.y ?_
   refine W.ctl rfl (fun _=>i6 rfl rfl (by k_ne) rfl H.f_uLoad (nm_uLoad L) rfl) ?_;walk_nrmf uLoadFn
   iterate 9 refine W.y ?_
   refine W.stop fun w hL=>⟨rfl,fun hw=>⟨_,stepG_load_atomic rfl rfl (by k_ne) rfl H.f_loadU64 (x_loadU64_n L) (x_loadU64_b L) (x_loadU64_x L) .u64 (x_loadU64_f L) rfl hw.st,Wk.here hL ?_⟩⟩
   clear hw hL w
   walk_nrm
   iterate 2 refine W.y ?_
   refine W.ctl rfl (fun _=>stepG_ret') ?_
   refine W.ctl rfl (fun _=>aZ rfl rfl H.f_uLoad rfl) ?_;walk_nrm
   iterate 7 refine W.y ?_
   refine W.stop fun w hL=>⟨rfl,_,stepG_mark0 .enable (by simp) rfl rfl (by k_ne) rfl H.f_enable (x_enable_n L) (x_enable_b L) (x_enable_x L) (x_enable_f L),Wk.here hL ?_⟩
   clear hL w
   walk_nrm
   iterate 3 refine W.y ?_
   refine W.IW (.pointer (some ⟨b,o,none⟩)) rfl rfl (by k_ne) (fun w hw=> ?_) ?_
   ·have hcv:=run_convert_to_unsafe (P:=P) H.underlying_tWgP H.underlying_tUP H.room_tWg hw.has.1.choose_spec
    have hce:=fun es=>events_convert_to_unsafe (P:=P) H.underlying_tWgP H.underlying_tUP H.room_tWg hw.has.1.choose_spec es
    refine ⟨?_, ?_⟩
    ·go_simp
    ·simp [go_sem,hce, *]
   walk_nrm
   refine W.stop fun w hL=>⟨rfl,_,stepG_markAt .acquire (by simp) rfl rfl (by k_ne) rfl H.f_acquire (x_acquire_n L) (x_acquire_b L) (x_acquire_x L) (x_acquire_f L) (by simp [Act.eval]),Wk.here (I:=fun _=>True) trivial ?_⟩
   clear hL w W
   have W:=V7 C
   walk_nrm
   iterate 8 refine W.y ?_
   refine W.ctl rfl (fun _=>stepG_ret') ?_
   refine W.ctl rfl (fun _=>fC rfl rfl H.f_wait rfl) ?_;walk_nrm
   exact W.stop fun w _=>rfl
  ·refine ⟨_,stepG_cas_miss rfl rfl (by k_ne) rfl H.f_casU64 (x_casU64_n L) (x_casU64_b L) (x_casU64_x L) .u64 (x_casU64_f L) rfl rfl rfl hw.st hw.thaw.1 (by have:=hh.out;unfold Go.aC.KK;omega),Wk.here hL ?_⟩
   clear hw hL w hh
   walk_nrm
   iterate 2 refine W.y ?_
   refine W.ctl rfl (fun _=>stepG_ret') ?_
   refine W.ctl rfl (fun _=>aZ rfl rfl H.f_uCas rfl) ?_;walk_nrm
   iterate 3 refine W.y ?_
   refine W.ctl rfl (fun _=>stepG_inBlock) ?_
   refine W.ctl rfl (fun _=>stepG_inLoop) ?_
   exact W.stop fun w hL=>⟨_,by simp only [L7,body_wait,waitFn,A_];rfl,by rfl,by rfl,hL⟩
end
end
section
open Go Go.Conc Go.Conc.Lib Go.ConcR.Gen
open Go.ConcN (sumTo upd sumTo_upd upd_ne upd_same sumTo_congr le_sumTo)
variable {P:U'} {C:cS} {b o:Nat} {ae Fin:O'->J'->Prop} {who who':Option Nat} {rel bZ:Nat->Prop} {ρ:Nat->aX} {q:Nat->Nat} {gs gs':Array O'} {w w':J'} {t t' u:Trace} {sl:Option (Nat × Nat)}
variable {Post:M'->J'->Prop} {h k d:Nat} {a:O'}
theorem aC.Jm (T:aC P C b o ae Fin who rel ρ q gs w t) (hw:∀s,ρ 0≠.wait s) (LR Sg:O'->J'->Prop):aC P C b o LR Sg who rel ρ q gs w t:=by
 refine ⟨T.ok,T.ad,T.yk,T.IB,T.Ls,T.old,T.plain,T.CG,T.mO,T.tr,fun i g hg=> ?_,T.above,T.chans,T.apart,T.shuts,T.one,T.holder,T.few,T.wg,T.off,T.cX,T.awake⟩
 have aM:=T.eD i g hg
 cases hr:ρ i with
 |wait s=>
  rw [hr] at aM
  obtain ⟨rfl,_⟩:=aM
  exact absurd hr (hw s)
 |_=>rw [hr] at aM;exact aM
variable {es:Array Event}
theorem xS (h:D0 w w' es):DH C w w' es:=by obtain ⟨rfl,rfl⟩:=h;exact Ln w'
theorem AW (hA:∀g w,ae g w->g.status=.running) (uQ:∀g w,ae g w->∃m,Goes P true (RB C b o 0) (DW b o) (AtW1 P C b o ae Fin) m g w) {St:O'->J'->Prop} (hSt:∀g w,St g w->g.status=.running) (hc:h=0\/0<k)
 (hW:∃m,Goes P (h==0) (Out (bS C)) D0 (Xe (Out (bS C)) St) m a w) (T:aC P C b o ae Fin (some h) rel ρ q gs w t) (hr:ρ h=.self k d) (hi:gs[h]?=some a)
 (next:∀bZ fT q' gs' a' w' sl' t',aC P C b o ae Fin (some h) bZ fT q' gs' w' t'->fT h=.self k d->gs'.size=gs.size->gs'[h]?=some a'->St a' w'->(∀j,vS (ρ j) (fT j))->(sU ρ->bZ=rel/\sU fT)->Out (bS C) w w'->VZ P Post gs' w' sl' t' h):Ends P Post (crowd gs w sl) t:=by
 obtain ⟨m,hg⟩:=hW
 refine hold hA uQ hc (Walk.mono (fun _ _ _ x=>xS x) (Walk.vZ (sJ hg))) T hr hi (Out.refl _ _) fun jE iX rR dH a₁ w₁ ib mC km iT lq ig hst had hh=> ?_
 have hrun:=hSt _ _ (hst.1 w₁ (Out.refl _ _))
 refine turn hA uQ hc km iT ig hrun fun Ab wz Jo pw lZ Cb DY lK qH xt uL xJ OO xA=> ?_
 exact next Ab wz Jo pw a₁ lZ Cb DY lK qH (xt.trans lq) uL (hst.1 lZ xA) (fun j=>(had j).trans (xJ j)) (fun hH=>⟨(OO (hh hH).2).1.trans (hh hH).1,(OO (hh hH).2).2⟩) (hst.2.trans xA)
theorem Bo (hc:∀j,j≠0->(ρ j).count<=1):∀n,cnt ρ n<=n+(ρ 0).count
 |0=>Nat.zero_le _
 |n+1=>by
  show cnt ρ n+(ρ n).count<=_
  by_cases e:n=0
  ·subst e
   show 0+_<=_
   omega
  ·have:=Bo hc n
   have:=hc n e
   omega
theorem aC.Bo (T:aC P C b o ae Fin (some 0) rel ρ q gs w t) (hr:ρ 0=.self k d):cnt ρ gs.size<=gs.size+k:=by
 have:=Go.aC.Bo (ρ:=ρ) (fun j hj=>by
  cases hx:ρ j with
  |self k' d'=>exact absurd (eY T (x:=j) (by rw [hx];rfl)) hj
  |_=>simp [aX.count]) gs.size
 rw [hr] at this
 exact this
theorem LD (hA:∀g w,ae g w->g.status=.running) (uQ:∀g w,ae g w->∃m,Goes P true (RB C b o 0) (DW b o) (AtW1 P C b o ae Fin) m g w) (b9:C.on) {dN:O'}
 (T:aC P C b o ae Fin (some 0) rel ρ q gs w t) (hr:ρ 0=.self k 1) (hi:gs[0]?=some a) (hW:Hw P C (Sj P C dN) a w)
 (next:∀bZ fT q' gs' w' sl' t',aC P C b o ae Fin (some 0) bZ fT q' gs' w' t'->fT 0=.self k 0->gs'.size=gs.size->gs'[0]?=some dN->(∀j,j≠0->vS (ρ j) (fT j))->Out (bS C) w w'->Ends P Post (crowd gs' w' sl') t'):Ends P Post (crowd gs w sl) t:=by
 refine AW hA uQ (fun g w x=>x.1) (.inl rfl) hW T hr hi fun jE iX rR dH a₁ w₁ ib mC km iT lq ig xu jo _ jk=>.inl ?_
 obtain ⟨M8,RH,EN,m,cv⟩:=xu
 obtain ⟨Tq,LH,_⟩:=km.word b9 hA iT ig (a':=RH) (es:=#[mh .enable]) (d':=0) rfl (by simp)
 refine ⟨_,_,runT_crowd_go (sl:=ib) ig EN, ?_⟩
 have xC:0<dH.size:=km.cX
 refine hold hA uQ (.inl rfl) (Walk.mono (fun _ _ _ x=>xS x) (Walk.vZ (sJ cv))) LH (O_ _ _ _) (by simp [xC]) (Out.refl _ _) fun Ab wz Jo pw a₂ lZ Cb DY lK qH xt uL EG xJ _=> ?_
 obtain ⟨rfl,xA⟩:=EG
 refine next Ab wz Jo pw lZ Cb DY lK qH (by rw [xt];simpa using lq) uL (fun j hj=>(jo j).trans ?_) (jk.trans xA)
 have:=xJ j
 rw [P_ _ _ hj] at this
 exact this
variable {L:WgLink} {aI:Y'} {aS:Act} {av:Array y_} {aN:Nat} {ak:List Nat} {aV:List x_} {cs:List Y'}
theorem R4 (H:WgLib P L) (hA:∀g w,ae g w->g.status=.running) (uQ:∀g w,ae g w->∃m,Goes P true (RB C b o 0) (DW b o) (AtW1 P C b o ae Fin) m g w) (b9:C.on)
 (T:aC P C b o ae Fin (some 0) rel ρ q gs w t) (hr:ρ 0=.self k 0) (hf:gs.size+k<2147483640)
 (hi:gs[0]?=some (G ((base L.add).at ⟨#[.pointer (some ⟨b,o,none⟩),.int .i64 1]++F_ 115 I',[]⟩ [.code ((addFn L).body.getD .skip)]) (aI.at aS (.inRegion av (aN::ak)::aV)::cs)))
 (next:∀bZ fT q' gs' w' sl' t',aC P C b o ae Fin (some 0) bZ fT q' gs' w' t'->fT 0=.self (k+1) 0->gs'.size=gs.size->gs'[0]?=some (G (aI.at (aS.put ((av[aN]?).bind (·.dst)) (.tuple #[])) (.inRegion av ak::aV)) cs)->(∀j,j≠0->vS (ρ j) (fT j))->Out (bS C) w w'->Ends P Post (crowd gs' w' sl') t'):Ends P Post (crowd gs w sl) t:=by
 obtain ⟨n,TV⟩:=NS H C b o (aI:=aI) (aS:=aS) (av:=av) (aN:=aN) (ak:=ak) (aV:=aV) (cs:=cs)
 have FW:uV b o w:=by obtain ⟨s,m,x⟩:=(T.wg b9).live;exact Live.has ⟨s,m,x⟩
 refine AW hA uQ (fun g w x=>x.1) (.inl rfl) ⟨n,TV w FW⟩ T hr hi fun jE iX rR dH a₁ w₁ ib mC km iT lq ig xu jo _ jk=>.inl ?_
 obtain ⟨M8,RH,EN,cv⟩:=xu
 obtain ⟨Tq,LH,_⟩:=km.word b9 hA iT ig (a':=RH) (es:=#[mh .disable]) (d':=1) rfl (by simp)
 refine ⟨_,_,runT_crowd_go (sl:=ib) ig EN, ?_⟩
 have xC:0<dH.size:=km.cX
 refine AW hA uQ (fun g w x=>x.1) (.inl rfl) cv LH (O_ _ _ _) (by simp [xC]) fun Ab wz Jo pw a₂ lZ Cb DY lK qH xt uL EG xJ _ xA=>.inl ?_
 obtain ⟨Wp,ZR⟩:=EG
 have Kc:pw.size=gs.size:=by rw [xt];simpa using lq
 have hcb:=lK.Bo qH
 have OX:∀j,j≠0->vS (ρ j) (wz j):=fun j hj=>(jo j).trans (by have:=xJ j;rw [P_ _ _ hj] at this;exact this)
 obtain ⟨bp,Q1,hz,Y8⟩:=ZR (cnt wz pw.size) (by omega) (lK.DV b9 qH).2
 obtain ⟨aDk,O9,_,Gb⟩:=lK.added b9 hA qH uL bp (by omega)
 refine ⟨_,_,runT_crowd_go (sl:=Cb) uL Q1, ?_⟩
 have Ks:0<pw.size:=lK.cX
 by_cases hv:cnt wz pw.size=0
 ·
  refine AW hA uQ (fun g w x=>x.1) (.inl rfl) (hz hv) O9 (O_ _ _ _) (by simp [Ks]) fun P2 SV X8 aBs aDa DU N7 X3 NU FV Kb Gf EF KM _ FZ=>.inl ?_
  obtain ⟨Wo,NF,Q0,TU⟩:=EF
  obtain ⟨aDj,VY,_⟩:=NU.word b9 hA FV Gf (a':=NF) (es:=#[mh (.read ⟨b,o+1,none⟩)]) (d':=1) rfl (by simp)
  refine ⟨_,_,runT_crowd_go (sl:=N7) Gf Q0, ?_⟩
  have QQ:0<aBs.size:=NU.cX
  refine LD hA uQ b9 VY (O_ _ _ _) (by simp [QQ]) TU fun Ec IE P7 KX Py I3 PL R8 Kh Ka Kv ET Kn=>next Ec IE P7 KX Py I3 PL R8 Kh ?_ Kv (fun j hj=>(OX j hj).trans ?_) ((((jk.trans xA).trans Gb).trans FZ).trans Kn)
  ·rw [Ka];simp only [X_,Array.size_map];rw [Kb];simpa using Kc
  ·have h3:=KM j
   rw [P_ _ _ hj] at h3
   have h4:=ET j hj
   rw [P_ _ _ hj] at h4
   exact h3.trans h4
 ·refine LD hA uQ b9 O9 (O_ _ _ _) (by simp [Ks]) (Y8 hv) fun Ec IE P7 KX Py I3 PL R8 Kh Ka Kv ET Kn=>next Ec IE P7 KX Py I3 PL R8 Kh ?_ Kv (fun j hj=>(OX j hj).trans ?_) (((jk.trans xA).trans Gb).trans Kn)
  ·rw [Ka];simpa using Kc
  ·have h4:=ET j hj
   rw [P_ _ _ hj] at h4
   exact h4
end
section
open Go Go.Conc Go.Conc.Lib Go.ConcR.Gen
variable {P:U'} {main:Bool} {R:J'->J'->Prop} {D:J'->J'->Array Event->Prop} {Stop:O'->J'->Prop} {I:J'->Prop} {n d:Nat} {b:Y'} {a:Act} {k:List x_} {cs:List Y'} {ops:Array y_} {i:Nat} {rest:List Nat} {o:y_} {w:J'}
theorem Wk.X1 (W:Wk R D I) (E:Event->Prop) (v:M') (ho:ops[i]?=some o) (hw:U_ o (yielded ops a.tmps)=true) (hk:b.kind≠.early)
 (he:∀w,I w->(V' a.eval o).run P w=.ok (.value v) w/\∀e∈(V' a.eval o).events P w #[],E e) (hD:∀w es,(∀e∈es,E e)->D w w es)
 (h:∃n,∀w,I w->Goes P main R D Stop n (G (b.at (a.put o.dst v) (.inRegion ops rest::k)) cs) w):∃n,∀w,I w->Goes P main R D Stop n (G (b.at a (.inRegion ops (i::rest)::k)) cs) w:=by
 obtain ⟨n,h⟩:=h
 refine ⟨n+1,fun w hK=>Goes.step rfl fun w₁ h₁=> ?_⟩
 have sG:=W.keep _ _ h₁ hK
 rw [stepG_value ho hw hk (he w₁ sG).1]
 exact ⟨hD _ _ fun e hm=>(he w₁ sG).2 e (mem_listed hm),h w₁ sG⟩
theorem rS {p:Port} (ho:ops[i]?=some o) (hw:U_ o (yielded ops a.tmps)=true) (hk:b.kind≠.early) (hr:∀w,(V' a.eval o).run P w=.ok (.comm p.cases true p.shape) w) (he:∀w,(V' a.eval o).events P w #[]=#[]):
 gP P main p (G (b.at a (.inRegion ops (i::rest)::k)) cs) (G (b.at a (.inRegion ops (i::rest)::k)) cs):=
 ⟨rfl,rfl,rfl,rfl,fun w=>by rw [stepG_comm ho hw hk (hr w),listed_nil (he w)]⟩
theorem mD {v:M'}:Go.Conc.served (G (b.at a (.inRegion ops (i::rest)::k)) cs) v=G (b.at (a.put ((ops[i]?).bind (·.dst)) v) (.inRegion ops rest::k)) cs:=by
 simp only [Go.Conc.served,G,Frame.finish_at]
def YB (m:Region.Mode) (ops:Array y_):Nat->Array Bool->List Nat->List (List Nat)
 |0,_,acc=>[acc.reverse]
 |fuel+1,listed,acc=>
  if Region.ready m ops listed=[] then [acc.reverse] else (Region.ready m ops listed).flatMap fun i=>YB m ops fuel (listed.setIfInBounds i true) (i::acc)
variable {C:cS}
theorem VL (w:J') (es:Array Event) (h:∀e∈es,NY C i e):DR C i w w es:=⟨Out.refl _ _,h⟩
theorem HU {x k:Nat} (hs:C.St i (.cell ⟨x,k,none⟩)) (fI:¬C.Sh (.cell ⟨x,k,none⟩)):NY C i ⟨.cell ⟨x,k,none⟩,false,false⟩:=
 ⟨.inr ⟨_,rfl,fI,.inr ⟨rfl,hs⟩⟩,by simp,by simp,by simp⟩
end
section
open Go Go.RowKit Go.Conc Go.Conc.Lib Go.ConcR Go.ConcR.Gen
def GH (_:O') (_:J'):Prop:=False
theorem rX (g:O') (w:J') (h:GH g w):g.status=.running:=h.elim
variable {P:U'} {C:cS} {b:Nat}
theorem oU {o:Nat} (g:O') (w:J') (h:GH g w):∃m,Goes P true (RB C b o 0) (DW b o) (AtW1 P C b o GH GH) m g w:=h.elim
def jK (Rs:(Nat->Prop)->(Nat->aX)->Nat->Prop):Prop:=∀rel ρ bZ fT n,Rs rel ρ n->(∀j,j≠0->vS (ρ j) (fT j))->fT 0=ρ 0->(sU ρ->bZ=rel/\sU fT)->Rs bZ fT n
def Alone (rel:Nat->Prop) (ρ:Nat->aX) (_:Nat):Prop:=rel=(fun _=>False)/\sU ρ
theorem zX:jK Alone:=fun rel ρ bZ fT n h _ _ hh=>by
 obtain ⟨h1,h2⟩:=h
 obtain ⟨h3,h4⟩:=hh h2
 exact ⟨h3.trans h1,h4⟩
structure Lay (C:cS) (wl:J'):Prop where
 cut:Cut (bS C) (fy C) wl
 no:∀g r,¬C.Pv g (.obj r)/\¬C.St g (.obj r)
variable {wl w:J'} {T:Nat->Question->Nat} {d:Nat}
theorem bI.j8 (h:bI (wl.re T d) w):bI wl w:=⟨h.size,h.obj,h.os,h.out,h.ic⟩
theorem Cut.j8 {hid gd:Nat->Nat->Prop} (h:Cut hid gd (wl.re T d)):Cut hid gd wl:=⟨h.hid,h.gd⟩
theorem tN {hid gd:Nat->Nat->Prop} (w:J'):Sd hid gd w w #[]:=⟨C_ _,fun _ c _ _ h=>⟨c,h,rfl,fun _ _=>rfl⟩,fun _ _ h _=>h,fun _ o h ho=>⟨o,h,ho⟩,rfl,rfl,rfl,fun e he=>by simp at he⟩
variable {o:Nat} {Post:M'->J'->Prop} {Rs:(Nat->Prop)->(Nat->aX)->Nat->Prop} {ok:w_->Bool}
def Can (P:U') (C:cS) (b o:Nat) (Post:M'->J'->Prop) (k:Nat) (Rs:(Nat->Prop)->(Nat->aX)->Nat->Prop) (wl:J') (g:O'):Prop:=
 ∀rel ρ q gs w sl t,aC P C b o GH GH (some 0) rel ρ q gs w t->ρ 0=.self k 0->Rs rel ρ gs.size->gs[0]?=some g->bI wl w->∀n U,Shut n U wl->Below n U w->Ends P (fun v w'=>Post v w'/\Below n U w') (crowd gs w sl) t
variable {k:Nat} {g:O'}
theorem Can.re (h:Can P C b o Post k Rs wl g) (T:Nat->Question->Nat) (d:Nat):Can P C b o Post k Rs (wl.re T d) g:=fun rel ρ q gs w sl t hT hr hR hi hw n U hs=>h rel ρ q gs w sl t hT hr hR hi hw.j8 n U hs.j8
theorem Can.mono {zM:(Nat->Prop)->(Nat->aX)->Nat->Prop} (h:Can P C b o Post k Rs wl g) (hR:∀rel ρ n,zM rel ρ n->Rs rel ρ n):Can P C b o Post k zM wl g:=fun rel ρ q gs w sl t hT hr hR' hi hw=>h rel ρ q gs w sl t hT hr (hR _ _ _ hR') hi hw
theorem Can.walk (hS:jK Rs) (hL:Lay C wl)
 (hW:∀w n U,bI wl w->Shut n U wl->Walk P true (Out (bS C)) (LO n U (bS C) (fy C)) (fun g' w'=>∃aK,bI aK w'/\Shut n U aK/\Can P C b o Post k Rs aK g') g w):Can P C b o Post k Rs wl g:=by
 intro rel ρ q gs w sl t T hr DC hi hw n U fI lW
 refine hold (h:=0) rX oU (.inl rfl) (((hW w n U hw fI).keeps (fun _ _ ho hb=>hM fI hL.cut hb ho) lW).mono fun _ _ _=>zC hL.no) T hr hi (Out.refl _ _) ?_
 rintro bZ fT q' gs' a' w' sl' t' T' sX hsz lE ⟨⟨aK,gC,qm,hc⟩,Rh⟩ HN hh
 exact hc _ _ _ _ _ _ _ T' sX (hsz▸hS _ _ _ _ _ DC (fun j _=>HN j) (sX.trans hr.symm) hh) lE gC n U qm Rh
variable {g':O'}
theorem Can.ctl (hS:jK Rs) (hL:Lay C wl) (hrun:g.status=.running) (hst:∀w,stepG P true g w=.go g' w #[]) (h:Can P C b o Post k Rs wl g'):Can P C b o Post k Rs wl g:=
 .walk hS hL fun _ n U hw hs=>Walk.gU hrun fun w₁ h₁=>⟨g',w₁,#[],hst w₁,⟨tN w₁,id⟩,.stop fun _ iN=>⟨wl,(hw.outside hL.cut h₁).outside hL.cut iN,hs,h⟩⟩
def Behind (P:U') (C:cS) (b o:Nat) (Post:M'->J'->Prop) (k:Nat) (Rs:(Nat->Prop)->(Nat->aX)->Nat->Prop) (aI:Y') (K:List x_) (cs:List Y') (e:Exit) (a:Act) (w:J'):Prop:=
 match e with
 | .normal=>Cut (bS C) (fy C) w->Can P C b o Post k Rs w (G (aI.at a K) cs)
 | .ret=>Cut (bS C) (fy C) w->∀todo,Can P C b o Post k Rs w (G {aI.at a todo with mode:=.returning} cs)
 |_=>False
variable {aI:Y'} {a:Act} {K:List x_} {cs:List Y'}
theorem Can.code (hp:gM P ok) (hS:jK Rs) (hL:Lay C wl) {c:Code} (hf:OkFr P ok (aI.at a [.code c])) (h:∀T d,c.wp P (Behind P C b o Post k Rs aI K cs) a (wl.re T d)):
 Can P C b o Post k Rs wl (G (aI.at a (.code c::K)) cs):=by
 refine .walk hS hL fun w n U hw fI=> ?_
 refine (zF hp (bS C) (fy C) true cs K hf (Q:=Behind P C b o Post k Rs aI K cs) (fun e a w hq=> ?_) (fun e a w T d _ hq=> ?_) h hL.cut hw fI).bind (Out.refl _) ?_
 ·cases e<;>first|exact .inl rfl|exact .inr rfl|exact hq.elim
 ·cases e<;>first|exact hq.elim|exact fun hc=>(hq hc.j8).re T d|exact fun hc todo=>(hq hc.j8 todo).re T d
 ·rintro g w' ⟨fr,aK,rfl,⟨e,a',hq,hm⟩,hc',gC,qm⟩
  refine .stop fun w₁ h₁=>⟨aK,gC.outside hc' h₁,qm, ?_⟩
  cases e with
  |normal=>rw [hm];exact hq hc'
  |ret=>obtain ⟨todo,hm⟩:=hm;rw [hm];exact hq hc' todo
  |_=>exact hq.elim
variable {fn:w_}
theorem Can.sem (hS:jK Rs) (hL:Lay C wl) (hrun:g.status=.running) {α:Type} {s:Sem α} (hs:ag P s) {nx:α->O'} (hst:∀w v w',s.run P w=.ok v w'->stepG P true g w=.go (nx v) w' (seen P fn (s.events P w #[])))
 (h:∀T d,∃v w',s.run P (wl.re T d)=.ok v w'/\(Cut (bS C) (fy C) w'->Can P C b o Post k Rs w' (nx v))):Can P C b o Post k Rs wl g:=by
 refine .walk hS hL fun w n U hw fI=>Walk.gU hrun fun w₁ h₁=> ?_
 have cv:=hw.outside hL.cut h₁
 obtain ⟨v,w',hr,hc⟩:=h w₁.tape w₁.drawn
 have pk:s.runT P (wl.re w₁.tape w₁.drawn) #[]=(.ok v w',(s.runT P (wl.re w₁.tape w₁.drawn) #[]).2):=by
  have:=Sem.runT_fst P s (wl.re w₁.tape w₁.drawn) #[]
  rw [hr] at this
  rw [<-this]
 have oJ:bI (wl.re w₁.tape w₁.drawn) w₁:=rM cv _ _
 obtain ⟨w2,h3,h4⟩:=oS hs oJ pk trivial (fun _ _=>rfl)
 have h5:s.run P w₁=.ok v w2:=by rw [<-Sem.runT_fst P s w₁ #[],h3];rfl
 have h6:s.events P w₁ #[]=(s.runT P (wl.re w₁.tape w₁.drawn) #[]).2:=by show (s.runT P w₁ #[]).2=_;rw [h3]
 have hcut:Cut (bS C) (fy C) w':=(hL.cut.re w₁.tape w₁.drawn).upd h4.gR
 refine ⟨nx v,w2,_,hst w₁ v w2 h5, ?_,.stop fun DU xo=>⟨w',h4.weak.outside hcut xo,(fI.re _ _).upd h4.gR,hc hcut⟩⟩
 rw [h6]
 exact ⟨tO (hL.cut.re _ _) h4.seen oJ.size,fun hb=>kO (fI.re _ _) hb oJ.size h4.upd⟩
variable {ops:Array y_} {i:Nat} {rest:List Nat}
theorem Can.op (hS:jK Rs) (hL:Lay C wl) {x:y_} (ho:ops[i]?=some x) (hw:U_ x (yielded ops a.tmps)=true) (hk:aI.kind≠.early) (cK:fN P ok x=true)
 (h:∀T d,∃v w',(V' a.eval x).run P (wl.re T d)=.ok (.value v) w'/\(Cut (bS C) (fy C) w'->Can P C b o Post k Rs w' (G (aI.at (a.put x.dst v) (.inRegion ops rest::K)) cs))):
 Can P C b o Post k Rs wl (G (aI.at a (.inRegion ops (i::rest)::K)) cs):=by
 refine .walk hS hL fun w n U EE fI=>Walk.gU rfl fun w₁ h₁=> ?_
 have cv:=EE.outside hL.cut h₁
 obtain ⟨v,w',hr,hc⟩:=h w₁.tape w₁.drawn
 have pk:(V' a.eval x).runT P (wl.re w₁.tape w₁.drawn) #[]=(.ok (.value v) w',((V' a.eval x).runT P (wl.re w₁.tape w₁.drawn) #[]).2):=by
  have:=Sem.runT_fst P (V' a.eval x) (wl.re w₁.tape w₁.drawn) #[]
  rw [hr] at this
  rw [<-this]
 have oJ:bI (wl.re w₁.tape w₁.drawn) w₁:=rM cv _ _
 obtain ⟨w2,h3,h4⟩:=pO (jh cK a) oJ pk (fun _ _=>rfl)
 have h5:(V' a.eval x).run P w₁=.ok (.value v) w2:=by rw [<-Sem.runT_fst P _ w₁ #[],h3]
 have h6:(V' a.eval x).events P w₁ #[]=((V' a.eval x).runT P (wl.re w₁.tape w₁.drawn) #[]).2:=by show ((V' a.eval x).runT P w₁ #[]).2=_;rw [h3]
 have hcut:Cut (bS C) (fy C) w':=(hL.cut.re w₁.tape w₁.drawn).upd h4.gR
 refine ⟨_,w2,_,stepG_value ho hw hk h5, ?_,.stop fun DU xo=>⟨w',h4.weak.outside hcut xo,(fI.re _ _).upd h4.gR,hc hcut⟩⟩
 unfold listed
 rw [h6]
 exact ⟨tO (hL.cut.re _ _) h4.seen oJ.size,fun hb=>kO (fI.re _ _) hb oJ.size h4.upd⟩
variable {x:Code}
theorem jK.s {o:Nat} {f:Y'} {y:Code} (hS:jK Rs) (hL:Lay C wl) (h:Can P C b o Post k Rs wl (G (f.at a (.code x::.code y::K)) cs)):Can P C b o Post k Rs wl (G (f.at a (.code (.seq x y)::K)) cs):=Can.ctl hS hL rfl (fun _=>stepG_seq) h
end
section
open Go Go.RowKit Go.Conc Go.Conc.Lib Go.ConcR Go.ConcR.Gen
open Go.ConcN (sumTo upd sumTo_upd upd_ne upd_same sumTo_congr)
theorem gS (w:J') (c cap:Nat) (buf:Array M') (cl:Bool) (s r:Nat) (tm:Bool) (x:Nat):(w.setChan c cap buf cl s r tm).heap[x]?=if c=x then (if c<w.heap.size then some (.chan cap buf cl s r tm) else none) else w.heap[x]?:=by
 simp only [World.setChan,Array.getElem?_setIfInBounds]
variable {w:J'} {tm:Bool}
theorem ft {c cap:Nat} {buf:Array M'} {cl:Bool} {s r:Nat} {x:Nat} (h:c≠x):(w.setChan c cap buf cl s r tm).heap[x]?=w.heap[x]?:=by
 rw [gS,if_neg h]
variable {ob:Obj}
theorem dW {c:Nat} (ho:w.heap[c]?=some ob) (hc:aR ob=false) (cap:Nat) (buf:Array M') (cl:Bool) (s r:Nat) (tm:Bool) (a:Addr):
 (w.setChan c cap buf cl s r tm).cell? a=w.cell? a/\(w.setChan c cap buf cl s r tm).frozen? a=w.frozen? a:=by
 have hlt:=(cI ho)
 unfold World.cell? World.frozen?
 by_cases e:c=a.block
 ·subst e
  rw [gS,if_pos rfl,if_pos hlt,ho]
  cases ob<;>first|(simp [aR] at hc;done)|exact ⟨rfl,rfl⟩
 ·rw [ft e];exact ⟨rfl,rfl⟩
variable {wl:J'}
theorem bI.chan (h:bI wl w) {c cap:Nat} {buf:Array M'} {s r:Nat} (hc:wl.heap[c]?=some (.chan cap buf false s r tm)):w.heap[c]?=some (.chan cap buf false s r tm):=by
 obtain ⟨o',h1,h2⟩:=h.get hc
 cases h2 with
 |same=>exact h1
 |blind hb=>cases hb
theorem bI.setChan (h:bI wl w) (c cap:Nat) (buf:Array M') (cl:Bool) (s r:Nat) (tm:Bool) (d:Nat):bI (wl.setChan c cap buf cl s r tm) ((w.at d).setChan c cap buf cl s r tm):=by
 refine ⟨by simp [World.setChan,World.at,h.size],fun x p q h1 h2=> ?_,h.os,h.out,fun x p h1=> ?_⟩
 ·rw [gS] at h1 h2
  by_cases e:c=x
  ·rw [if_pos e] at h1 h2
   split at h1
   ·split at h2
    ·cases h1;cases h2;exact .same _
    ·cases h2
   ·cases h1
  ·rw [if_neg e] at h1 h2;exact h.obj x p q h1 h2
 ·rw [gS] at h1
  split at h1
  ·split at h1
   ·cases h1;rfl
   ·cases h1
  ·exact h.ic x p h1
variable {U:J'}
theorem Shut.wy {n:Nat} (h:Shut n U wl) {c cap:Nat} {buf:Array M'} {s r:Nat} (hc:wl.heap[c]?=some (.chan cap buf false s r tm)):n<=c:=by
 by_cases hlt:c<n
 ·obtain ⟨tz,_,h2⟩:=h.obj c _ hlt hc
  cases h2 with
  |other g0 g1 g2 g3=>cases g3
 ·omega
theorem Shut.setChan {n:Nat} (h:Shut n U wl) {c:Nat} (hn:n<=c) (cap:Nat) (buf:Array M') (cl:Bool) (s r:Nat) (tm:Bool):Shut n U (wl.setChan c cap buf cl s r tm):=
 ⟨by simp only [World.setChan,X_];exact h.size,fun b o hb ho=>by rw [ft (by omega)] at ho;exact h.obj b o hb ho⟩
theorem below_setChan {n:Nat} (h:Below n U w) {c:Nat} (hn:n<=c) (d cap:Nat) (buf:Array M') (cl:Bool) (s r:Nat) (tm:Bool):Below n U ((w.at d).setChan c cap buf cl s r tm):=
 ⟨h.os,h.tape,h.output,by simp only [World.setChan,X_];exact h.size,fun b hb=>by rw [ft (by omega)];exact h.block b hb⟩
theorem Shut.Mu {n:Nat} (h:Shut n U wl) {a:Addr} {v:M'} (hv:wl.cell? a=some v) (hf:wl.frozen? a=false):n<=a.block:=by
 by_cases hlt:a.block<n
 ·obtain ⟨c,e,f,hb,hc⟩:=dF hv
  have hsp:=nB hv
  obtain ⟨tz,_,h2⟩:=h.obj _ _ hlt hb
  obtain ⟨ab,ao,aDn⟩:=a
  cases hsp;simp only at hb hf hlt hc
  cases h2 with
  |cells g=>
   have hk:ao<c.size:=(cI hc)
   rw [p8 hb,g _ hk] at hf;cases hf
  |other g0 g1 g2 g3=>cases g1
 ·omega
theorem Cut.setChan {hid gd:Nat->Nat->Prop} (h:Cut hid gd wl) {c:Nat} (ho:wl.heap[c]?=some ob) (hc:aR ob=false) (cap:Nat) (buf:Array M') (cl:Bool) (s r:Nat) (tm:Bool):Cut hid gd (wl.setChan c cap buf cl s r tm):=
 ⟨fun b k hk=>⟨by simp only [World.setChan,X_];exact (h.hid b k hk).1,(dW ho hc cap buf cl s r tm _).1.trans (h.hid b k hk).2⟩,
  fun b k hk=>⟨by simp only [World.setChan,X_];exact (h.gd b k hk).1,(dW ho hc cap buf cl s r tm _).2.trans (h.gd b k hk).2⟩⟩
variable {C:cS}
theorem Lay.setChan (h:Lay C wl) {c:Nat} (ho:wl.heap[c]?=some ob) (hc:aR ob=false) (cap:Nat) (buf:Array M') (cl:Bool) (s r:Nat) (tm:Bool):Lay C (wl.setChan c cap buf cl s r tm):=⟨h.cut.setChan ho hc _ _ _ _ _ _,h.no⟩
variable {b i:Nat}
theorem Ee {o:Nat} (hno:∀g r,¬C.Pv g (.obj r)/\¬C.St g (.obj r)) {c:Nat} (ho:w.heap[c]?=some ob) (hc:aR ob=false) (cap:Nat) (buf:Array M') (cl:Bool) (s r:Nat) (tm:Bool) (d:Nat):RB C b o i w ((w.at d).setChan c cap buf cl s r tm):=by
 have hsc:=dW (w:=w.at d) (c:=c) ho hc cap buf cl s r tm
 refine ⟨fun _ ⟨s',m',h⟩=>⟨s',m',(hsc _).1.trans h.st,(hsc _).1.trans h.sm,(hsc _).2.trans h.thaw.1,(hsc _).2.trans h.thaw.2⟩,fun x k _=>⟨(hsc _).1,(hsc _).2⟩,fun x hx=> ?_⟩
 rcases hx with hx|hx
 ·exact absurd hx (hno i x).1
 ·exact absurd hx (hno i x).2
variable {P:U'} {o:Nat} {Post:M'->J'->Prop} {Rs zM:(Nat->Prop)->(Nat->aX)->Nat->Prop} {ok:w_->Bool} {k:Nat} {g bp:O'}
def Il (Rs:(Nat->Prop)->(Nat->aX)->Nat->Prop):Prop:=∀rel ρ bZ fT n,Rs rel ρ n->(∀j,j≠0->vS (ρ j) (fT j))->Rs bZ fT n
theorem Il.steady (h:Il Rs):jK Rs:=fun _ _ _ _ _ hR ha _ _=>h _ _ _ _ _ hR ha
variable {g':O'} {N:Nat} {aK:J'}
theorem Can.UJ (hS:Il Rs) (hL:Lay C wl) {child:O'} {S:Loc->Prop} {r:aX}
 (hN:∀rel ρ n,Rs rel ρ n->n=N) (hrun:g.status=.running) (hsp:∀w,stepG P true g w=.spawn g' child w #[])
 (hSp:∀w,bI wl w->∀l,S l->GD w l/\¬C.Sh l/\¬C.Gr l/\∀g,¬C.Pv g l)
 (aM:∀w,bI wl w->(C.on->Live b o w)->∃n,fx P (C.hire N S (fun _=>False)) b o GH GH N r n child w)
 (Ws:r.count=1/\r.dd=0/\r.isLast=false/\r.isSelf=false/\r.loose=true/\∀p h,r≠.shut p h)
 (kD:∀p h,r=.seat p h->∃k',wl.heap[p.chan]?=some (.chan 0 #[] false k' k' false))
 (Gp:∀rel ρ n,Rs rel ρ n->∀p' h',r=.seat p' h'->∀j p SL,j≠0->ρ j=.seat p SL->p.chan=p'.chan->p.out=p'.out)
 (AQ:∀w,bI wl w->bI aK w) (ub:∀n U,Shut n U wl->Shut n U aK)
 (DC:∀rel ρ n,Rs rel ρ n->zM rel (upd (upd ρ 0 (.self k 0)) N r) (N+1))
 (h:Can P (C.hire N S (fun _=>False)) b o Post k zM aK g'):Can P C b o Post (k+1) Rs wl g:=by
 intro rel ρ q gs w sl t T hr hR hi hw tC U fI lW
 refine turn (h:=0) rX oU (.inl rfl) T hr hi hrun fun jE iX rR dH w₁ ib mC km iT lq ig jo Gg jk=>.inl ?_
 have cv:=hw.outside hL.cut jk
 have ov:Rs jE iX dH.size:=by rw [lq];exact hS _ _ _ _ _ hR (fun j _=>jo j)
 have sF:=hN _ _ _ ov
 obtain ⟨f1,f2,f3,f4,f5,f6⟩:=Ws
 obtain ⟨n,hn⟩:=aM w₁ cv (fun b9=>(km.wg b9).live)
 refine ⟨_,_,runT_crowd_spawn (sl:=ib) (i:=0) ig (hsp w₁), ?_⟩
 have lK:=km.UK (a':=g') (child:=child) (S:=S) (Q:=fun _=>False) (r:=r) (n:=n) iT ig (hSp w₁ cv) (fun _ q=>q.elim) (by rw [sF];exact hn) f1 f2 f3 f4 f5 f6 (fun p' h' hp=> ?_) g.frame.fn g.frame.place child.frame.fn
 ·have QT:=km.cX
  have hlt:=QT
  rw [sF] at lK hlt
  refine (congrArg (Ends P _ _) ?_).mp (h _ _ _ _ _ ib _ lK ?_ ?_ ?_ (AQ _ cv) tC U (ub _ _ fI) (hM fI hL.cut lW jk))
  ·rw [sF];rfl
  ·rw [P_ _ _ (by omega),O_]
  ·have hsz:((dH.setIfInBounds 0 g').push child).size=N+1:=by simp [sF]
   rw [hsz]
   exact DC _ _ _ ov
  ·rw [Array.getElem?_push]
   have:(0:Nat)≠dH.size:=by omega
   simp [this,QT]
 ·obtain ⟨k',fS⟩:=kD p' h' hp
  refine ⟨⟨k',cv.chan fS⟩,fun j p SL hj hc=> ?_⟩
  refine Gp _ _ _ ov p' h' hp j p SL (fun e=> ?_) hj hc
  subst e
  rw [iT] at hj;cases hj
variable {L:WgLink} {aI:Y'} {aS:Act} {av:Array y_} {aN:Nat} {ak:List Nat} {aV:List x_} {cs:List Y'}
theorem Can.VU (H:WgLib P L) (hS:Il Rs) (hL:Lay C wl) (b9:C.on) (hN:∀rel ρ n,Rs rel ρ n->n+k<2147483640)
 (h:Can P C b o Post (k+1) Rs wl (G (aI.at (aS.put ((av[aN]?).bind (·.dst)) (.tuple #[])) (.inRegion av ak::aV)) cs)):
 Can P C b o Post k Rs wl (G ((base L.add).at ⟨#[.pointer (some ⟨b,o,none⟩),.int .i64 1]++F_ 115 I',[]⟩ [.code ((addFn L).body.getD .skip)]) (aI.at aS (.inRegion av (aN::ak)::aV)::cs)):=by
 intro rel ρ q gs w sl t T hr hR hi hw tC U fI lW
 refine R4 H rX oU b9 T hr (hN _ _ _ hR) hi ?_
 intro bZ fT q' gs' w' sl' t' T' sX xv lE had ho
 exact h _ _ _ _ _ _ _ T' sX (xv▸hS _ _ _ _ _ hR had) lE (hw.outside hL.cut ho) tC U fI (hM fI hL.cut lW ho)
def Mo (b o:Nat) (l:Loc):Prop:=True/\(l=.cell ⟨b,o,none⟩\/l=.cell ⟨b,o+1,none⟩)
theorem Can.ends (hL:Lay C wl) (hrun:g.status=.running) {v:M'} (hst:∀w,bI wl w->∃es,stepG P true g w=.ended (.done v) w es/\∀e∈es,EvM (bS C) (fy C) w.heap.size e) (xz:∀w,bI wl w->Post v w):Can P C b o Post k Alone wl g:=by
 intro rel ρ q gs w sl t T hr hR hi hw tC U fI lW
 obtain ⟨rfl,hh⟩:=hR
 refine turn (h:=0) rX oU (.inl rfl) T hr hi hrun fun jE iX rR dH w₁ ib mC km iT lq ig jo Gg jk=>.inr ?_
 obtain ⟨rfl,SB⟩:=Gg hh
 have cv:=hw.outside hL.cut jk
 obtain ⟨es,he,hes⟩:=hst w₁ cv
 refine ⟨.done v,w₁,_,ConcN.runT_crowd_ended ig he,fun wm sm=> ?_⟩
 refine km.good iT (fun j hj=> ?_) _ _ hes (fun e _ r _ g=>⟨(hL.no g r).1,fun q=>absurd q (hL.no g r).2⟩) ⟨xz _ cv,hM fI hL.cut lW jk⟩ wm sm
 rcases SB j with q|⟨d,q⟩|q
 ·exact .inr q
 ·exact .inl ⟨d,q⟩
 ·exact absurd (eY km q) hj
structure eh (P:U') (C:cS) (b o:Nat) (ae Fin:O'->J'->Prop) (h:Nat):Prop where
 ne:h≠0
 run:∀g w,ae g w->g.status=.running
 back:∀g w,ae g w->∃m,Goes P true (RB C b o 0) (DW b o) (AtW1 P C b o ae Fin) m g w
variable {ae Fin:O'->J'->Prop}
theorem eh.mn {o:Nat} {h:Nat} (B:eh P C b o ae Fin h):(h==0)=false:=by simp [B.ne]
def gh (h:Nat) (Rs:(Nat->Prop)->(Nat->aX)->Nat->Prop):Prop:=∀rel ρ bZ fT n,Rs rel ρ n->(∀j,j≠h->vS (ρ j) (fT j))->Rs bZ fT n
theorem wB {ρ fT:Nat->aX} (hz:∃s,ρ 0=.wait s) (h:vS (ρ 0) (fT 0)):∃s,fT 0=.wait s:=by
 obtain ⟨s,hs⟩:=hz
 rcases h with e|⟨e,_⟩|⟨s1,s2,_,e⟩
 ·exact ⟨s,e.trans hs⟩
 ·rw [hs] at e;cases e
 ·exact ⟨s2,e⟩
variable {h:Nat}
def ay (P:U') (C:cS) (b o:Nat) (ae Fin:O'->J'->Prop) (Post:M'->J'->Prop) (h:Nat) (Rs:(Nat->Prop)->(Nat->aX)->Nat->Prop) (wl:J') (g:O'):Prop:=
 ∀rel ρ q gs w sl t,aC P C b o ae Fin (some h) rel ρ q gs w t->ρ h=.self 1 0->(∃s,ρ 0=.wait s)->Rs rel ρ gs.size->gs[h]?=some g->bI wl w->∀n U,Shut n U wl->Below n U w->Ends P (fun v w'=>Post v w'/\Below n U w') (crowd gs w sl) t
theorem ay.re (hc:ay P C b o ae Fin Post h Rs wl g) (T:Nat->Question->Nat) (d:Nat):ay P C b o ae Fin Post h Rs (wl.re T d) g:=fun rel ρ q gs w sl t hT hr hz hR hi hw n U hs=>hc rel ρ q gs w sl t hT hr hz hR hi hw.j8 n U hs.j8
theorem ay.walk (B:eh P C b o ae Fin h) (hS:gh h Rs) (hL:Lay C wl)
 (hW:∀w n U,bI wl w->Shut n U wl->Walk P false (Out (bS C)) (LO n U (bS C) (fy C)) (fun g' w'=>∃aK,bI aK w'/\Shut n U aK/\ay P C b o ae Fin Post h Rs aK g') g w):ay P C b o ae Fin Post h Rs wl g:=by
 intro rel ρ q gs w sl t T hr hz DC hi hw n U fI lW
 have SD:=hW w n U hw fI
 rw [<-B.mn] at SD
 refine hold (h:=h) B.run B.back (.inr Nat.one_pos) ((SD.keeps (fun _ _ ho hb=>hM fI hL.cut hb ho) lW).mono fun _ _ _=>zC hL.no) T hr hi (Out.refl _ _) ?_
 rintro bZ fT q' gs' a' w' sl' t' T' sX hsz lE ⟨⟨aK,gC,qm,hc⟩,Rh⟩ HN hh
 exact hc _ _ _ _ _ _ _ T' sX (wB hz (HN 0)) (hsz▸hS _ _ _ _ _ DC (fun j _=>HN j)) lE gC n U qm Rh
theorem ay.ctl (B:eh P C b o ae Fin h) (hS:gh h Rs) (hL:Lay C wl) (hrun:g.status=.running) (hst:∀w,stepG P false g w=.go g' w #[]) (hc:ay P C b o ae Fin Post h Rs wl g'):ay P C b o ae Fin Post h Rs wl g:=
 .walk B hS hL fun _ n U hw hs=>Walk.gU hrun fun w₁ h₁=>⟨g',w₁,#[],hst w₁,⟨tN w₁,id⟩,.stop fun _ iN=>⟨wl,(hw.outside hL.cut h₁).outside hL.cut iN,hs,hc⟩⟩
def iM (P:U') (C:cS) (b o:Nat) (ae Fin:O'->J'->Prop) (Post:M'->J'->Prop) (h:Nat) (Rs:(Nat->Prop)->(Nat->aX)->Nat->Prop) (aI:Y') (K:List x_) (cs:List Y') (e:Exit) (a:Act) (w:J'):Prop:=
 match e with
 | .normal=>Cut (bS C) (fy C) w->ay P C b o ae Fin Post h Rs w (G (aI.at a K) cs)
 | .ret=>Cut (bS C) (fy C) w->∀todo,ay P C b o ae Fin Post h Rs w (G {aI.at a todo with mode:=.returning} cs)
 |_=>False
variable {a:Act} {K:List x_}
theorem ay.code (B:eh P C b o ae Fin h) (hp:gM P ok) (hS:gh h Rs) (hL:Lay C wl) {c:Code} (hf:OkFr P ok (aI.at a [.code c])) (hc:∀T d,c.wp P (iM P C b o ae Fin Post h Rs aI K cs) a (wl.re T d)):
 ay P C b o ae Fin Post h Rs wl (G (aI.at a (.code c::K)) cs):=by
 refine .walk B hS hL fun w n U hw fI=> ?_
 refine (zF hp (bS C) (fy C) false cs K hf (Q:=iM P C b o ae Fin Post h Rs aI K cs) (fun e a w hq=> ?_) (fun e a w T d _ hq=> ?_) hc hL.cut hw fI).bind (Out.refl _) ?_
 ·cases e<;>first|exact .inl rfl|exact .inr rfl|exact hq.elim
 ·cases e<;>first|exact hq.elim|exact fun hc=>(hq hc.j8).re T d|exact fun hc todo=>(hq hc.j8 todo).re T d
 ·rintro g w' ⟨fr,aK,rfl,⟨e,a',hq,hm⟩,hc',gC,qm⟩
  refine .stop fun w₁ h₁=>⟨aK,gC.outside hc' h₁,qm, ?_⟩
  cases e with
  |normal=>rw [hm];exact hq hc'
  |ret=>obtain ⟨todo,hm⟩:=hm;rw [hm];exact hq hc' todo
  |_=>exact hq.elim
theorem ay.call (B:eh P C b o ae Fin h) (hp:gM P ok) (hS:gh h Rs) (hL:Lay C wl) {c:Y'} {f:w_} (h1:ok f=true) (h2:rU P f=true) {args:Array M'}
 (hc:∀T d,Calls P f args (wl.re T d) fun e w'=>∃v,e=.returned v/\(Cut (bS C) (fy C) w'->ay P C b o ae Fin Post h Rs w' (G (c.finish v) cs))):ay P C b o ae Fin Post h Rs wl (G (Frame.enter P f args .normal) (c::cs)):=by
 refine .walk B hS hL fun w n U hw fI=> ?_
 refine (zG hp (bS C) (fy C) false c cs h1 h2 (R:=fun v w'=>Cut (bS C) (fy C) w'->ay P C b o ae Fin Post h Rs w' (G (c.finish v) cs)) (fun v w T d hq hc=>(hq hc.j8).re T d) hc hL.cut hw fI).bind (Out.refl _) ?_
 rintro g w' ⟨v,aK,rfl,hq,hc',gC,qm⟩
 exact .stop fun w₁ h₁=>⟨aK,gC.outside hc' h₁,qm,hq hc'⟩
variable {ops:Array y_} {rest:List Nat}
theorem ay.op (B:eh P C b o ae Fin h) (hS:gh h Rs) (hL:Lay C wl) {x:y_} (ho:ops[i]?=some x) (hw:U_ x (yielded ops a.tmps)=true) (hk:aI.kind≠.early) (cK:fN P ok x=true)
 (hx:∀T d,∃v w',(V' a.eval x).run P (wl.re T d)=.ok (.value v) w'/\(Cut (bS C) (fy C) w'->ay P C b o ae Fin Post h Rs w' (G (aI.at (a.put x.dst v) (.inRegion ops rest::K)) cs))):
 ay P C b o ae Fin Post h Rs wl (G (aI.at a (.inRegion ops (i::rest)::K)) cs):=by
 refine .walk B hS hL fun w n U EE fI=>Walk.gU rfl fun w₁ h₁=> ?_
 have cv:=EE.outside hL.cut h₁
 obtain ⟨v,w',hr,hc⟩:=hx w₁.tape w₁.drawn
 have pk:(V' a.eval x).runT P (wl.re w₁.tape w₁.drawn) #[]=(.ok (.value v) w',((V' a.eval x).runT P (wl.re w₁.tape w₁.drawn) #[]).2):=by
  have:=Sem.runT_fst P (V' a.eval x) (wl.re w₁.tape w₁.drawn) #[]
  rw [hr] at this
  rw [<-this]
 have oJ:bI (wl.re w₁.tape w₁.drawn) w₁:=rM cv _ _
 obtain ⟨w2,h3,h4⟩:=pO (jh cK a) oJ pk (fun _ _=>rfl)
 have h5:(V' a.eval x).run P w₁=.ok (.value v) w2:=by rw [<-Sem.runT_fst P _ w₁ #[],h3]
 have h6:(V' a.eval x).events P w₁ #[]=((V' a.eval x).runT P (wl.re w₁.tape w₁.drawn) #[]).2:=by show ((V' a.eval x).runT P w₁ #[]).2=_;rw [h3]
 have hcut:Cut (bS C) (fy C) w':=(hL.cut.re w₁.tape w₁.drawn).upd h4.gR
 refine ⟨_,w2,_,stepG_value ho hw hk h5, ?_,.stop fun DU xo=>⟨w',h4.weak.outside hcut xo,(fI.re _ _).upd h4.gR,hc hcut⟩⟩
 unfold listed
 rw [h6]
 exact ⟨tO (hL.cut.re _ _) h4.seen oJ.size,fun hb=>kO (fI.re _ _) hb oJ.size h4.upd⟩
variable {kk:Nat}
theorem ay.closes (B:eh P C b o ae Fin h) (hS:gh h Rs) (hL:Lay C wl) (b9:C.on) {c:Nat} (gv:wl.heap[c]?=some (.chan 0 #[] false kk kk false)) (hrun:g.status=.running)
 (hst:∀w,w.heap[c]?=some (.chan 0 #[] false kk kk false)->stepG P false g w=.go g' (w.setChan c 0 #[] true kk kk false) (closeEvents c)) (QP:mayWake P g=true) (xw:g'.status=.running)
 (KD:∀rel ρ n,Rs rel ρ n->∀j p home,j≠0->j≠h->ρ j=.seat p home->p.chan=c->∃z ok,p=.recv c z ok/\∀bp w,home bp w->∃m,Goes P false (RB C b o j) (DR C j) (AtR0 P C b o j) m (Go.Conc.served bp (recvd ok z false)) w)
 (DC:∀rel ρ n,Rs rel ρ n->zM rel (fun j=>bD c (ρ j)) n)
 (hc:ay P C b o ae Fin Post h zM (wl.setChan c 0 #[] true kk kk false) g'):ay P C b o ae Fin Post h Rs wl g:=by
 intro rel ρ q gs w sl t T hr hz hR hi hw tC U fI lW
 refine turn (h:=h) B.run B.back (.inr Nat.one_pos) T hr hi hrun fun jE iX rR dH w₁ ib mC km iT lq ig jo Gg jk=>.inl ?_
 have cv:=hw.outside hL.cut jk
 have ov:Rs jE iX dH.size:=by rw [lq];exact hS _ _ _ _ _ hR (fun j _=>jo j)
 have CH:=wB hz (jo 0)
 have tZ:=cv.chan gv
 have hlt:h<dH.size:=(cI ig)
 obtain ⟨Jo,lK⟩:=km.closed b9 B.run iT ig (a':=g') tZ (fun g=>⟨(hL.no g c).2,(hL.no g c).1⟩) QP xw (fun j p home hj hc=>by
  have KI:j≠h:=by rintro rfl;rw [iT] at hj;cases hj
  have Nn:j≠0:=by
   rintro rfl
   obtain ⟨s,hs⟩:=CH
   rw [hs] at hj;cases hj
  exact ⟨by omega,KD _ _ _ ov j p home Nn KI hj hc⟩)
 have xu:stepG P (h==0) g w₁=.go g' (w₁.setChan c 0 #[] true kk kk false) (closeEvents c):=by rw [B.mn];exact hst w₁ tZ
 refine ⟨_,_,runT_crowd_go (sl:=ib) (i:=h) ig xu, ?_⟩
 refine hc _ _ _ _ _ ib _ lK (by simp only [iT,bD]) ?_ ?_ (by simp [hlt]) (cv.setChan c 0 #[] true kk kk false w₁.drawn) tC U (fI.setChan (fI.wy gv) _ _ _ _ _ _) (below_setChan (hM fI hL.cut lW jk) (fI.wy gv) w₁.drawn _ _ _ _ _ _)
 ·obtain ⟨s,hs⟩:=CH
  exact ⟨s,by simp only [hs,bD]⟩
 ·have hsz:((dH.map (woken P g g' (w₁.setChan c 0 #[] true kk kk false))).setIfInBounds h g').size=dH.size:=by simp
  rw [hsz]
  exact DC _ _ _ ov
variable {f:Y'}
variable {x:Code}
theorem eh.s {y:Code} (B:eh P C b o ae Fin h) (q:ay P C b o ae Fin Post h Rs wl (G (f.at a (.code x::.code y::K)) cs)) (hS:gh h Rs:=by assumption) (hL:Lay C wl:=by assumption):ay P C b o ae Fin Post h Rs wl (G (f.at a (.code (.seq x y)::K)) cs):=ay.ctl B hS hL rfl (fun _=>stepG_seq) q
variable {j:Nat} {l:List Nat}
theorem eh.r [i:Rg ops l] (B:eh P C b o ae Fin h) (q:ay P C b o ae Fin Post h Rs wl (G (f.at a (.inRegion ops l::K)) cs)) (hS:gh h Rs:=by assumption) (hL:Lay C wl:=by assumption):ay P C b o ae Fin Post h Rs wl (G (f.at a (.code (.region j ops false)::K)) cs):=ay.ctl B hS hL rfl (fun _=>zb) q
theorem eh.e (B:eh P C b o ae Fin h) (q:ay P C b o ae Fin Post h Rs wl (G (f.at a (K)) cs)) (hS:gh h Rs:=by assumption) (hL:Lay C wl:=by assumption):ay P C b o ae Fin Post h Rs wl (G (f.at a (.inRegion ops []::K)) cs):=ay.ctl B hS hL rfl (fun _=>stepG_region_end) q
theorem eh.c {y:Code} {c:Operand} {t:Bool} (B:eh P C b o ae Fin h) (hc:a.eval c=.bool t) (q:ay P C b o ae Fin Post h Rs wl (G (f.at a (.code (if t then x else y)::K)) cs)) (hS:gh h Rs:=by assumption) (hL:Lay C wl:=by assumption):ay P C b o ae Fin Post h Rs wl (G (f.at a (.code (.cond c x y)::K)) cs):=ay.ctl B hS hL rfl (fun _=>stepG_cond hc) q
theorem eh.t {y:Code} {c:Operand} (B:eh P C b o ae Fin h) (hc:a.eval c=.bool true) (q:ay P C b o ae Fin Post h Rs wl (G (f.at a (.code x::K)) cs)) (hS:gh h Rs:=by assumption) (hL:Lay C wl:=by assumption):ay P C b o ae Fin Post h Rs wl (G (f.at a (.code (.cond c x y)::K)) cs):=ay.ctl B hS hL rfl (fun _=>stepG_cond hc) q
theorem eh.z {y:Code} {c:Operand} (B:eh P C b o ae Fin h) (hc:a.eval c=.bool false) (q:ay P C b o ae Fin Post h Rs wl (G (f.at a (.code y::K)) cs)) (hS:gh h Rs:=by assumption) (hL:Lay C wl:=by assumption):ay P C b o ae Fin Post h Rs wl (G (f.at a (.code (.cond c x y)::K)) cs):=ay.ctl B hS hL rfl (fun _=>stepG_cond hc) q
end
section
open Go Go.Conc Go.Conc.Lib Go.ConcR Go.ConcR.Gen
open Go.ConcN (sumTo upd sumTo_upd upd_ne upd_same sumTo_congr)
variable {P:U'} {C:cS} {b o:Nat} {Post:M'->J'->Prop} {Rs zM:(Nat->Prop)->(Nat->aX)->Nat->Prop} {ok:w_->Bool} {k:Nat} {wl:J'} {g bp:O'}
structure Eqd {α:Type} (a b:α):Prop where
 out:a=b
variable {aI:Y'} {a:Act} {K:List x_} {cs:List Y'}
theorem Can.cY (hp:gM P ok) (hS:jK Rs) (hL:Lay C wl) {c:Code} (hf:OkFr P ok (aI.at a [.code c])) (h:∀T d W,Eqd W (wl.re T d)->∀B,Eqd B (Behind P C b o Post k Rs aI K cs)->c.wp P B a W):
 Can P C b o Post k Rs wl (G (aI.at a (.code c::K)) cs):=Can.code hp hS hL hf fun T d=>h T d _ ⟨rfl⟩ _ ⟨rfl⟩
def db (B:Nat) (rel:Nat->Prop) (ρ:Nat->aX) (n:Nat):Prop:=Alone rel ρ n/\n<=B
theorem cT (B:Nat):jK (db B):=fun rel ρ bZ fT n h ha h0 hh=>⟨zX rel ρ bZ fT n h.1 ha h0 hh,h.2⟩
variable {B:Nat}
theorem db.mono {B':Nat} (h:B<=B'):∀rel ρ n,db B rel ρ n->db B' rel ρ n:=fun _ _ _ hh=>⟨hh.1,Nat.le_trans hh.2 h⟩
variable {aK:J'}
theorem Can.NH {b' o':Nat} {Rn:Nat->(Nat->Prop)->(Nat->aX)->Nat->Prop} (hL:Lay C wl) (my:cx b' o' wl 0 0) (AQ:∀w,bI wl w->bI aK w) (ub:∀n U,n<=b'->Shut n U wl->Shut n U aK)
 (DC:∀N rel ρ,0<N->N<=B->Alone rel ρ N->(∀j,(ρ j).isSelf=true->j=0)->Rn N rel ρ N) (h:∀N,0<N->N<=B->Can P (C.anew N (Mo b' o') True ⟨b',o',none⟩) b' o' Post 0 (Rn N) aK g):Can P C b o Post 0 (db B) wl g:=by
 intro rel ρ q gs w sl t T hr hR hi hw tC U fI lW
 obtain ⟨⟨rfl,hh⟩,hB⟩:=hR
 have nh:∀j v,wl.cell? ⟨b',j,none⟩=some v->¬C.Sh (.cell ⟨b',j,none⟩)/\¬C.Gr (.cell ⟨b',j,none⟩):=fun j v hv=>
  ⟨fun q=>absurd (hv.symm.trans (hL.cut.hid b' j (.inl q)).2) (by simp),fun q=>absurd (hv.symm.trans (hL.cut.hid b' j (.inr (.inl q))).2) (by simp)⟩
 have lK:=T.anew hr hh True b' o' GH GH (fun _=>⟨⟨hw.cell my.st,hw.cell my.sm,hw.frozen my.st my.thaw.1,hw.frozen my.sm my.thaw.2⟩,fun j hj=>by
  rcases hj with rfl|rfl
  ·exact nh _ _ my.st
  ·exact nh _ _ my.sm⟩)
 exact h gs.size T.cX hB _ _ _ _ _ _ _ lK hr (DC _ _ _ T.cX hB ⟨rfl,hh⟩ (fun j q=>eY T q)) hi (AQ _ hw) tC U (ub _ _ (fI.Mu my.st my.thaw.1) fI) lW
end
section
open Go Go.RowKit Go.Conc Go.Conc.Lib Go.ConcR Go.ConcR.Gen
open Go.ConcN (sumTo upd sumTo_upd upd_ne upd_same sumTo_congr)
variable {P:U'} {C:cS} {b o:Nat} {ae Fin:O'->J'->Prop} {who who':Option Nat} {rel bZ:Nat->Prop} {ρ fT:Nat->aX} {q:Nat->Nat} {gs gs':Array O'} {w w':J'} {t t' u:Trace} {sl:Option (Nat × Nat)}
variable {Post:M'->J'->Prop} {h k d:Nat} {a:O'}
theorem GL {n:Nat} (h0:h≠0) (hr:ρ h=.self 1 0) (hlt:h<n) (hw:dy b o ρ n w):dy b o (upd ρ h .done) n w:=by
 have e0:upd ρ h .done 0=ρ 0:=P_ _ _ (ru h0)
 have el:∀j,(upd ρ h .done j).isLast=(ρ j).isLast:=fun j=>by
  by_cases e:j=h
  ·subst e;rw [O_,hr];rfl
  ·rw [P_ _ _ e]
 have ec:cnt (upd ρ h .done) n=cnt ρ n:=js hlt (by rw [hr];rfl)
 have er:∀i r,r≠.done->r≠.self 1 0->(upd ρ h .done i=r↔ρ i=r):=fun i r h1 h2=>by
  by_cases e:i=h
  ·subst e;rw [O_,hr];exact ⟨fun e=>absurd e.symm h1,fun e=>absurd e.symm h2⟩
  ·rw [P_ _ _ e]
 unfold dy at hw ⊢
 rw [e0,ec]
 simp only [el,er _ .ky (by simp) (by simp),er _ .kx (by simp) (by simp),er _ .ku (by simp) (by simp)]
 exact hw
theorem aC.leaves {n:Nat} (T:aC P C b o ae Fin (some h) rel ρ q gs w t) (hr:ρ h=.self 1 0) (h0:h≠0) (hi:gs[h]?=some a) (hg:Goes P false (RB C b o h) (DR C h) (AtR0 P C b o h) n a w):
 aC P C b o ae Fin (some h) rel (upd ρ h .done) (upd q h n) gs w t:=by
 have hlt:h<gs.size:=(cI hi)
 have b9:C.on:=T.jw (i:=h) (by rw [hr];exact Nat.one_ne_zero)
 have jW:cnt (upd ρ h .done) gs.size=cnt ρ gs.size:=js hlt (by rw [hr];rfl)
 have ho:∀{j:Nat} {r:aX},r≠.done->upd ρ h .done j=r->j≠h/\ρ j=r:=fun {j r} hn e=>by
  by_cases ej:j=h
  ·subst ej;rw [O_] at e;exact absurd e.symm hn
  ·rw [P_ _ _ ej] at e;exact ⟨ej,e⟩
 refine ⟨T.ok,T.ad,T.yk,T.IB,fun g hg=> ?_,T.old,T.plain,T.CG,T.mO, ?_,fun i y hy=> ?_,fun i lE=> ?_,fun i p home e=>T.chans i p home (ho (by simp) e).2,fun i j p p' h₁ iN e e'=>T.apart i j p p' h₁ iN (ho (by simp) e).2 (ho (by simp) e').2,fun i p home e=>T.shuts i p home (ho (by simp) e).2,fun i k d e=>T.one i k d (ho (by simp) e).2,fun x hx=> ?_,by rw [jW];exact T.few,fun c=>GL h0 hr hlt (T.wg c),fun c=>absurd b9 c,T.cX,fun e1 e2=> ?_⟩
 ·obtain ⟨d,e⟩:=T.Ls g hg
  rw [P_ _ _ (by rintro rfl;rw [hr] at e;cases e)]
  exact ⟨d,e⟩
 ·have e1:(fun j=>(upd ρ h .done j).dd)=fun j=>(ρ j).dd:=by
   funext j
   by_cases e:j=h
   ·subst e;rw [O_,hr];rfl
   ·rw [P_ _ _ e]
  rw [e1]
  refine T.tr.n9 (fun p hp=>.inl hp) (fun z a ha hm hs _=>⟨fun hk=>.inl hk,fun g hg hl=>.inr ?_⟩)
  rcases hl with hl|hl
  ·refine .inl ?_
   by_cases e:g=h
   ·subst e;rw [O_];rfl
   ·rw [P_ _ _ e];exact hl
  ·exact .inr hl
 ·by_cases e:i=h
  ·subst e
   rw [hi] at hy;obtain rfl:=some_inj hy
   rw [O_,O_]
   exact ⟨by omega,hg⟩
  ·rw [P_ _ _ e,P_ _ _ e];exact T.eD i y hy
 ·rw [P_ _ _ (by omega)];exact T.above i lE
 ·obtain rfl:=some_inj hx
  rw [O_];exact .inr (.inr rfl)
 ·rw [P_ _ _ (ru h0)] at e1 ⊢
  exact T.awake e1 e2
variable {Rs zM:(Nat->Prop)->(Nat->aX)->Nat->Prop} {wl:J'} {g gm:O'}
theorem ay.leaves (B:eh P C b o ae (Fs P C gm) h) (hL:Lay C wl) (hg:∀w,bI wl w->(C.on->Live b o w)->∃n,Goes P false (RB C b o h) (DR C h) (AtR0 P C b o h) n g w)
 {B₁:Nat} (hn:∀rel ρ n,Rs rel ρ n->n<=B₁) (eU:∀rel ρ n,Rs rel ρ n->∀j,j≠0->j≠h->(ρ j).leaving=true\/ρ j=.none) (hc:Can P C b o Post 0 (db B₁) wl gm):ay P C b o ae (Fs P C gm) Post h Rs wl g:=by
 intro rel ρ q gs w sl t T hr hz hR hi hw n U fI lW
 obtain ⟨s,hs⟩:=hz
 obtain ⟨n',iJ⟩:=hg w hw (fun b9=>(T.wg b9).live)
 have km:=T.leaves hr B.ne hi iJ
 refine join B.run B.back km (s:=s) (by rw [P_ _ _ (ru B.ne)];exact hs) (fun j hj=> ?_) fun iX rR dH a₁ w₁ ib mC lK qH xt uL lI CO hq=> ?_
 ·by_cases e:j=h
  ·subst e;rw [O_];exact .inl rfl
  ·rw [P_ _ _ e];exact eU _ _ _ hR j hj e
 obtain ⟨m,hg⟩:=lI
 have UR:sU iX:=fun j=>by
  by_cases e:j=0
  ·subst e;rw [qH];exact .inr (.inr rfl)
  ·rcases hq j e with ⟨d,h⟩|h
   ·exact .inr (.inl ⟨d,h⟩)
   ·exact .inl h
 refine hold B.run B.back (.inl rfl) (Walk.mono (fun _ _ _ x=>xS x) (Walk.vZ (sJ hg))) lK qH uL (Out.refl _ _) fun P2 SV X8 aBs aDa DU N7 X3 NU FV Kb Gf EF KM UO=> ?_
 obtain ⟨rfl,FZ⟩:=EF
 obtain ⟨rfl,hh⟩:=UO UR
 exact hc _ _ _ _ _ _ _ (NU.Jm (by rw [FV];simp) GH GH) FV ⟨⟨rfl,hh⟩,by rw [Kb,xt];exact hn _ _ _ hR⟩ Gf (hw.outside hL.cut (CO.trans FZ)) n U fI (hM fI hL.cut lW (CO.trans FZ))
variable {g':O'} {N:Nat}
theorem Can.leads (hS:Il Rs) (hL:Lay C wl) {child:O'}
 (hN:∀rel ρ n,Rs rel ρ n->n=N) (hrun:g.status=.running) (hsp:∀w,stepG P true g w=.spawn g' child w #[]) (b9:C.on)
 (Ut:∀w,Live b o w->∃n,Goes P true (RB C b o 0) (DW b o) (AtKd P C b o ae) n g' w)
 (DC:∀rel ρ n,Rs rel ρ n->zM rel (upd (upd ρ 0 (.wait .w0)) N (.self 1 0)) (N+1))
 (hc:ay P C b o ae Fin Post N zM wl child):Can P C b o Post 1 Rs wl g:=by
 intro rel ρ q gs w sl t T hr hR hi hw tC U fI lW
 refine turn (h:=0) rX oU (.inl rfl) T hr hi hrun fun jE iX rR dH w₁ ib mC km iT lq ig jo Gg jk=>.inl ?_
 have cv:=hw.outside hL.cut jk
 have ov:Rs jE iX dH.size:=by rw [lq];exact hS _ _ _ _ _ hR (fun j _=>jo j)
 have sF:=hN _ _ _ ov
 obtain ⟨n,hn⟩:=Ut w₁ (km.wg b9).live
 refine ⟨_,_,runT_crowd_spawn (sl:=ib) (i:=0) ig (hsp w₁), ?_⟩
 have lK:=(km.Jm (by rw [iT];simp) ae Fin).led (a':=g') (child:=child) iT ig hn g.frame.fn g.frame.place child.frame.fn
 have QT:=km.cX
 rw [sF] at lK
 have hlt:0<N:=by omega
 refine (congrArg (Ends P _ _) ?_).mp (hc _ _ _ _ _ ib _ lK (O_ _ _ _) ⟨.w0,by rw [P_ _ _ (by omega),O_]⟩ ?_ ?_ cv tC U fI (hM fI hL.cut lW jk))
 ·rw [sF];rfl
 ·have hsz:((dH.setIfInBounds 0 g').push child).size=N+1:=by simp [sF]
  rw [hsz]
  exact DC _ _ _ ov
 ·rw [Array.getElem?_push]
  simp [sF]
variable {bp:O'}
variable {j kk:Nat}
theorem ay.passes (B:eh P C b o ae Fin h) (hS:gh h Rs) (hL:Lay C wl) {pH p pn:Port} {home hn:O'->J'->Prop} (fH:gP P false pH g bp)
 (hj:∀rel ρ n,Rs rel ρ n->ρ j=.seat p home) (KI:j≠h) (hch:p.chan=pH.chan) (Ui:p.out≠pH.out)
 (TY:∀rel ρ n i p' pq,Rs rel ρ n->(∃s,ρ 0=.wait s)->i≠h->ρ i=.seat p' pq->p'.chan=pH.chan->p'.out≠pH.out->i=j)
 (gv:wl.heap[pH.chan]?=some (.chan 0 #[] false kk kk false))
 (hrh:∀w,bI (wl.setChan pH.chan 0 #[] false (kk+1) (kk+1) false) w->(C.on->Live b o w)->∃n,fx P C b o ae Fin h (.seat pn hn) n (Go.Conc.served bp (pH.gets p)) w)
 (kD:∃k',wl.heap[pn.chan]?=some (.chan 0 #[] false k' k' false))
 (Gp:∀rel ρ n,Rs rel ρ n->ρ h=.self 1 0->(∃s,ρ 0=.wait s)->∀x y p p' h₁ iN,upd (upd ρ j (.self 1 0)) h (.seat pn hn) x=.seat p h₁->upd (upd ρ j (.self 1 0)) h (.seat pn hn) y=.seat p' iN->p.chan=p'.chan->p.out=p'.out)
 (DC:∀rel ρ n,Rs rel ρ n->zM rel (upd (upd ρ j (.self 1 0)) h (.seat pn hn)) n)
 (hc:∀a₂ w,home a₂ w->bI wl w->ay P C b o ae Fin Post j zM (wl.setChan pH.chan 0 #[] false (kk+1) (kk+1) false) (Go.Conc.served a₂ (p.gets pH))):ay P C b o ae Fin Post h Rs wl g:=by
 intro rel ρ q gs w sl t T hr hz hR hi hw tC U fI lW
 have xH:=fH
 rw [<-B.mn] at xH
 refine meet (h:=h) B.run B.back (.inr Nat.one_pos) T hr hi (a₂:=bp) (pH:=pH) xH ⟨j,p,home,hj _ _ _ hR,hch,Ui⟩ ?_
 intro jE iX rR dH w₁ ib mC i Ys Nc a₂ FO pw lZ DY km iT lq jo jk qJ vB MX Re QH UT tZ M
 obtain rfl:=TY _ _ _ i Ys Nc hR hz qJ vB Re QH
 have uH:=(hj _ _ _ hR).symm.trans vB
 simp only [aX.seat.injEq] at uH
 obtain ⟨rfl,rfl⟩:=uH
 have cv:=hw.outside hL.cut jk
 have ER:=cv.chan gv
 rw [tZ] at ER
 simp only [Option.some.injEq,Obj.chan.injEq] at ER
 obtain ⟨_,_,_,rfl,_⟩:=ER
 obtain ⟨d,hwd⟩:=M.world
 have ov:Rs jE iX gs.size:=hS _ _ _ _ _ hR (fun j _=>jo j)
 have CH:=wB hz (jo 0)
 have Zr:i≠0:=fun e=>by
  obtain ⟨s,hs⟩:=hz
  rw [e,hs] at vB;cases vB
 have OA:bI (wl.setChan pH.chan 0 #[] false (FO+1) (FO+1) false) lZ:=by rw [hwd];exact cv.setChan _ _ _ _ _ _ _ _
 have UA:C.on->Live b o lZ:=fun b9=>by
  have:=(Ee (C:=C) (b:=b) (o:=o) (i:=h) hL.no tZ rfl 0 #[] false (FO+1) (FO+1) false d).live b9 ((km.wg b9).live)
  rw [hwd];exact this
 obtain ⟨n,bH⟩:=hrh lZ OA UA
 have xC:h<dH.size:=by rw [lq];exact (cI hi)
 have lK:=km.Fi (D:=C) (who':=some i) (ri:=.self 1 0) (rh:=.seat pn hn) (ni:=0) (nh:=n) iT rfl (.inl rfl) MX qJ xC tZ (fun g=>⟨(hL.no g _).2,(hL.no g _).1⟩) M trivial bH rfl rfl rfl rfl rfl rfl (fun s=>by simp) (fun s=>by simp) (fun p' h' hp=> ?_) (fun p' h'=>⟨by simp,by simp⟩)
  (Gp _ _ _ ov iT CH) (.inr ⟨rfl,rfl,.inr (.inl rfl)⟩)
 ·refine hc a₂ w₁ UT cv _ _ _ _ _ _ _ lK (by rw [P_ _ _ qJ,O_]) ?_ (DC _ _ _ ?_) M.two OA tC U ?_ ?_
  ·rw [P_ _ _ (ru B.ne),P_ _ _ (ru Zr)];exact CH
  ·rw [M.size,lq];exact ov
  ·exact fI.setChan (fI.wy gv) _ _ _ _ _ _
  ·rw [hwd];exact below_setChan (hM fI hL.cut lW jk) (fI.wy gv) _ _ _ _ _ _ _
 ·rcases hp with hp|hp
  ·cases hp
  ·cases hp
   obtain ⟨k',fS⟩:=kD
   exact ⟨k',cv.chan fS⟩
end
end Go.aC
