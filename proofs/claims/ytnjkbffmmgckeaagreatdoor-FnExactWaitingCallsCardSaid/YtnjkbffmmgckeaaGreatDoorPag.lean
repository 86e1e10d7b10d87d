/-
  T4: the holder closes a channel; T5: its words to the WaitGroup (deafness, the add, 'take it that I 
-/
import Derived.Conc.Token
import Derived.Conc.WgGenN
import Derived.Conc.CrowdMono
import Derived.Conc.WgGenWait
import Derived.Test.YtnjkbffmmgckeaaGreatDoorPaa
import Derived.Test.YtnjkbffmmgckeaaGreatDoorPaf
set_option linter.all false
set_option maxRecDepth 100000
set_option maxHeartbeats 32000000
open Go renaming World->J',Goroutine->O',Program->U',execOp->V',Frame->Y',FuncId->w_,Item->x_,Oper->y_
open Array renaming getElem?_setIfInBounds_ne->I_,mem_of_getElem?->l_
open Go.Region renaming wanted->U_
namespace Go.aC
section
open Go Go.Conc
open Go.ConcN (sumTo upd sumTo_upd upd_ne upd_same sumTo_congr le_sumTo)
section
variable {P:U'} {C:cS} {b o:Nat} {ae Fin:O'->J'->Prop} {who who':Option Nat} {rel bZ:Nat->Prop} {ρ:Nat->aX} {q:Nat->Nat} {gs gs':Array O'} {w w':J'} {t t' u:Trace} {sl:Option (Nat × Nat)}
variable {Post:Value->J'->Prop} {h k d:Nat} {a:O'}
variable {a':O'} {es:Array Event}
theorem aC.word (T:aC P C b o ae Fin (some 0) rel ρ q gs w t) (b9:C.on) (hA:∀g w,ae g w->g.status=.running) (hr:ρ 0=.self k d) (hi:gs[0]?=some a) {d':Nat} (hd:deafBehind d es=d')
 (hes:∀e∈es,e=mh .disable\/e=mh .enable\/e=mh (.read ⟨b,o+1,none⟩)):
 ∃q',aC P C b o ae Fin (some 0) rel (upd ρ 0 (.self k d')) q' ((gs.map (woken P a a' w)).setIfInBounds 0 a') w (t++MemOp.ofEvents 0 a.frame.fn a.frame.place es)/\∀j,j≠0->ρ j≠.wait .w3->q' j=q j:=by
 have hlt:=T.cX
 obtain ⟨q',T',_,h2⟩:=T.step hA (a:=a) (a':=a') (g':=a') (r':=.self k d') (n':=0) (who':=some 0) (bZ:=rel) (u:=MemOp.ofEvents 0 a.frame.fn a.frame.place es) hi (fun j _=>RB.refl j w) (Nat.le_refl _) (fun r ob h _ _=>h) (T.mO 0) (fun p h' e=>by cases e) (fun p h' e=>by cases e)
  (fun j k' d'' e=>by
   by_cases e1:j=0
   ·subst e1;rfl
   ·rw [upd_ne _ _ e1] at e;exact T.one j _ _ e) (fun x hx=>.inl (some_inj hx).symm) trivial
  (by
   refine T.jS (H:=True) _ _ (by rw [hr];rfl) (by rw [hr];exact hd) (fun j e he=> ?_) (fun _=>rfl)
   rcases hes e (l_ he) with rfl|rfl|rfl
   ·exact ⟨.mute rfl,by simp [mh]⟩
   ·exact ⟨.mute rfl,by simp [mh]⟩
   ·exact ⟨.book (b:=⟨.cell ⟨b,o+1,none⟩,false,.said⟩) rfl hlt (T.fX (by rw [hr];simp)) ((T.yk _).2 ⟨b9,.inr rfl⟩) (.inr ⟨rfl,rfl⟩),by simp [mh]⟩)
  (fun c=>(T.wg c).dG hlt (.inr fun s=>⟨by rw [hr];simp,by simp⟩) (by rw [hr];rfl) (by rw [hr];rfl) (.inr rfl)) (fun c=>absurd b9 c) (fun hd=>absurd hd (T.fX (by rw [hr];simp))) (by rw [js hlt (by rw [hr];rfl)];exact T.few) (fun h=>absurd rfl h) (fun _ e=>by cases e)
 exact ⟨q',T',h2⟩
theorem aC.DV (T:aC P C b o ae Fin who rel ρ q gs w t) (b9:C.on) (hr:ρ 0=.self k d):(∀j,(ρ j).isLast=false)/\cx b o w (cnt ρ gs.size * KK) 0:=by
 have:=T.wg b9
 unfold dy at this
 rw [hr] at this
 exact this
theorem aC.added (T:aC P C b o ae Fin (some 0) rel ρ q gs w t) (b9:C.on) (hA:∀g w,ae g w->g.status=.running) (hr:ρ 0=.self k d) (hi:gs[0]?=some a) (a':O') (hf:cnt ρ gs.size+1<2147483647):
 ∃q',aC P C b o ae Fin (some 0) rel (upd ρ 0 (.self (k+1) d)) q' ((gs.map (woken P a a' (w.setCell ⟨b,o,none⟩ (.int .u64 ((cnt ρ gs.size+1:Nat) * KK))))).setIfInBounds 0 a') (w.setCell ⟨b,o,none⟩ (.int .u64 ((cnt ρ gs.size+1:Nat) * KK))) (t++MemOp.ofEvents 0 a.frame.fn a.frame.place #[mF ⟨b,o,none⟩,vT ⟨b,o,none⟩])/\
  (∀j,j≠0->ρ j≠.wait .w3->q' j=q j)/\Out (bS C) w (w.setCell ⟨b,o,none⟩ (.int .u64 ((cnt ρ gs.size+1:Nat) * KK))):=by
 have hlt:=T.cX
 obtain ⟨hl,hw⟩:=T.DV b9 hr
 have gC:=hw.setSt ((cnt ρ gs.size+1:Nat) * KK)
 have jW:cnt (upd ρ 0 (.self (k+1) d)) gs.size=cnt ρ gs.size+1:=by
  have:=kL (ρ:=ρ) (.self (k+1) d) hlt
  rw [hr] at this
  simp only [aX.count] at this
  omega
 have Kp:∀r ob,w.heap[r]?=some ob->aR ob=false->(w.setCell ⟨b,o,none⟩ (.int .u64 ((cnt ρ gs.size+1:Nat) * KK))).heap[r]?=some ob:=fun r ob h1 h2=>mU h1 h2
 obtain ⟨q',T',_,h2⟩:=T.step hA (a:=a) (a':=a') (g':=a') (r':=.self (k+1) d) (n':=0) (who':=some 0) (bZ:=rel) (u:=MemOp.ofEvents 0 a.frame.fn a.frame.place #[mF ⟨b,o,none⟩,vT ⟨b,o,none⟩]) hi (fun j _=>T.tq b9 (.inl rfl) ⟨_,_,gC⟩ j) (by simp [World.setCell]) (fun r ob h1 h2 _=>Kp r ob h1 h2)
  (fun r hr=>by obtain ⟨ob,h1,h2⟩:=T.mO 0 r hr;exact ⟨ob,Kp r ob h1 h2,h2⟩) (fun p h' e=>by cases e) (fun p h' e=>by cases e)
  (fun j k' d'' e=>by
   by_cases e1:j=0
   ·subst e1;rfl
   ·rw [upd_ne _ _ e1] at e;exact T.one j _ _ e) (fun x hx=>.inl (some_inj hx).symm) trivial
  (by
   refine T.jS (H:=True) _ _ (by rw [hr];rfl) (by rw [hr];simp [deafBehind,aX.dd,mF,vT]) (fun j e he=> ?_) (fun _=>rfl)
   match j,he with
   |0,he=>
    obtain rfl:mF ⟨b,o,none⟩=e:=by simpa using he
    exact ⟨ji T b9 (T.fX (by rw [hr];simp)) hi (.inl rfl) false (.inl rfl) _ _ _,by simp [mF]⟩
   |1,he=>
    obtain rfl:vT ⟨b,o,none⟩=e:=by simpa using he
    exact ⟨ji T b9 (T.fX (by rw [hr];simp)) hi (.inl rfl) true (.inl rfl) _ _ _,by simp [vT]⟩
   |j+2,he=>simp at he)
  (by
   intro _
   unfold dy
   rw [upd_same]
   exact ⟨rW hl rfl,by rw [jW];exact gC⟩) (fun c=>absurd b9 c) (fun hd=>absurd hd (T.fX (by rw [hr];simp))) (by rw [jW];exact hf) (fun h=>absurd rfl h) (fun _ e=>by cases e)
 exact ⟨q',T',h2,(gH w b o _).mono (zc T b9 (.inl rfl))⟩
def bD (c:Nat):aX->aX
 | .seat p home=>if p.chan=c then .shut p home else .seat p home
 |r=>r
theorem vM {c:Nat} {r:aX} (h:∀p home,r=.seat p home->p.chan≠c):bD c r=r:=by
 cases r with
 |seat p home=>simp [bD,h p home rfl]
 |_=>rfl
theorem eG (c:Nat) (p:Port) (home:O'->J'->Prop):(bD c (.seat p home)=.shut p home/\p.chan=c)\/(bD c (.seat p home)=.seat p home/\p.chan≠c):=by
 by_cases h:p.chan=c
 ·exact .inl ⟨by simp [bD,h],h⟩
 ·exact .inr ⟨by simp [bD,h],h⟩
theorem iK (c:Nat) (r:aX):(bD c r).count=r.count/\(bD c r).dd=r.dd/\(bD c r).loose=r.loose/\(bD c r).isLast=r.isLast/\(bD c r).isSelf=r.isSelf:=by
 cases r with
 |seat p home=>rcases eG c p home with ⟨h,_⟩|⟨h,_⟩<;>rw [h]<;>exact ⟨rfl,rfl,rfl,rfl,rfl⟩
 |_=>exact ⟨rfl,rfl,rfl,rfl,rfl⟩
theorem aC.closed (T:aC P C b o ae Fin (some h) rel ρ q gs w t) (b9:C.on) (hA:∀g w,ae g w->g.status=.running) (hr:ρ h=.self k d) (hi:gs[h]?=some a) {c kk:Nat} (gv:w.heap[c]?=some (.chan 0 #[] false kk kk false)) (hno:∀g,¬C.St g (.obj c)/\¬C.Pv g (.obj c))
 (QP:mayWake P a=true) (xw:a'.status=.running)
 (KD:∀j p home,ρ j=.seat p home->p.chan=c->0<j/\∃z ok,p=.recv c z ok/\∀bp w,home bp w->∃m,Goes P false (RB C b o j) (DR C j) (AtR0 P C b o j) m (Go.Conc.served bp (recvd ok z false)) w):
 ∃q',aC P C b o ae Fin (some h) rel (fun j=>bD c (ρ j)) q' ((gs.map (woken P a a' (w.setChan c 0 #[] true kk kk false))).setIfInBounds h a') (w.setChan c 0 #[] true kk kk false) (t++MemOp.ofEvents h a.frame.fn a.frame.place (closeEvents c)):=by
 have hlt:h<gs.size:=(cI hi)
 generalize gC:w.setChan c 0 #[] true kk kk false=w'
 have fH:w.at w.drawn=w:=rfl
 have Vu:∀j,RB C b o j w w':=fun j=>by have:=(vW (b:=b) (o:=o) gv rfl hno w.drawn 0 #[] true kk kk false j).1;rw [fH,gC] at this;exact this
 have HO:∀s m,cx b o w s m->cx b o w' s m:=by have:=(vW (b:=b) (o:=o) gv rfl hno w.drawn 0 #[] true kk kk false 0).2;rw [fH,gC] at this;exact this
 have ot:∀s m,cx b o w' s m->cx b o w s m:=fun s m h=>by
  obtain ⟨S9,TI,h₀⟩:=(T.wg b9).live
  obtain ⟨rfl,rfl⟩:=(HO _ _ h₀).uniq h
  exact h₀
 have uM:∀x,w'.heap[x]?=if x=c then some (.chan 0 #[] true kk kk false) else w.heap[x]?:=fun x=>by rw [<-gC];exact heap_setChan gv _ _ _ _ _ _ x
 have vC:∀y:O',woken P a a' w' y=y.again w':=fun y=>by simp [woken,QP,xw]
 have jW:cnt (fun j=>bD c (ρ j)) gs.size=cnt ρ gs.size:=sumTo_congr fun j _=>(iK c (ρ j)).1
 have CJ:∀s,bD c (ρ 0)=.wait s↔ρ 0=.wait s:=fun s=>by
  cases hx:ρ 0 with
  |seat p home=>rcases eG c p home with ⟨h,_⟩|⟨h,_⟩<;>rw [h]<;>simp
  |_=>exact Iff.rfl
 have EK:∀j r,r.isLast=true->(bD c (ρ j)=r↔ρ j=r):=fun j r hl=>by
  cases hx:ρ j with
  |seat p home=>
   constructor
   ·intro e;rcases eG c p home with ⟨h,_⟩|⟨h,_⟩<;>rw [h] at e<;>subst e<;>cases hl
   ·intro e;subst e;cases hl
  |_=>exact Iff.rfl
 have hu:t++MemOp.ofEvents h a.frame.fn a.frame.place (closeEvents c)=(t++MemOp.ofEvents h a.frame.fn a.frame.place #[(⟨.obj c,false,true⟩:Event)])++#[{g:=h,fn:=a.frame.fn,pos:=a.frame.place,act:=.close c}]:=by
  rw [closeOps,ofEvents_one,Array.append_assoc];rfl
 have rq:c<w.heap.size:=(cI gv)
 have Qy:=T.jS (i:=h) (r':=.self k d) (es:=#[(⟨.obj c,false,true⟩:Event)]) (H:=True) a.frame.fn a.frame.place (by rw [hr]) (by rw [hr];rfl) (fun j e he=>by
  obtain rfl:e=⟨.obj c,false,true⟩:=by simpa using l_ he
  exact AA T (e:=⟨.obj c,false,true⟩) (top:=w.heap.size) ⟨rq,fun _=>rfl⟩ (fun r sX g=>by injection sX with sX;subst sX;exact ⟨(hno g).2,fun hs=>absurd hs (hno g).1⟩) _ _ _) (fun _=>rfl)
 rw [zU hr] at Qy
 have hq1:∀j,∀op∈(#[{g:=h,fn:=a.frame.fn,pos:=a.frame.place,act:=.close c}]:Array MemOp),∀d,deafStep j d op=d:=by
  intro j op hop d
  simp only [List.mem_toArray,List.mem_cons,List.not_mem_nil,or_false] at hop
  subst hop;rfl
 have my:dy b o (fun j=>bD c (ρ j)) gs.size w':=by
  have hw:=T.wg b9
  unfold dy at hw ⊢
  have hl:∀j,(bD c (ρ j)).isLast=(ρ j).isLast:=fun j=>(iK c (ρ j)).2.2.2.1
  simp only [jW,hl]
  by_cases M1:∃s,ρ 0=.wait s
  ·obtain ⟨s,hs⟩:=M1
   rw [(CJ s).2 hs]
   rw [hs] at hw
   cases s with
   |w3=>
    simp only at hw ⊢
    rcases hw with ⟨h0,⟨h1,h⟩|⟨h1,h⟩⟩|⟨h0,i,h1,⟨h2,h⟩|⟨h2,h⟩⟩
    ·exact .inl ⟨h0,.inl ⟨h1,HO _ _ h⟩⟩
    ·exact .inl ⟨h0,.inr ⟨h1,HO _ _ h⟩⟩
    ·exact .inr ⟨h0,i,h1,.inl ⟨h2.imp (EK i .ky rfl).2 (EK i .kx rfl).2,HO _ _ h⟩⟩
    ·exact .inr ⟨h0,i,h1,.inr ⟨(EK i .ku rfl).2 h2,HO _ _ h⟩⟩
   |w4=>exact ⟨hw.1,hw.2.1,HO _ _ hw.2.2⟩
   |w5=>exact ⟨hw.1,hw.2.1,HO _ _ hw.2.2⟩
   |w6=>exact ⟨hw.1,hw.2.1,HO _ _ hw.2.2⟩
   |_=>exact ⟨hw.1,HO _ _ hw.2⟩
  ·have EE:(∀j,(ρ j).isLast=false)/\cx b o w (cnt ρ gs.size * KK) 0:=by
    cases hz:ρ 0 with
    |wait s=>exact absurd ⟨s,hz⟩ M1
    |_=>rw [hz] at hw;exact hw
   cases hz:bD c (ρ 0) with
   |wait s=>exact absurd ⟨s,(CJ s).1 hz⟩ M1
   |_=>exact ⟨EE.1,HO _ _ EE.2⟩
 have hsz:((gs.map (woken P a a' w')).setIfInBounds h a').size=gs.size:=by simp
 have EH:∀j p home,bD c (ρ j)=.seat p home->ρ j=.seat p home/\p.chan≠c:=fun j p home e=>by
  cases hx:ρ j with
  |seat p' pq=>
   rw [hx] at e
   rcases eG c p' pq with ⟨h,_⟩|⟨h,hn⟩
   ·rw [h] at e;cases e
   ·rw [h] at e;injection e with e1 e2;subst e1 e2;exact ⟨rfl,hn⟩
  |_=>rw [hx] at e;cases e
 have QD:∀j p home,bD c (ρ j)=.shut p home->ρ j=.shut p home\/(ρ j=.seat p home/\p.chan=c):=fun j p home e=>by
  cases hx:ρ j with
  |seat p' pq=>
   rw [hx] at e
   rcases eG c p' pq with ⟨h,hc⟩|⟨h,_⟩
   ·rw [h] at e;injection e with e1 e2;subst e1 e2;exact .inr ⟨rfl,hc⟩
   ·rw [h] at e;cases e
  |shut p' pq=>rw [hx] at e;exact .inl e
  |_=>rw [hx] at e;cases e
 have QE:∀j k' d',bD c (ρ j)=.self k' d'->ρ j=.self k' d':=fun j k' d' e=>by
  cases hx:ρ j with
  |seat p' pq=>rw [hx] at e;rcases eG c p' pq with ⟨h,_⟩|⟨h,_⟩<;>rw [h] at e<;>cases e
  |_=>rw [hx] at e;exact e
 refine ⟨fun j=>match ρ j with
  | .seat p _=>if p.chan=c then q j - 1 else q j
  | .wait .w3=>if q j=0 then 1 else q j
  |_=>q j,T.ok,T.ad,T.yk,fun l hl=> ?_,fun g hg=> ?_,by rw [hsz];exact T.old,T.plain,fun g x k' hx=> ?_,fun g r hx=> ?_, ?_,fun j y hy=> ?_,fun j hj=> ?_,fun j p home e=> ?_,fun j l p p' h₁ iN e1 e2 hch=> ?_,fun j p home e=> ?_,fun j k' d' e=>T.one j _ _ (QE j k' d' e),fun x hx=> ?_,by rw [hsz,jW];exact T.few,by rw [hsz];exact fun _=>my,fun c=>absurd b9 c,by rw [hsz];exact T.cX,fun h1 h2=> ?_⟩
 ·have:w'.heap.size=w.heap.size:=by rw [<-gC];simp [World.setChan]
  rw [this];exact T.IB l hl
 ·obtain ⟨d,e⟩:=T.Ls g hg
  exact ⟨d,by rw [e];rfl⟩
 ·have:w'.heap.size=w.heap.size:=by rw [<-gC];simp [World.setChan]
  rw [this];exact T.CG g x k' hx
 ·obtain ⟨ob,h1,h2⟩:=T.mO g r hx
  exact ⟨ob,((Vu g).gz r hx).trans h1,h2⟩
 ·rw [hsz]
  have e1:(fun j=>(bD c (ρ j)).loose=true)=fun j=>(ρ j).loose=true:=by funext j;rw [(iK c (ρ j)).2.2.1]
  have e2:(fun j=>(bD c (ρ j)).dd)=fun j=>(ρ j).dd:=by funext j;rw [(iK c (ρ j)).2.1]
  rw [e1,e2,hu]
  refine Qy.mute (fun op hop=> ?_) (fun i hi=>Acc.app (fun _ h=>h) hi) (fun j=>(Deaf_quiet (hq1 j)).trans (Qy.deaf j)) (fun op hop=> ?_)
  ·simp only [List.mem_toArray,List.mem_cons,List.not_mem_nil,or_false] at hop
   subst hop;rfl
  ·simp only [List.mem_toArray,List.mem_cons,List.not_mem_nil,or_false] at hop
   intro x;subst hop;simp
 ·by_cases e:j=h
  ·subst e
   rw [hr]
   trivial
  ·rw [I_ (Ne.symm e),Array.getElem?_map] at hy
   obtain ⟨BP,CI,rfl⟩:=Option.map_eq_some_iff.1 hy
   rw [vC]
   have aM:=T.eD j BP CI
   have oj:=aM.rely (Vu j)
   have lu:(ρ j).isSelf=false:=by
    cases hs:(ρ j).isSelf with
    |false=>rfl
    |true=>exact absurd (eY T hs) e
   cases hx:ρ j with
   |seat p home=>
    rw [hx] at oj
    rcases eG c p home with ⟨Vd,L6⟩|⟨Vd,L6⟩
    ·obtain ⟨Nn,z,ok,rfl,Q9⟩:=KD j p home hx L6
     rw [Vd]
     simp only [if_pos L6]
     refine ⟨Nn,oj.1,⟨_,z,ok,rfl,Q9⟩, ?_⟩
     have hb:=dh Nn
     rcases oj.2 with ⟨k',fS,hg⟩|⟨Y1,dN,bp,rfl,xH,hh⟩
     ·rw [hb] at hg
      rw [again_running _ (.inl (hg.running (fun _ _ x=>x.choose_spec.1.1) w' (RB.refl j w'))),fS]
      exact hg
     ·rw [hb] at xH
      have rq:w'.heap[c]?=some (.chan 0 #[] true kk kk false):=by rw [uM,if_pos rfl]
      have:(parked bp (Port.recv c z ok).cases (Port.recv c z ok).shape).again w'={parked bp (Port.recv c z ok).cases (Port.recv c z ok).shape with status:=.running}:=again_recv_closed rq
      rw [this]
      exact Goes.stop fun w₁ h₁=>⟨bp,⟨rfl,rfl,rfl,rfl,fun lZ=>by rw [<-xH.2.2.2.2 lZ];exact stepG_same xH.2.1.symm xH.2.2.1.symm xH.2.2.2.1.symm lZ⟩,oj.1 _ _ _ h₁ hh⟩
    ·rw [Vd]
     simp only [if_neg L6]
     have Ko:∃k',w'.heap[p.chan]?=some (.chan 0 #[] false k' k' false):=by
      obtain ⟨k',fS⟩:=T.chans j p home hx
      exact ⟨k',by rw [uM,if_neg L6];exact fS⟩
     have:BP.again w'=BP:=by
      rcases oj.2 with ⟨k',fS,hg⟩|⟨Y1,dN,bp,rfl,xH,hh⟩
      ·exact again_running _ (.inl (hg.running (fun _ _ x=>x.choose_spec.1.1) w' (RB.refl j w')))
      ·exact wQ Ko.choose_spec
     rw [this];exact oj
   |wait s=>
    rw [hx] at oj
    have KE:bD c (.wait s)=.wait s:=rfl
    rw [KE]
    obtain ⟨rfl,hW⟩:=oj
    cases s with
    |w3=>
     rcases hW with ⟨k',fS,hg⟩|⟨Y1,dN,h1,rfl,h2⟩
     ·rw [again_running _ (.inl (hg.running (fun _ _ x=>x.1) w' (RB.refl 0 w')))]
      simp only [if_neg (show ¬q 0=0 by omega)]
      exact ⟨rfl,.inl ⟨k',fS,hg⟩⟩
     ·have AX:=h1.2.1
      have e0:({dN with status:=.blocked}:O').again w'=dN:=by
       have h3:=h1.1
       cases dN;simp_all [Goroutine.again]
      rw [e0]
      simp only [Y1,if_true]
      exact ⟨rfl,.inl ⟨0,rfl,Goes.stop fun w₁ h₁=>h2 w₁ h₁⟩⟩
    |w2 v=>rw [again_running _ (.inl (Goes.running (fun _ _ x=>x.1) w' (RB.refl 0 w') hW.2))];exact ⟨rfl,hW⟩
    |IQ=>rw [again_running _ (.inl (Goes.running hA w' (RB.refl 0 w') hW))];exact ⟨rfl,hW⟩
    |w0=>rw [again_running _ (.inl (Goes.running (fun _ _ x=>x.1) w' (RB.refl 0 w') hW))];exact ⟨rfl,hW⟩
    |w1=>rw [again_running _ (.inl (Goes.running (fun _ _ x=>x.1) w' (RB.refl 0 w') hW))];exact ⟨rfl,hW⟩
    |w4=>rw [again_running _ (.inl (Goes.running (fun _ _ x=>x.1) w' (RB.refl 0 w') hW))];exact ⟨rfl,hW⟩
    |w5=>rw [again_running _ (.inl (Goes.running (fun _ _ x=>x.1) w' (RB.refl 0 w') hW))];exact ⟨rfl,hW⟩
    |w6=>rw [again_running _ (.inl (Goes.running (fun _ _ x=>x.1) w' (RB.refl 0 w') hW))];exact ⟨rfl,hW⟩
   |self k' d'=>rw [hx] at lu;cases lu
   |_=>
    all_goals
     rw [hx] at oj
     rcases oj.status hA (by rfl) with hs|hs|⟨_,_,⟨p,home,hs⟩|hs⟩
     ·rw [again_running _ (.inl hs)];exact oj
     ·rw [again_running _ (.inr hs)];exact oj
     ·cases hs
     ·cases hs
 ·rw [hsz] at hj
  rw [T.above j hj];rfl
 ·obtain ⟨e1,e2⟩:=EH j p home e
  obtain ⟨k',fS⟩:=T.chans j p home e1
  exact ⟨k',by rw [uM,if_neg e2];exact fS⟩
 ·exact T.apart j l p p' h₁ iN (EH j p h₁ e1).1 (EH l p' iN e2).1 hch
 ·rcases QD j p home e with e1|⟨_,e2⟩
  ·obtain ⟨k',fS⟩:=T.shuts j p home e1
   exact ⟨k',by rw [uM,if_neg (fun ec=>by rw [ec,gv] at fS;cases fS)];exact fS⟩
  ·exact ⟨kk,by rw [uM,if_pos e2]⟩
 ·obtain rfl:=some_inj hx
  exact .inr (.inl (by rw [hr];rfl))
 ·have HQ:=(CJ .w3).1 h1
  have:=T.awake HQ (ot _ _ h2)
  simp only [HQ]
  split<;>omega
end
def cS.empty (ad:Addr):cS:={St:=fun _ _=>False,Pv:=fun _ _=>False,Sh:=fun _=>False,Gr:=fun _=>False,Dd:=fun _=>False,on:=False,ad:=ad}
def BN (j:Nat):aX:=if j=0 then .self 0 0 else .none
variable {j:Nat}
theorem fK (h:j≠0):BN j=.none:=if_neg h
theorem M6:sU BN:=fun j=>by
 by_cases e:j=0
 ·subst e;exact .inr (.inr rfl)
 ·exact .inl (fK e)
section
variable {P:U'} {C:cS} {b o:Nat} {ae Fin:O'->J'->Prop} {who who':Option Nat} {rel bZ:Nat->Prop} {ρ:Nat->aX} {q:Nat->Nat} {gs gs':Array O'} {w w':J'} {t t' u:Trace} {sl:Option (Nat × Nat)}
variable {Post:Value->J'->Prop} {h k d:Nat} {a:O'}
theorem IY {dU rel:Nat->Prop} {n:Nat} {K:Nat->Prop} (hr:∀p,¬rel p):Tr C dU rel n (fun _=>0) K #[]:=by
 have no:∀{i:Nat} {a:Touch},touchAt (#[]:Trace) i=some a->False:=fun h=>by
  obtain ⟨x,hx,_⟩:=touch_of h
  simp at hx
 refine ⟨fun said=> ?_,fun i a h=>(no h).elim,fun i a h=>(no h).elim,fun i a h=>(no h).elim,fun i a g h=>(no h).elim,fun i a g h=>(no h).elim,fun g=>rfl,fun p hp=>absurd hp (hr p),fun op hop=>by simp at hop⟩
 rintro ⟨i,j,_,⟨a,b,h,_⟩,_⟩
 simp [Trace.act?] at h
theorem aC.start (P:U') (b o:Nat) (ae Fin:O'->J'->Prop) (a:O') (w:J'):aC P (cS.empty ⟨b,o,none⟩) b o ae Fin (some 0) (fun _=>False) BN (fun _=>0) #[a] w #[]:=by
 have dd0:(fun j=>(BN j).dd)=fun _=>0:=by
  funext j
  by_cases e:j=0
  ·subst e;rfl
  ·rw [fK e];rfl
 refine ⟨⟨fun _ _ _ h=>h.elim,fun _ _ h=>h.elim,fun _ h=>h.elim⟩,rfl,fun l=>⟨fun h=>h.elim,fun h=>h.1.elim⟩,fun _ h=>h.elim,fun _ h=>h.elim,fun _ _ h=>h.elim False.elim False.elim,fun _ _ h=>h.elim False.elim False.elim,fun _ _ _ h=>h.elim False.elim False.elim,fun _ _ h=>h.elim False.elim False.elim, ?_,fun i g hg=> ?_,fun i hi=> ?_,fun i p home e=> ?_,fun i j p p' h h' e e'=> ?_,fun i p home e=> ?_,fun i k d e=> ?_,fun x hx=>.inl (some_inj hx).symm, ?_,fun h=>h.elim,fun _ j=> ?_,by simp,fun e=> ?_⟩
 ·rw [dd0];exact IY fun _ h=>h
 ·have:i=0:=by
   have:=(cI hg)
   simp at this;exact this
  subst this;trivial
 ·simp at hi;exact fK (by omega)
 ·by_cases e':i=0
  ·subst e';cases e
  ·rw [fK e'] at e;cases e
 ·by_cases O3:i=0
  ·subst O3;cases e
  ·rw [fK O3] at e;cases e
 ·by_cases e':i=0
  ·subst e';cases e
  ·rw [fK e'] at e;cases e
 ·by_cases e':i=0
  ·subst e';rfl
  ·rw [fK e'] at e;cases e
 ·simp [cnt,sumTo,BN,aX.count]
 ·by_cases e:j=0
  ·subst e;exact rfl
  ·rw [fK e];trivial
 ·cases e
theorem aC.anew (T:aC P C b o ae Fin (some 0) (fun _=>False) ρ q gs w t) (hr:ρ 0=.self 0 0) (hc:sU ρ) (on:Prop) (b' o':Nat) (LR Sg:O'->J'->Prop)
 (hw:on->cx b' o' w 0 0/\∀k,k=o'\/k=o'+1->¬C.Sh (.cell ⟨b',k,none⟩)/\¬C.Gr (.cell ⟨b',k,none⟩)):
 aC P (C.anew gs.size (fun l=>on/\(l=.cell ⟨b',o',none⟩\/l=.cell ⟨b',o'+1,none⟩)) on ⟨b',o',none⟩) b' o' LR Sg (some 0) (fun _=>False) ρ q gs w t:=by
 have su:∀j,(ρ j).isSelf=true->j=0:=fun j hj=>eY T hj
 have sx:∀j,j≠0->ρ j=.none\/∃d,ρ j=.quit d:=fun j hj=>by
  rcases hc j with h|h|h
  ·exact .inl h
  ·exact .inr h
  ·exact absurd (su j h) hj
 have FX:∀j,0<j->j<gs.size->∃d,ρ j=.quit d:=fun j h0 hj=>by
  rcases sx j (by omega) with h|h
  ·have:=T.eD j _ (Array.getElem?_eq_getElem hj)
   rw [h] at this;exact this.elim
  ·exact h
 have rp:∀g,¬(ρ g).loose=true:=fun g hg=>by
  by_cases e:g=0
  ·subst e;rw [hr] at hg;cases hg
  ·rcases sx g e with h|⟨d,h⟩<;>rw [h] at hg<;>cases hg
 have hlf:(fun i=>(ρ i).loose=true)=fun _=>False:=by
  funext i;exact propext ⟨rp i,False.elim⟩
 have hSh:∀l,on/\(l=Loc.cell ⟨b',o',none⟩\/l=.cell ⟨b',o'+1,none⟩)->¬C.Sh l/\¬C.Gr l:=by
  rintro l ⟨h,rfl|rfl⟩
  ·exact (hw h).2 _ (.inl rfl)
  ·exact (hw h).2 _ (.inr rfl)
 have QM:¬C.Dd 0:=T.fX (by rw [hr];simp)
 have AV:=T.tr.anew (S:=fun l=>on/\(l=Loc.cell ⟨b',o',none⟩\/l=.cell ⟨b',o'+1,none⟩)) (on:=on) (ad:=⟨b',o',none⟩) T.cX QM rp (fun _ h=>h) (fun l hl=>⟨by rcases hl.2 with rfl|rfl<;>rfl,hSh l hl⟩)
 have WI:∀n,cnt ρ n=0:=fun n=>by
  induction n with
  |zero=>rfl
  |succ n ih=>
   show cnt ρ n+_=0
   rw [ih];show 0+(ρ n).count=0
   by_cases e:n=0
   ·subst e;rw [hr];rfl
   ·rcases sx n e with h|⟨d,h⟩<;>rw [h]<;>rfl
 have hno:∀j r,(r.isSelf=false)->(∀d,r≠.quit d)->r≠.none->ρ j≠r:=fun j r h1 h2 h3 e=>by
  by_cases ej:j=0
  ·subst ej;rw [hr] at e;subst e;cases h1
  ·rcases sx j ej with h|⟨d,h⟩
   ·exact h3 (e.symm.trans h)
   ·exact h2 d (e.symm.trans h)
 refine ⟨⟨fun _ _ _ h=>h.elim,fun _ _ _=>⟨id,id⟩,fun l hl=>⟨fun h=> ?_,fun _=>⟨id,id⟩⟩⟩,rfl,fun l=>Iff.rfl,fun l hl=> ?_,fun g hg=>FX g hg.1 hg.2,fun _ _ h=>h.elim False.elim False.elim,fun _ _ h=>h.elim False.elim False.elim,fun _ _ _ h=>h.elim False.elim False.elim,fun _ _ h=>h.elim False.elim False.elim, ?_,fun i g hg=> ?_,T.above,fun i p home e=>absurd e (hno i _ rfl (fun d e=>by cases e) (fun e=>by cases e)),fun i j p p' h h' e=>absurd e (hno i _ rfl (fun d e=>by cases e) (fun e=>by cases e)),fun i p home e=>absurd e (hno i _ rfl (fun d e=>by cases e) (fun e=>by cases e)),T.one,T.holder,T.few,fun b9=> ?_,fun _ j=> ?_,T.cX,fun e=>absurd e (hno 0 _ rfl (fun d e=>by cases e) (fun e=>by cases e))⟩
 ·have:=hSh l h
  rcases hl with hl|hl
  ·exact this.2 hl
  ·exact this.1 hl
 ·rcases hl with hl|hl
  ·exact T.IB l hl
  ·obtain ⟨b9,h⟩:=(T.yk l).1 hl
   have my:=(T.wg b9).live
   obtain ⟨s,m,my⟩:=my
   have hb:=lC my.st
   rcases h with rfl|rfl
   ·exact ⟨b,o,rfl,hb⟩
   ·exact ⟨b,o+1,rfl,hb⟩
 ·rw [hlf];exact AV
 ·have aM:=T.eD i g hg
  by_cases e:i=0
  ·subst e;rw [hr];trivial
  ·rcases sx i e with h|⟨d,h⟩
   ·rw [h] at aM;exact aM.elim
   ·rw [h] at aM ⊢;exact aM
 ·unfold dy
  rw [hr]
  refine ⟨fun j=> ?_,by rw [WI];simpa using (hw b9).1⟩
  by_cases e:j=0
  ·subst e;rw [hr];rfl
  ·rcases sx j e with h|⟨d,h⟩<;>rw [h]<;>rfl
 ·by_cases e:j=0
  ·subst e;rw [hr];exact rfl
  ·rcases sx j e with h|⟨d,h⟩<;>rw [h]<;>trivial
theorem cS.Kw (C:cS) (n:Nat):C.hire n (fun _=>False) (fun _=>False)=C:=by
 obtain ⟨St,Pv,Sh,Gr,Dd,on,ad⟩:=C
 simp only [cS.hire,and_false,or_false]
variable {a':O'}
theorem aC.led {n:Nat} {child:O'} (T:aC P C b o ae Fin (some 0) rel ρ q gs w t) (hr:ρ 0=.self 1 0) (hi:gs[0]?=some a) (CJ:Goes P true (RB C b o 0) (DW b o) (AtKd P C b o ae) n a' w) (fh:w_) (pos:String) (fc:w_):
 aC P C b o ae Fin (some gs.size) rel (upd (upd ρ 0 (.wait .w0)) gs.size (.self 1 0)) (upd (upd q 0 n) gs.size 0) ((gs.setIfInBounds 0 a').push child) w (t++#[{g:=0,fn:=fh,pos:=pos,act:=.go gs.size},{g:=gs.size,fn:=fc,pos:=pos,act:=.start}]):=by
 have hlt:0<gs.size:=T.cX
 have hne:(0:Nat)≠gs.size:=by omega
 have hsz:((gs.setIfInBounds 0 a').push child).size=gs.size+1:=by simp
 have om:ρ gs.size=.none:=T.above _ (Nat.le_refl _)
 have b9:C.on:=T.jw (i:=0) (by rw [hr];exact Nat.one_ne_zero)
 have zN:upd (upd ρ 0 (.wait .w0)) gs.size (.self 1 0) 0=.wait .w0:=by rw [upd_ne _ _ hne,upd_same]
 have BC:upd (upd ρ 0 (.wait .w0)) gs.size (.self 1 0) gs.size=.self 1 0:=upd_same _ _ _
 have uW:∀j,j≠0->j≠gs.size->upd (upd ρ 0 (.wait .w0)) gs.size (.self 1 0) j=ρ j:=fun j h1 h2=>by rw [upd_ne _ _ h2,upd_ne _ _ h1]
 have AV:=T.tr.hire (h:=0) (S:=fun _=>False) (Q:=fun _=>False) (K':=Knows (t++#[{g:=0,fn:=fh,pos:=pos,act:=.go gs.size},{g:=gs.size,fn:=fc,pos:=pos,act:=.start}]) gs.size) (fun i hi=>hi) hlt (T.fX (by rw [hr];simp)) (by rw [hr];rfl) (by rw [om];rfl) (fun g l hg=>T.old g l hg) (fun l hl=>hl.elim) (fun l hl=>hl.elim) fh pos fc (fun _ _ h=>h)
 rw [cS.Kw] at AV
 have jW:cnt (upd (upd ρ 0 (.wait .w0)) gs.size (.self 1 0)) (gs.size+1)=cnt ρ gs.size:=by
  have e1:=kL (ρ:=ρ) (.wait .w0) hlt
  rw [hr] at e1
  have e2:cnt (upd (upd ρ 0 (.wait .w0)) gs.size (.self 1 0)) (gs.size+1)=cnt (upd ρ 0 (.wait .w0)) gs.size+1:=by
   show sumTo gs.size _+_=_
   simp only [BC]
   congr 1
   exact sumTo_congr fun j hj=>by rw [upd_ne _ _ (by omega)]
  simp only [aX.count] at e1
  omega
 have xD:∀j,(upd (upd ρ 0 (.wait .w0)) gs.size (.self 1 0) j).isLast=(ρ j).isLast:=fun j=>by
  by_cases e1:j=0
  ·subst e1;rw [zN,hr];rfl
  ·by_cases e2:j=gs.size
   ·subst e2;rw [BC,om];rfl
   ·rw [uW j e1 e2]
 obtain ⟨hl,my⟩:=T.DV b9 hr
 refine ⟨T.ok,T.ad,T.yk,T.IB,fun g hg=> ?_,fun g l hg=> ?_,T.plain,T.CG,T.mO, ?_,fun j y hy=> ?_,fun j hj=> ?_,fun j p' h' e=> ?_,fun j l p p' h₁ iN e1 e2 hch=> ?_,fun j p' h' e=> ?_,fun j k' d' e=> ?_,fun x hx=> ?_,by rw [hsz,jW];exact T.few,fun _=> ?_,fun c=>absurd b9 c,by rw [hsz];omega,fun h1 h2=> ?_⟩
 ·obtain ⟨d,e⟩:=T.Ls g hg
  rw [uW g (by rintro rfl;rw [hr] at e;cases e) (by rintro rfl;rw [om] at e;cases e)];exact ⟨d,e⟩
 ·rw [hsz]
  have:=T.old g l hg;omega
 ·rw [hsz]
  have e1:(fun j=>(upd (upd ρ 0 (.wait .w0)) gs.size (.self 1 0) j).dd)=fun j=>(ρ j).dd:=by
   funext j
   by_cases e1:j=0
   ·subst e1;rw [zN,hr];rfl
   ·by_cases e2:j=gs.size
    ·subst e2;rw [BC,om];rfl
    ·rw [uW j e1 e2]
  rw [e1]
  refine AV.n9 (fun p hp=>.inl hp) (fun z a ha hm hs _=>⟨fun hk=>.inl hk,fun g hg hl=> ?_⟩)
  rcases hl with (zp|WB)|hl
  ·have h1:g≠0:=fun e=>by rw [e,hr] at zp;cases zp
   have h2:g≠gs.size:=fun e=>by rw [e,om] at zp;cases zp
   exact .inr (.inl (by rw [uW g h1 h2];exact zp))
  ·exact .inl (fQ (WB▸hg))
  ·exact .inr (.inr hl)
 ·by_cases e2:j=gs.size
  ·subst e2
   rw [BC];trivial
  ·rw [Array.getElem?_push,if_neg (by simpa using e2)] at hy
   by_cases e1:j=0
   ·subst e1
    rw [Array.getElem?_setIfInBounds_self_of_lt hlt] at hy
    obtain rfl:=some_inj hy
    rw [zN,upd_ne _ _ hne,upd_same];exact ⟨rfl,CJ⟩
   ·rw [I_ (Ne.symm e1)] at hy
    rw [uW j e1 e2,upd_ne _ _ e2,upd_ne _ _ e1]
    exact T.eD j y hy
 ·rw [hsz] at hj
  rw [uW j (by omega) (by omega)];exact T.above j (by omega)
 ·by_cases e1:j=0
  ·subst e1;rw [zN] at e;cases e
  ·by_cases e2:j=gs.size
   ·subst e2;rw [BC] at e;cases e
   ·rw [uW j e1 e2] at e;exact T.chans j p' h' e
 ·have of:∀j p h₁,upd (upd ρ 0 (.wait .w0)) gs.size (.self 1 0) j=.seat p h₁->ρ j=.seat p h₁:=fun j p h₁ e=>by
   by_cases e1:j=0
   ·subst e1;rw [zN] at e;cases e
   ·by_cases e2:j=gs.size
    ·subst e2;rw [BC] at e;cases e
    ·rw [uW j e1 e2] at e;exact e
  exact T.apart j l p p' h₁ iN (of j p h₁ e1) (of l p' iN e2) hch
 ·by_cases e1:j=0
  ·subst e1;rw [zN] at e;cases e
  ·by_cases e2:j=gs.size
   ·subst e2;rw [BC] at e;cases e
   ·rw [uW j e1 e2] at e;exact T.shuts j p' h' e
 ·by_cases e1:j=0
  ·subst e1;rw [zN] at e;cases e
  ·by_cases e2:j=gs.size
   ·subst e2;rfl
   ·rw [uW j e1 e2] at e
    have:=T.one j _ _ e
    exact absurd (some_inj this).symm e1
 ·obtain rfl:=some_inj hx
  rw [BC];exact .inr (.inl rfl)
 ·unfold dy
  rw [zN,hsz]
  exact ⟨fun j=>(xD j).trans (hl j),by rw [jW];exact my⟩
 ·rw [zN] at h1;cases h1
end
end
section
open Go Go.Conc Go.Conc.Lib Go.ConcR Go.ConcR.Gen
structure Wk (R:J'->J'->Prop) (D:J'->J'->Array Event->Prop) (I:J'->Prop):Prop where
 keep:∀w w₁,R w w₁->I w->I w₁
 quiet:∀w,D w w #[]
section
variable {P:U'} {main:Bool} {R:J'->J'->Prop} {D:J'->J'->Array Event->Prop} {Stop:O'->J'->Prop} {I:J'->Prop} {n d:Nat} {b:Y'} {a:Act} {k:List x_} {cs:List Y'} {ops:Array y_} {i:Nat} {rest:List Nat} {o:y_} {w:J'}
variable {g g':O'}
theorem Wk.ctl (W:Wk R D I) (hrun:g.status=.running) (hst:∀w,stepG P main g w=.go g' w #[]) (h:∃n,∀w,I w->Goes P main R D Stop n g' w):∃n,∀w,I w->Goes P main R D Stop n g w:=by
 obtain ⟨n,h⟩:=h
 exact ⟨n+1,fun w hK=>Goes.step hrun fun w₁ h₁=>by rw [hst w₁];exact ⟨W.quiet w₁,h w₁ (W.keep _ _ h₁ hK)⟩⟩
theorem Wk.look (W:Wk R D I) (hrun:g.status=.running) (hst:∀w,I w->stepG P main g w=.go g' w #[]) (h:∃n,∀w,I w->Goes P main R D Stop n g' w):∃n,∀w,I w->Goes P main R D Stop n g w:=by
 obtain ⟨n,h⟩:=h
 exact ⟨n+1,fun w hK=>Goes.step hrun fun w₁ h₁=>by
  have sG:=W.keep _ _ h₁ hK
  rw [hst w₁ sG];exact ⟨W.quiet w₁,h w₁ sG⟩⟩
theorem Wk.stop (W:Wk R D I) (h:∀w,I w->Stop g w):∃n,∀w,I w->Goes P main R D Stop n g w:=⟨0,fun _ hK=>Goes.stop fun w₁ h₁=>h w₁ (W.keep _ _ h₁ hK)⟩
theorem Wk.here (hK:I w) (h:∃n,∀w,I w->Goes P main R D Stop n g w):∃n,Goes P main R D Stop n g w:=h.imp fun _ h=>h w hK
theorem listed_nil {fn:w_} {o:y_} (h:(V' a.eval o).events P w #[]=#[]):listed P fn a o w=#[]:=by
 refine Array.eq_empty_iff_forall_not_mem.2 fun e he=> ?_
 have:=mem_listed he
 rw [h] at this
 simp at this
variable {es:Array Event}
theorem Wk.said (W:Wk R D I) (hD:∀w,D w w es) (hrun:g.status=.running) (hst:∀w,I w->stepG P main g w=.go g' w es) (h:∃n,∀w,I w->Goes P main R D Stop n g' w):∃n,∀w,I w->Goes P main R D Stop n g w:=by
 obtain ⟨n,h⟩:=h
 exact ⟨n+1,fun w hK=>Goes.step hrun fun w₁ h₁=>by
  have sG:=W.keep _ _ h₁ hK
  rw [hst w₁ sG];exact ⟨hD w₁,h w₁ sG⟩⟩
def Xe (R:J'->J'->Prop) (St:O'->J'->Prop) (g:O') (w:J'):Prop:=∀w₁,R w w₁->St g w₁
theorem Wk.Ta (W:Wk R D I) {St:O'->J'->Prop} (h:∀w,I w->St g w):∃n,∀w,I w->Goes P main R D (Xe R St) n g w:=⟨0,fun _ hK=>Goes.stop fun w₁ h₁ lZ iN=>h lZ (W.keep _ _ iN (W.keep _ _ h₁ hK))⟩
theorem Wk.val (W:Wk R D I) (ho:ops[i]?=some o) (hw:U_ o (yielded ops a.tmps)=true) (hk:b.kind≠.early) (he:∀w,(V' a.eval o).events P w #[]=#[])
 (h:∀K:(J'->Result Next)->Prop,(∀v,(∃n,∀w,I w->Goes P main R D Stop n (G (b.at (a.put o.dst v) (.inRegion ops rest::k)) cs) w)->K (fun w=>.ok (.value v) w))->K (fun w=>(V' a.eval o).run P w)):
 ∃n,∀w,I w->Goes P main R D Stop n (G (b.at a (.inRegion ops (i::rest)::k)) cs) w:=by
 obtain ⟨v,h1,h2⟩:=h (fun f=>∃v,(∀w,f w=.ok (.value v) w)/\∃n,∀w,I w->Goes P main R D Stop n (G (b.at (a.put o.dst v) (.inRegion ops rest::k)) cs) w) (fun v hq=>⟨v,fun _=>rfl,hq⟩)
 refine W.ctl rfl (fun w=> ?_) h2
 rw [stepG_value ho hw hk (h1 w),listed_nil (he w)]
theorem Wk.IW (W:Wk R D I) (v:Value) (ho:ops[i]?=some o) (hw:U_ o (yielded ops a.tmps)=true) (hk:b.kind≠.early) (he:∀w,I w->(V' a.eval o).run P w=.ok (.value v) w/\(V' a.eval o).events P w #[]=#[])
 (h:∃n,∀w,I w->Goes P main R D Stop n (G (b.at (a.put o.dst v) (.inRegion ops rest::k)) cs) w):∃n,∀w,I w->Goes P main R D Stop n (G (b.at a (.inRegion ops (i::rest)::k)) cs) w:=by
 refine W.look rfl (fun w gC=> ?_) h
 rw [stepG_value ho hw hk (he w gC).1,listed_nil (he w gC).2]
theorem dt (hs:g.status=.running) (h:∀w,stepG P false g w=.go g' w #[]) (hq:∃n,QuitsD P n d g'):∃n,QuitsD P n d g:=hq.elim fun n hq=>⟨n+1,.ctl hs h hq⟩
theorem P8 (ho:ops[i]?=some o) (hw:U_ o (yielded ops a.tmps)=true) (hk:b.kind≠.early) (he:∀w,(V' a.eval o).events P w #[]=#[])
 (h:∀K:(J'->Result Next)->Prop,(∀v,(∃n,QuitsD P n d (G (b.at (a.put o.dst v) (.inRegion ops rest::k)) cs))->K (fun w=>.ok (.value v) w))->K (fun w=>(V' a.eval o).run P w)):∃n,QuitsD P n d (G (b.at a (.inRegion ops (i::rest)::k)) cs):=by
 obtain ⟨v,h1,n,h2⟩:=h (fun f=>∃v,(∀w,f w=.ok (.value v) w)/\∃n,QuitsD P n d (G (b.at (a.put o.dst v) (.inRegion ops rest::k)) cs)) (fun v hq=>⟨v,fun _=>rfl,hq⟩)
 exact ⟨n+1,QuitsD.value v ho hw hk h1 he h2⟩
variable {L:WgLink}
theorem pS (H:WgLib P L) {ds:List Deferred} {todo:List x_} (hd:a.defers=dcall L.enable #[]::ds) (hq:∃n,QuitsD P n 0 (G {b.at ⟨a.tmps,ds⟩ todo with mode:=.returning} cs)):∃n,QuitsD P n 1 (G {b.at a todo with mode:=.returning} cs):=
 hq.elim fun n hq=>⟨n+1,QuitsD.unwind_mark .enable rfl (by simp) hd H.f_enable (x_enable_n L) (x_enable_b L) (x_enable_x L) (x_enable_f L) hq⟩
end
section
variable {P:U'} {main:Bool} {b:Y'} {a:Act} {k:List x_} {cs:List Y'} {ops:Array y_} {i:Nat} {rest:List Nat} {o:y_} {w:J'} {f:w_} {fn:Func} {c:Code} {args:Array Operand} {ats:Array TypeId} {aI:Y'} {aS:Act} {todo:List x_}
theorem i6 (ho:ops[i]?=some o) (hw:U_ o (yielded ops a.tmps)=true) (hk:b.kind≠.early) (hop:o.op=.call {callee:=.value (.func f),args,argTypes:=ats})
 (hf:P.funcs[f]?=some fn) (lV:(fn.name== "runtime.NumGoroutine")=false) (hb:fn.body=some c):
 stepG P main (G (b.at a (.inRegion ops (i::rest)::k)) cs) w=.go (G ((base f).at {tmps:=args.map a.eval++Array.replicate (fn.ntmps - (args.map a.eval).size) undef,defers:=[]} [.code c]) (b.at a (.inRegion ops (i::rest)::k)::cs)) w #[]:=by
 have A8:fn.body.isNone=false:=by rw [hb];rfl
 rw [stepG_enter ho hw hk (run_call_body hop hf lV A8),enter_at _ hf hb]
 have:listed P b.fn a o w=#[]:=by unfold listed;rw [events_call_body hop hf lV A8];exact seen_none P _
 rw [this]
theorem aZ {t:Tmp} (hn:b.kind=.normal) (hd:a.defers=[]) (hf:P.funcs[b.fn]?=some fn) (hr:fn.results=#[.tmp t]):
 stepG P main (G {b.at a todo with mode:=.returning} (aI.at aS (.inRegion ops (i::rest)::k)::cs)) w=.go (G (aI.at (aS.put ((ops[i]?).bind (·.dst)) (a.tmps.getD t undef)) (.inRegion ops rest::k)) cs) w #[]:=by
 rw [stepG_leave hn hd hf (results_tmp hr _ P w) (events_results_tmp hr _ _),Frame.finish_at]
theorem fC (hn:b.kind=.normal) (hd:a.defers=[]) (hf:P.funcs[b.fn]?=some fn) (hr:fn.results=#[]):
 stepG P main (G {b.at a todo with mode:=.returning} (aI.at aS (.inRegion ops (i::rest)::k)::cs)) w=.go (G (aI.at (aS.put ((ops[i]?).bind (·.dst)) (.tuple #[])) (.inRegion ops rest::k)) cs) w #[]:=by
 rw [stepG_leave hn hd hf (results_none hr _ P w) (events_results_none hr _ _),Frame.finish_at]
end
structure Hid (p:Prop):Prop where
 out:p
def uV (b o:Nat) (w:J'):Prop:=(∃v,w.cell? ⟨b,o,none⟩=some v)/\∃v,w.cell? ⟨b,o+1,none⟩=some v
variable {b:Nat} {w:J'}
theorem Live.has {o:Nat} (h:Live b o w):uV b o w:=let ⟨_,_,x⟩:=h;⟨⟨_,x.st⟩,_,x.sm⟩
variable {C:cS}
theorem wk0 (b9:C.on) (b o i:Nat):Wk (RB C b o i) D0 (Live b o):=⟨fun _ _ h k=>h.live b9 k,fun _=>⟨rfl,rfl⟩⟩
theorem wkR (b9:C.on) (b o i:Nat):Wk (RB C b o i) (DR C i) (Live b o):=⟨fun _ _ h k=>h.live b9 k,fun _=>⟨Out.refl _ _,fun e he=>by simp at he⟩⟩
theorem XI (b9:C.on) (b o:Nat):Wk (RB C b o 0) (DW b o) (Live b o):=⟨fun _ _ h k=>h.live b9 k,fun _=>⟨rfl,fun e he=>by simp at he⟩⟩
theorem Ln (w:J'):DH C w w #[]:=
 ⟨⟨Nat.le_refl _,fun _ c _ _ h=>⟨c,h,rfl,fun _ _=>rfl⟩,fun _ _ h _=>h,fun _ o h ho=>⟨o,h,ho⟩,rfl,rfl,rfl,fun e he=>by simp at he⟩,fun _ _=>rfl,fun e he=>by simp at he⟩
variable {w₁:J'}
theorem Gn {hid:Nat->Nat->Prop} {o:Nat} (h:∃v,w.cell? ⟨b,o,none⟩=some v) (ho:Out hid w w₁):∃v,w₁.cell? ⟨b,o,none⟩=some v:=by
 obtain ⟨v,hv⟩:=h
 obtain ⟨c,e,f,hb,hc⟩:=dF hv
 obtain ⟨c',A8,hs,_⟩:=ho.cells _ c e f hb
 have hlt:o<c'.size:=by rw [hs];exact (cI hc)
 exact ⟨c'[o],by simp [World.cell?,A8,hlt]⟩
theorem uV.out {hid:Nat->Nat->Prop} {o:Nat} (h:uV b o w) (ho:Out hid w w₁):uV b o w₁:=⟨Gn h.1 ho,Gn h.2 ho⟩
theorem wkH (C:cS) (b o:Nat):Wk (Out (bS C)) D0 (uV b o):=⟨fun _ _ h k=>k.out h,fun _=>⟨rfl,rfl⟩⟩
theorem V7 (C:cS):Wk (Out (bS C)) D0 (fun _=>True):=⟨fun _ _ _ _=>trivial,fun _=>⟨rfl,rfl⟩⟩
theorem sJ {P:U'} {main:Bool} {hid:Nat->Nat->Prop} {Stop:O'->J'->Prop}:∀{n:Nat} {g:O'} {w:J'},Goes P main (Out hid) D0 Stop n g w->Goes P main (Out hid) D0 (fun g' w'=>Stop g' w'/\Out hid w w') n g w
 |0,_,_,h=>fun w₁ h₁=>⟨h w₁ h₁,h₁⟩
 |n+1,g,w,h=>by
  rcases h with h|⟨hs,h⟩
  ·exact .inl fun w₁ h₁=>⟨h w₁ h₁,h₁⟩
  ·refine .inr ⟨hs,fun w₁ h₁=> ?_⟩
   have:=h w₁ h₁
   revert this
   cases stepG P main g w₁ with
   |go g' w' es=>
    simp only [goes_go]
    rintro ⟨⟨rfl,rfl⟩,hg⟩
    exact ⟨⟨rfl,rfl⟩,Go.ConcN.goes_mono (fun _ _ x=>⟨x.1,h₁.trans x.2⟩) (sJ hg)⟩
   |_=>exact id
class Rg (ops:Array y_) (l:outParam (List Nat)):Prop where
 q:List.range ops.size=l
instance:Rg #[] []:=⟨rfl⟩
instance {a:y_}:Rg #[a] [0]:=⟨rfl⟩
instance {a b:y_}:Rg #[a,b] [0,1]:=⟨rfl⟩
instance {a b c:y_}:Rg #[a,b,c] [0,1,2]:=⟨rfl⟩
instance {a b c d:y_}:Rg #[a,b,c,d] [0,1,2,3]:=⟨rfl⟩
instance {a b c d e:y_}:Rg #[a,b,c,d,e] [0,1,2,3,4]:=⟨rfl⟩
instance {a b c d e f:y_}:Rg #[a,b,c,d,e,f] [0,1,2,3,4,5]:=⟨rfl⟩
instance {a b c d e f g:y_}:Rg #[a,b,c,d,e,f,g] [0,1,2,3,4,5,6]:=⟨rfl⟩
instance {a b c d e f g h:y_}:Rg #[a,b,c,d,e,f,g,h] [0,1,2,3,4,5,6,7]:=⟨rfl⟩
instance {a b c d e f g h i:y_}:Rg #[a,b,c,d,e,f,g,h,i] [0,1,2,3,4,5,6,7,8]:=⟨rfl⟩
instance {a b c d e f g h i j:y_}:Rg #[a,b,c,d,e,f,g,h,i,j] [0,1,2,3,4,5,6,7,8,9]:=⟨rfl⟩
instance {a b c d e f g h i j k:y_}:Rg #[a,b,c,d,e,f,g,h,i,j,k] [0,1,2,3,4,5,6,7,8,9,10]:=⟨rfl⟩
instance {a b c d e f g h i j k m:y_}:Rg #[a,b,c,d,e,f,g,h,i,j,k,m] [0,1,2,3,4,5,6,7,8,9,10,11]:=⟨rfl⟩
instance {a b c d e f g h i j k m n:y_}:Rg #[a,b,c,d,e,f,g,h,i,j,k,m,n] [0,1,2,3,4,5,6,7,8,9,10,11,12]:=⟨rfl⟩
instance {a b c d e f g h i j k m n o:y_}:Rg #[a,b,c,d,e,f,g,h,i,j,k,m,n,o] [0,1,2,3,4,5,6,7,8,9,10,11,12,13]:=⟨rfl⟩
instance {a b c d e f g h i j k m n o p:y_}:Rg #[a,b,c,d,e,f,g,h,i,j,k,m,n,o,p] [0,1,2,3,4,5,6,7,8,9,10,11,12,13,14]:=⟨rfl⟩
instance {a b c d e f g h i j k m n o p q:y_}:Rg #[a,b,c,d,e,f,g,h,i,j,k,m,n,o,p,q] [0,1,2,3,4,5,6,7,8,9,10,11,12,13,14,15]:=⟨rfl⟩
instance {a b c d e f g h i j k m n o p q r:y_}:Rg #[a,b,c,d,e,f,g,h,i,j,k,m,n,o,p,q,r] [0,1,2,3,4,5,6,7,8,9,10,11,12,13,14,15,16]:=⟨rfl⟩
instance {a b c d e f g h i j k m n o p q r s:y_}:Rg #[a,b,c,d,e,f,g,h,i,j,k,m,n,o,p,q,r,s] [0,1,2,3,4,5,6,7,8,9,10,11,12,13,14,15,16,17]:=⟨rfl⟩
instance {a b c d e f g h i j k m n o p q r s t:y_}:Rg #[a,b,c,d,e,f,g,h,i,j,k,m,n,o,p,q,r,s,t] [0,1,2,3,4,5,6,7,8,9,10,11,12,13,14,15,16,17,18]:=⟨rfl⟩
instance {a b c d e f g h i j k m n o p q r s t u:y_}:Rg #[a,b,c,d,e,f,g,h,i,j,k,m,n,o,p,q,r,s,t,u] [0,1,2,3,4,5,6,7,8,9,10,11,12,13,14,15,16,17,18,19]:=⟨rfl⟩
instance {a b c d e f g h i j k m n o p q r s t u v:y_}:Rg #[a,b,c,d,e,f,g,h,i,j,k,m,n,o,p,q,r,s,t,u,v] [0,1,2,3,4,5,6,7,8,9,10,11,12,13,14,15,16,17,18,19,20]:=⟨rfl⟩
instance {a b c d e f g h i j k m n o p q r s t u v w:y_}:Rg #[a,b,c,d,e,f,g,h,i,j,k,m,n,o,p,q,r,s,t,u,v,w] [0,1,2,3,4,5,6,7,8,9,10,11,12,13,14,15,16,17,18,19,20,21]:=⟨rfl⟩
instance {a b c d e f g h i j k m n o p q r s t u v w x:y_}:Rg #[a,b,c,d,e,f,g,h,i,j,k,m,n,o,p,q,r,s,t,u,v,w,x] [0,1,2,3,4,5,6,7,8,9,10,11,12,13,14,15,16,17,18,19,20,21,22]:=⟨rfl⟩
section
variable {P:U'} {main:Bool} {R:J'->J'->Prop} {D:J'->J'->Array Event->Prop} {Stop:O'->J'->Prop} {I:J'->Prop} {n d:Nat} {b:Y'} {a:Act} {k:List x_} {cs:List Y'} {ops:Array y_} {i:Nat} {rest:List Nat} {o:y_}
variable {x:Code}
theorem Wk.s (W:Wk R D I) {y:Code} (h:∃n,∀w,I w->Goes P main R D Stop n (G (b.at a (.code x::.code y::k)) cs) w):∃n,∀w,I w->Goes P main R D Stop n (G (b.at a (.code (.seq x y)::k)) cs) w:=W.ctl rfl (fun _=>stepG_seq) h
theorem Wk.e (W:Wk R D I) (h:∃n,∀w,I w->Goes P main R D Stop n (G (b.at a (k)) cs) w):∃n,∀w,I w->Goes P main R D Stop n (G (b.at a (.inRegion ops []::k)) cs) w:=W.ctl rfl (fun _=>stepG_region_end) h
theorem Wk.z (W:Wk R D I) (h:∃n,∀w,I w->Goes P main R D Stop n (G (b.at a (k)) cs) w):∃n,∀w,I w->Goes P main R D Stop n (G (b.at a (.code .skip::k)) cs) w:=W.ctl rfl (fun _=>stepG_skip) h
theorem Wk.t (W:Wk R D I) {y:Code} {c:Operand} (hc:a.eval c=.bool true) (h:∃n,∀w,I w->Goes P main R D Stop n (G (b.at a (.code x::k)) cs) w):∃n,∀w,I w->Goes P main R D Stop n (G (b.at a (.code (.cond c x y)::k)) cs) w:=W.ctl rfl (fun _=>stepG_cond hc) h
theorem Wk.f (W:Wk R D I) {y:Code} {c:Operand} (hc:a.eval c=.bool false) (h:∃n,∀w,I w->Goes P main R D Stop n (G (b.at a (.code y::k)) cs) w):∃n,∀w,I w->Goes P main R D Stop n (G (b.at a (.code (.cond c x y)::k)) cs) w:=W.ctl rfl (fun _=>stepG_cond hc) h
variable {j:Nat} {l:List Nat}
theorem Wk.r (W:Wk R D I) [q:Rg ops l] (h:∃n,∀w,I w->Goes P main R D Stop n (G (b.at a (.inRegion ops l::k)) cs) w):∃n,∀w,I w->Goes P main R D Stop n (G (b.at a (.code (.region j ops false)::k)) cs) w:=W.ctl rfl (fun _=>q.q▸stepG_region) h
theorem Wk.u (W:Wk R D I) (ho:ops[i]?=some o) (hw:U_ o (yielded ops a.tmps)=false) (h:∃n,∀w,I w->Goes P main R D Stop n (G (b.at (a.put o.dst undef) (.inRegion ops rest::k)) cs) w):∃n,∀w,I w->Goes P main R D Stop n (G (b.at a (.inRegion ops (i::rest)::k)) cs) w:=W.ctl rfl (fun _=>stepG_unwanted ho hw) h
theorem Yd {y:Code} (h:∃n,QuitsD P n d (G (b.at a (.code x::.code y::k)) cs)):∃n,QuitsD P n d (G (b.at a (.code (.seq x y)::k)) cs):=dt rfl (fun _=>stepG_seq) h
theorem He (h:∃n,QuitsD P n d (G (b.at a (k)) cs)):∃n,QuitsD P n d (G (b.at a (.inRegion ops []::k)) cs):=dt rfl (fun _=>stepG_region_end) h
theorem Ya (h:∃n,QuitsD P n d (G (b.at a (k)) cs)):∃n,QuitsD P n d (G (b.at a (.code .skip::k)) cs):=dt rfl (fun _=>stepG_skip) h
theorem Yc {y:Code} {c:Operand} (hc:a.eval c=.bool true) (h:∃n,QuitsD P n d (G (b.at a (.code x::k)) cs)):∃n,QuitsD P n d (G (b.at a (.code (.cond c x y)::k)) cs):=dt rfl (fun _=>stepG_cond hc) h
theorem Yf {y:Code} {c:Operand} (hc:a.eval c=.bool false) (h:∃n,QuitsD P n d (G (b.at a (.code y::k)) cs)):∃n,QuitsD P n d (G (b.at a (.code (.cond c x y)::k)) cs):=dt rfl (fun _=>stepG_cond hc) h
theorem Ye [q:Rg ops l] (h:∃n,QuitsD P n d (G (b.at a (.inRegion ops l::k)) cs)):∃n,QuitsD P n d (G (b.at a (.code (.region j ops false)::k)) cs):=dt rfl (fun _=>q.q▸stepG_region) h
theorem Yb (ho:ops[i]?=some o) (hw:U_ o (yielded ops a.tmps)=false) (h:∃n,QuitsD P n d (G (b.at (a.put o.dst undef) (.inRegion ops rest::k)) cs)):∃n,QuitsD P n d (G (b.at a (.inRegion ops (i::rest)::k)) cs):=dt rfl (fun _=>stepG_unwanted ho hw) h
variable {g:O'}
theorem Wk.y {q:Prop} (W:Wk R D I) (k:q) (m:Go.aC.Hid q->∃n,∀w,I w->Goes P main R D Stop n (g) w:=by
 intro hq
 first
  |(with_reducible first
   |exact W.s hq.out
   |exact W.e hq.out
   |exact W.z hq.out
   |exact W.r hq.out)
  |exact W.t rfl hq.out
  |exact W.f rfl hq.out
  |(refine W.u rfl rfl ?_
    walk_nrm
    exact hq.out)
  |(refine W.val rfl rfl (by k_ne) (fun _=>by simp [go_sem, *]) (fun K hy=> ?_)
    go_simp
    (try w_num)
    refine hy _ ?_
    clear hy K
    walk_nrm
    exact hq.out)):∃n,∀w,I w->Goes P main R D Stop n (g) w:=m ⟨k⟩
theorem Cf {q:Prop} (k:q) (m:Go.aC.Hid q->∃n,QuitsD P n d (g):=by
 intro hq
 first
  |(with_reducible first
   |exact Yd hq.out
   |exact He hq.out
   |exact Ya hq.out
   |exact Ye hq.out)
  |exact Yc rfl hq.out
  |exact Yf rfl hq.out
  |(refine Yb rfl rfl ?_
    walk_nrm
    exact hq.out)
  |(refine P8 rfl rfl (by k_ne) (fun _=>by simp [go_sem, *]) (fun K hy=> ?_)
    go_simp
    (try w_num)
    refine hy _ ?_
    clear hy K
    walk_nrm
    exact hq.out)):∃n,QuitsD P n d (g):=m ⟨k⟩
end
variable {P:U'} {a:Act} {cs:List Y'} {j:Nat} {l:List Nat}
theorem zb {main:Bool} {b:Y'} {k:List x_} {ops:Array y_} [q:Rg ops l]:stepG P main (G (b.at a (.code (.region j ops false)::k)) cs) w=.go (G (b.at a (.inRegion ops l::k)) cs) w:=q.q▸stepG_region
end
section
open Go Go.Conc Go.Conc.Lib Go.ConcR.Gen Go.RowKit
variable {L:WgLink} {P:U'} {C:cS} {b:Nat} {cs:List Y'}
theorem Di (H:WgLib P L) (b9:C.on) {o i:Nat} {c:Y'} {qt:Nat} (Ve:c.mode=.returning) (hT:QuitsD P qt 0 (G c cs)):
 ∃n,∀w,Live b o w->Goes P false (RB C b o i) (DR C i) (AtR0 P C b o i) n (G ((baseD L.done).at ⟨#[.pointer (some ⟨b,o,none⟩),undef,undef,undef],[]⟩ [.code ((doneFn L).body.getD .skip)]) (c::cs)) w:=by
 lib_facts
 have W:=wkR b9 b o i
 simp only [doneFn,Option.getD_some]
 iterate 2 refine W.y ?_
 refine W.ctl rfl (fun _=>i6 rfl rfl (by k_ne) rfl H.f_add (nm_add L) rfl) ?_;walk_nrmf addFn
 iterate 11 refine W.y ?_
 refine W.IW (.pointer (some ⟨b,o,none⟩)) rfl rfl (by k_ne) (fun w hw=> ?_) ?_
 ·have hcv:=run_convert_to_unsafe (P:=P) H.underlying_tWgP H.underlying_tUP H.room_tWg hw.has.1.choose_spec
  have hce:=fun es=>events_convert_to_unsafe (P:=P) H.underlying_tWgP H.underlying_tUP H.room_tWg hw.has.1.choose_spec es
  refine ⟨?_, ?_⟩
  ·go_simp
  ·simp [go_sem,hce, *]
 walk_nrm
 refine W.stop fun w hK=>⟨rfl,_,stepG_markAt .releaseMerge (by simp) rfl rfl (by k_ne) rfl H.f_relMerge (x_relMerge_n L) (x_relMerge_b L) (x_relMerge_x L) (x_relMerge_f L) (by simp [Act.eval]),Wk.here hK ?_⟩
 clear W hK w
 have W:=wk0 b9 b o i
 walk_nrm
 iterate 3 refine W.y ?_
 refine W.stop fun w hK=>⟨rfl,_,stepG_mark0 .disable (by simp) rfl rfl (by k_ne) rfl H.f_disable (x_disable_n L) (x_disable_b L) (x_disable_x L) (x_disable_f L),Wk.here hK ?_⟩
 clear hK w
 walk_nrm
 iterate 2 refine W.y ?_
 refine W.ctl rfl (fun _=>stepG_defer rfl rfl (by k_ne) rfl) ?_;walk_nrm
 iterate 8 refine W.y ?_
 refine W.ctl rfl (fun _=>stepG_entry_pure (.bool false) rfl rfl (by k_ne) rfl H.f_inBubble (x_inBubble_n L) (x_inBubble_b L) (x_inBubble_x L) (x_inBubble_f L)) ?_;walk_nrm
 iterate 11 refine W.y ?_
 refine W.ctl rfl (fun _=>i6 rfl rfl (by k_ne) rfl H.f_uAdd (nm_uAdd L) rfl) ?_;walk_nrmf uAddFn
 iterate 10 refine W.y ?_
 refine W.stop fun w hK=>⟨rfl,fun v wt M1 hv hw=> ?_⟩
 clear hK W
 have e0:IntKind.u64.wrap ((v+1:Nat) * Go.aC.KK+wt+18446744069414584320)=v * Go.aC.KK+wt:=by
  unfold Go.aC.KK;rw [IntKind.wrap_u64];omega
 refine ⟨_,(stepG_add_atomic rfl rfl (by k_ne) rfl H.f_addU64 (x_addU64_n L) (x_addU64_b L) (x_addU64_x L) .u64 (x_addU64_f L) rfl rfl hw.st hw.thaw.1).trans (by rw [e0];rfl),fun hl=> ?_,fun hl=> ?_⟩
 ·obtain ⟨rfl,rfl⟩:=hl
  have W:=wk0 b9 b o i
  have hK:Live b o (w.setCell ⟨b,o,none⟩ (.int .u64 ((0:Nat) * Go.aC.KK+(1:Nat)))):=⟨_,_,hw.setSt _⟩
  clear hw e0
  rw [show (((0:Nat):Int) * Go.aC.KK+((1:Nat):Int))=1 from rfl] at hK ⊢
  refine Wk.here hK ?_
  clear hK w
  walk_nrm
  iterate 2 refine W.y ?_
  refine W.ctl rfl (fun _=>stepG_ret') ?_
  refine W.ctl rfl (fun _=>aZ rfl rfl H.f_uAdd rfl) ?_;walk_nrm
  iterate 89 refine W.y ?_
  refine W.ctl rfl (fun _=>i6 rfl rfl (by k_ne) rfl H.f_uLoad (nm_uLoad L) rfl) ?_;walk_nrmf uLoadFn
  iterate 9 refine W.y ?_
  refine W.stop fun w hL=>⟨rfl,fun hw=>⟨_,stepG_load_atomic rfl rfl (by k_ne) rfl H.f_loadU64 (x_loadU64_n L) (x_loadU64_b L) (x_loadU64_x L) .u64 (x_loadU64_f L) rfl hw.st,Wk.here (I:=Live b o) ⟨_,_,hw⟩ ?_⟩⟩
  clear hw hL w
  walk_nrm
  iterate 2 refine W.y ?_
  refine W.ctl rfl (fun _=>stepG_ret') ?_
  refine W.ctl rfl (fun _=>aZ rfl rfl H.f_uLoad rfl) ?_;walk_nrm
  iterate 10 refine W.y ?_
  refine W.ctl rfl (fun _=>i6 rfl rfl (by k_ne) rfl H.f_uStore (nm_uStore L) rfl) ?_;walk_nrmf uStoreFn
  iterate 5 refine W.y ?_
  refine W.stop fun w hL=>⟨rfl,fun hw=>⟨_,stepG_store_atomic rfl rfl (by k_ne) rfl H.f_storeU64 (x_storeU64_n L) (x_storeU64_b L) (x_storeU64_x L) (x_storeU64_f L) rfl rfl hw.st hw.thaw.1,Wk.here (I:=Live b o) ⟨_,_,hw.setSt 0⟩ ?_⟩⟩
  clear hw hL w
  walk_nrm
  refine W.e ?_
  refine W.ctl rfl (fun _=>stepG_end) ?_
  refine W.ctl rfl (fun _=>fC rfl rfl H.f_uStore rfl) ?_;walk_nrm
  iterate 8 refine W.y ?_
  refine W.ctl rfl (fun _=>stepG_block) ?_
  refine W.ctl rfl (fun _=>stepG_loop) ?_
  iterate 9 refine W.y ?_
  refine W.ctl rfl (fun _=>stepG_block) ?_
  iterate 4 refine W.y ?_
  refine W.stop fun w hL=>⟨rfl,mayWake_entry rfl rfl H.f_semrelease (x_semrelease_b L),fun hw=>⟨_,rfl,(stepG_semrelease rfl rfl (by k_ne) rfl H.f_semrelease (x_semrelease_n L) (x_semrelease_b L) (x_semrelease_x L) (x_semrelease_f L) (by simp [Act.eval]) hw.sm hw.thaw.2).trans (by rfl), ?_⟩⟩
  clear hw hL W w
  walk_nrm
  refine He ?_
  refine dt rfl (fun _=>stepG_inBlock) ?_
  iterate 5 refine Cf ?_
  refine dt rfl (fun _=>stepG_inLoop) ?_
  iterate 7 refine Cf ?_
  refine dt rfl (fun _=>stepG_exit rfl) ?_
  refine dt rfl (fun _=>stepG_end) ?_
  refine pS H rfl ?_
  refine dt rfl (fun _=>fC rfl rfl H.f_add rfl) ?_;walk_nrm
  refine He ?_
  refine dt rfl (fun _=>stepG_end) ?_
  exact ⟨_,.leaveD rfl rfl H.f_done rfl Ve hT⟩
 ·clear hw e0
  obtain ⟨S,hS⟩:∃S:Int,S=(v:Int) * 4294967296+(wt:Int):=⟨_,rfl⟩
  have Iy:(v:Int) * Go.aC.KK+(wt:Int)=S:=hS.symm
  have eo:bits .and .u64 S 2147483648=0:=by rw [hS];exact Go.ConcN.st_flag v wt (by omega) M1
  have HJ:bits .and .u64 S 2147483647=(wt:Int):=by rw [hS];exact Go.ConcN.st_waiters v wt (by omega) M1
  have Mi:S / 4294967296=(v:Int):=by omega
  have CX:IntKind.i32.wrap (v:Int)=(v:Int):=by rw [IntKind.wrap_i32];omega
  have qo:decide ((v:Int)<0)=false:=by simp
  rw [Iy]
  clear hS Iy
  walk_nrm
  rcases Nat.eq_zero_or_pos v with rfl|hvp
  ·obtain rfl:wt=0:=by omega
   iterate 2 refine Cf ?_
   refine dt rfl (fun _=>stepG_ret') ?_
   refine dt rfl (fun _=>aZ rfl rfl H.f_uAdd rfl) ?_;walk_nrm
   iterate 82 refine Cf ?_
   refine dt rfl (fun _=>stepG_ret') ?_
   refine pS H rfl ?_
   refine dt rfl (fun _=>fC rfl rfl H.f_add rfl) ?_;walk_nrm
   refine He ?_
   refine dt rfl (fun _=>stepG_end) ?_
   exact ⟨_,.leaveD rfl rfl H.f_done rfl Ve hT⟩
  ·have KF:decide (0<(v:Int))=true:=by simp;omega
   obtain rfl|rfl:wt=0\/wt=1:=by omega
   ·skip
    iterate 2 refine Cf ?_
    refine dt rfl (fun _=>stepG_ret') ?_
    refine dt rfl (fun _=>aZ rfl rfl H.f_uAdd rfl) ?_;walk_nrm
    iterate 82 refine Cf ?_
    refine dt rfl (fun _=>stepG_ret') ?_
    refine pS H rfl ?_
    refine dt rfl (fun _=>fC rfl rfl H.f_add rfl) ?_;walk_nrm
    refine He ?_
    refine dt rfl (fun _=>stepG_end) ?_
    exact ⟨_,.leaveD rfl rfl H.f_done rfl Ve hT⟩
   ·skip
    iterate 2 refine Cf ?_
    refine dt rfl (fun _=>stepG_ret') ?_
    refine dt rfl (fun _=>aZ rfl rfl H.f_uAdd rfl) ?_;walk_nrm
    iterate 82 refine Cf ?_
    refine dt rfl (fun _=>stepG_ret') ?_
    refine pS H rfl ?_
    refine dt rfl (fun _=>fC rfl rfl H.f_add rfl) ?_;walk_nrm
    refine He ?_
    refine dt rfl (fun _=>stepG_end) ?_
    exact ⟨_,.leaveD rfl rfl H.f_done rfl Ve hT⟩
section
variable (P:U') (C:cS) (b o:Nat) (dN:O')
def Hw (St:O'->J'->Prop) (g:O') (w:J'):Prop:=∃m,Goes P true (Out (bS C)) D0 (Xe (Out (bS C)) St) m g w
def Sj (g:O') (w:J'):Prop:=g.status=.running/\∃g',stepG P true g w=.go g' w #[mh .enable]/\∃m,Goes P true (Out (bS C)) D0 (fun g _=>g=dN) m g' w
def AtRd (g:O') (w:J'):Prop:=g.status=.running/\∃g',stepG P true g w=.go g' w #[mh (.read ⟨b,o+1,none⟩)]/\Hw P C (Sj P C dN) g' w
def AtA1 (g:O') (w:J'):Prop:=
 g.status=.running/\∀v:Nat,v<2147483646->cx b o w (v * KK) 0->∃g',stepG P true g w=.go g' (w.setCell ⟨b,o,none⟩ (.int .u64 ((v+1:Nat) * KK))) #[mF ⟨b,o,none⟩,vT ⟨b,o,none⟩]/\
  (v=0->Hw P C (AtRd P C b o dN) g' (w.setCell ⟨b,o,none⟩ (.int .u64 ((v+1:Nat) * KK))))/\(v≠0->Hw P C (Sj P C dN) g' (w.setCell ⟨b,o,none⟩ (.int .u64 ((v+1:Nat) * KK))))
def AtA0 (g:O') (w:J'):Prop:=g.status=.running/\∃g',stepG P true g w=.go g' w #[mh .disable]/\Hw P C (AtA1 P C b o dN) g' w
end
theorem NS (H:WgLib P L) (C:cS) (b o:Nat) {aI:Y'} {aS:Act} {av:Array y_} {aN:Nat} {ak:List Nat} {aV:List x_}:
 ∃n,∀w,uV b o w->Goes P true (Out (bS C)) D0 (Xe (Out (bS C)) (AtA0 P C b o (G (aI.at (aS.put ((av[aN]?).bind (·.dst)) (.tuple #[])) (.inRegion av ak::aV)) cs))) n
  (G ((base L.add).at ⟨#[.pointer (some ⟨b,o,none⟩),.int .i64 1]++Array.replicate 115 undef,[]⟩ [.code ((addFn L).body.getD .skip)]) (aI.at aS (.inRegion av (aN::ak)::aV)::cs)) w:=by
 lib_facts
 have W:=wkH C b o
 simp only [addFn,Option.getD_some]
 walk_nrm
 iterate 12 refine W.y ?_
 refine W.Ta fun w hK=>⟨rfl,_,stepG_mark0 .disable (by simp) rfl rfl (by k_ne) rfl H.f_disable (x_disable_n L) (x_disable_b L) (x_disable_x L) (x_disable_f L),Wk.here hK ?_⟩
 clear hK w
 walk_nrm
 iterate 2 refine W.y ?_
 refine W.ctl rfl (fun _=>stepG_defer rfl rfl (by k_ne) rfl) ?_;walk_nrm
 iterate 8 refine W.y ?_
 refine W.ctl rfl (fun _=>stepG_entry_pure (.bool false) rfl rfl (by k_ne) rfl H.f_inBubble (x_inBubble_n L) (x_inBubble_b L) (x_inBubble_x L) (x_inBubble_f L)) ?_;walk_nrm
 iterate 11 refine W.y ?_
 refine W.ctl rfl (fun _=>i6 rfl rfl (by k_ne) rfl H.f_uAdd (nm_uAdd L) rfl) ?_;walk_nrmf uAddFn
 iterate 10 refine W.y ?_
 refine W.Ta fun w hK=>⟨rfl,fun v hv hw=> ?_⟩
 have e0:IntKind.u64.wrap ((v:Nat) * Go.aC.KK+4294967296)=(v+1:Nat) * Go.aC.KK:=by
  unfold Go.aC.KK;rw [IntKind.wrap_u64];omega
 have hK':uV b o (w.setCell ⟨b,o,none⟩ (.int .u64 ((v+1:Nat) * Go.aC.KK))):=Live.has ⟨_,_,hw.setSt _⟩
 refine ⟨_,(stepG_add_atomic rfl rfl (by k_ne) rfl H.f_addU64 (x_addU64_n L) (x_addU64_b L) (x_addU64_x L) .u64 (x_addU64_f L) rfl rfl hw.st hw.thaw.1).trans (by rw [e0];rfl),fun BG=>Wk.here hK' ?_,fun BG=>Wk.here hK' ?_⟩
 ·subst BG
  clear hK' e0 hw hK hv
  rw [show (((0+1:Nat):Int) * Go.aC.KK)=4294967296 from rfl]
  walk_nrm
  iterate 2 refine W.y ?_
  refine W.ctl rfl (fun _=>stepG_ret') ?_
  refine W.ctl rfl (fun _=>aZ rfl rfl H.f_uAdd rfl) ?_;walk_nrm
  iterate 48 refine W.y ?_
  refine W.IW (.pointer (some ⟨b,o+1,none⟩)) rfl rfl (by k_ne) (fun w hw=> ?_) ?_
  ·have hcv:=run_convert_to_unsafe (P:=P) H.underlying_tPU32 H.underlying_tUP H.room_tU32 hw.2.choose_spec
   have hce:=fun es=>events_convert_to_unsafe (P:=P) H.underlying_tPU32 H.underlying_tUP H.room_tU32 hw.2.choose_spec es
   refine ⟨?_, ?_⟩
   ·go_simp
   ·simp [go_sem,hce, *]
  walk_nrm
  refine W.Ta fun w hK=>⟨rfl,_,stepG_markAt .read (by simp) rfl rfl (by k_ne) rfl H.f_raceRead (x_raceRead_n L) (x_raceRead_b L) (x_raceRead_x L) (x_raceRead_f L) (by simp [Act.eval]),Wk.here hK ?_⟩
  clear hK w
  walk_nrm
  iterate 38 refine W.y ?_
  refine W.ctl rfl (fun _=>stepG_ret') ?_
  refine W.Ta fun w hK=>⟨rfl,_,stepG_unwind_entry (v:=.tuple #[]) (evs:=#[mh .enable]) rfl H.f_enable (x_enable_n L) (x_enable_b L) (x_enable_x L) (x_enable_f L) (by simp [Extern.Race.none_]) (by simp [mh]) (by simp [mh]),Wk.here hK ?_⟩
  refine W.ctl rfl (fun _=>fC rfl rfl H.f_add rfl) ?_
  exact W.stop fun w _=>rfl
 ·obtain ⟨S,hS⟩:∃S:Int,S=((v+1:Nat):Int) * 4294967296:=⟨_,rfl⟩
  have Iy:((v+1:Nat):Int) * Go.aC.KK=S:=hS.symm
  have eo:bits .and .u64 S 2147483648=0:=by have:=Go.ConcN.st_flag (v+1) 0 (by omega) (by omega);rw [hS];simpa using this
  have HJ:bits .and .u64 S 2147483647=0:=by have:=Go.ConcN.st_waiters (v+1) 0 (by omega) (by omega);rw [hS];simpa using this
  obtain ⟨V,hV⟩:∃V:Int,V=((v+1:Nat):Int):=⟨_,rfl⟩
  have Mi:S / 4294967296=V:=by omega
  have CX:IntKind.i32.wrap V=V:=by rw [IntKind.wrap_i32];omega
  have qo:decide (V<0)=false:=by simp;omega
  have KF:decide (0<V)=true:=by simp;omega
  have Vj:(V=1)=False:=by simp;omega
  have hb8:decide (V=1)=false:=by simp;omega
  have vJ:(V==(1:Int))=false:=by simp;omega
  rw [Iy]
  clear hS Iy hV hK' e0 hw hK hv BG
  walk_nrm
  iterate 2 refine W.y ?_
  refine W.ctl rfl (fun _=>stepG_ret') ?_
  refine W.ctl rfl (fun _=>aZ rfl rfl H.f_uAdd rfl) ?_;walk_nrm
  iterate 82 refine W.y ?_
  refine W.ctl rfl (fun _=>stepG_ret') ?_
  refine W.Ta fun w hK=>⟨rfl,_,stepG_unwind_entry (v:=.tuple #[]) (evs:=#[mh .enable]) rfl H.f_enable (x_enable_n L) (x_enable_b L) (x_enable_x L) (x_enable_f L) (by simp [Extern.Race.none_]) (by simp [mh]) (by simp [mh]),Wk.here hK ?_⟩
  refine W.ctl rfl (fun _=>fC rfl rfl H.f_add rfl) ?_
  exact W.stop fun w _=>rfl
end
end Go.aC
