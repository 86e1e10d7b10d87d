/-
  The steps through Done that count: the release, the word of deafness, the atomic add, the waking; an
-/
import Derived.Test.YtnjkbffmmgckeaaGreatDoorPaa
import Derived.Test.YtnjkbffmmgckeaaGreatDoorPad
set_option linter.all false
set_option maxRecDepth 100000
set_option maxHeartbeats 32000000
open Go renaming World->J',Goroutine->O',Program->U'
open Go.ConcN renaming upd_same->O_,upd_ne->P_
open Array renaming mem_of_getElem?->l_
namespace Go.aC
section
open Go Go.Conc
open Go.ConcN (sumTo upd sumTo_upd upd_ne upd_same sumTo_congr le_sumTo)
section
variable {P:U'} {C:cS} {b o:Nat} {ae Fin:O'->J'->Prop} {who who':Option Nat} {rel bZ:Nat->Prop} {ρ:Nat->aX} {q:Nat->Nat} {gs:Array O'} {w w':J'} {t u:Trace} {sl:Option (Nat × Nat)}
theorem cx.uniq {s m s' m':Int} (h:cx b o w s m) (k:cx b o w s' m'):s=s'/\m=m':=by
 have e1:=h.st.symm.trans k.st
 have e2:=h.sm.symm.trans k.sm
 simp only [Option.some.injEq,Value.int.injEq,true_and] at e1 e2
 exact ⟨e1,e2⟩
variable {i:Nat}
theorem Fj {t:Trace} {g:Nat} {y:MemOp} (h:Knows t g i) (hg:y.g=g):Before (t++#[y]) i t.size:=.inr (h.hb_new (Nat.le_refl _) (by simp) hg)
theorem ofEvents_one (i:Nat) (fn:FuncId) (pos:String) (e:Event):MemOp.ofEvents i fn pos #[e]=#[{g:=i,fn,pos,act:=.ofEvent e}]:=by rw [ofEvents_eq];simp
variable {k:Nat}
theorem zc (T:aC P C b o ae Fin who rel ρ q gs w t) (b9:C.on) (hk:k=o\/k=o+1):∀x j,(x=b/\j=k)->bS C x j:=fun x j ⟨h1,h2⟩=>.inl ((T.yk _).2 ⟨b9,by subst h1 h2;exact hk.imp (fun e=>by rw [e]) (fun e=>by rw [e])⟩)
variable {g:O'}
theorem aC.Lm (T:aC P C b o ae Fin who rel ρ q gs w t) (hA:∀g w,ae g w->g.status=.running) (hS:bO ρ gs w) (hi:gs[i]?=some g) (hr:ρ i=.done) (iq:0<i) (h:AtR0 P C b o i g w):fp P C b o ae Fin who rel ρ q gs w sl t i:=by
 have hlt:i<gs.size:=(cI hi)
 have b9:C.on:=T.jw (i:=i) (by rw [hr];exact id)
 have nT:∀d,ρ i≠.quit d:=by rw [hr];simp
 obtain ⟨_,g',hgo,m,iJ⟩:=h
 have hu:MemOp.ofEvents i g.frame.fn g.frame.place #[mh (.releaseMerge ⟨b,o,none⟩)]=#[{g:=i,fn:=g.frame.fn,pos:=g.frame.place,act:=.mark (.releaseMerge C.ad)}]:=by rw [ofEvents_one,T.ad];rfl
 have hl:(fun x=>(ρ x).loose=true/\x≠i)=fun j=>(upd ρ i .rel j).loose=true:=by
  funext x
  by_cases e:x=i
  ·subst e;rw [O_];simp [aX.loose]
  ·rw [P_ _ _ e];simp [e]
 have hd:(fun x=>(ρ x).dd)=fun j=>(upd ρ i .rel j).dd:=by
  funext x
  by_cases e:x=i
  ·subst e;rw [O_,hr];rfl
  ·rw [P_ _ _ e]
 have key:∀who',((who'=who/\who≠some i)\/(who'=none/\who=some i))->(∀x,Acc who rel t x->Acc who' (fun p=>rel p\/p=t.size) (t++MemOp.ofEvents i g.frame.fn g.frame.place #[mh (.releaseMerge ⟨b,o,none⟩)]) x)->fp P C b o ae Fin who rel ρ q gs w sl t i:=by
  intro who' oE hK
  refine T.moves hA hS (w':=w) (r':=.rel) (n':=m) (who':=who') (bZ:=fun p=>rel p\/p=t.size) hi (by rw [hr];rfl) (by rw [dh iq];exact hgo) (Out.refl _ _) (fun j _=>RB.refl j w) (fun p h e=>by cases e) (fun p h e=>by cases e) rfl (oE.imp And.left id) (fun _=>.inr (oE.elim (fun h=>.inr h.2) fun h=>.inl h.1)) ⟨iq,iJ⟩ ?_ (.inr ⟨b9,nT⟩) ?_ (by rw [hr];exact Nat.le_refl _) (.inr (by rw [hr];exact fun p h e=>by cases e)) (by rw [hr];exact .inr (.inl ⟨rfl,rfl⟩)) (fun _ _ h=>.inl h) (fun e=>by omega) (fun q' h1 h2=>jG hlt (by rw [hr];simp [aX.fW]))
  ·have:=(T.tr.release (u:=MemOp.ofEvents i g.frame.fn g.frame.place #[mh (.releaseMerge ⟨b,o,none⟩)]) (g:=i) hK (by rw [hr];rfl) g.frame.fn g.frame.place hu).1
   rw [hl,hd] at this
   exact this
  ·exact fun c=>(T.wg c).dG hlt (.inl (by omega)) (by rw [hr];rfl) (by rw [hr];rfl) (.inr rfl)
 by_cases hw:who=some i
 ·refine key none (.inr ⟨rfl,hw⟩) fun x hx=> ?_
  rw [hw] at hx
  refine ⟨t.size,.inr rfl, ?_⟩
  rw [hu]
  exact Fj hx rfl
 ·exact key who (.inl ⟨rfl,hw⟩) fun x hx=>Acc.app (fun p hp=>.inl hp) hx
theorem aC.MC (T:aC P C b o ae Fin who rel ρ q gs w t) (hA:∀g w,ae g w->g.status=.running) (hS:bO ρ gs w) (hi:gs[i]?=some g) (hr:ρ i=.rel) (iq:0<i) (h:AtK1 P C b o i g w):fp P C b o ae Fin who rel ρ q gs w sl t i:=by
 have hlt:i<gs.size:=(cI hi)
 have b9:C.on:=T.jw (i:=i) (by rw [hr];exact id)
 have nT:∀d,ρ i≠.quit d:=by rw [hr];simp
 obtain ⟨_,g',hgo,m,iJ⟩:=h
 refine T.moves hA hS (w':=w) (r':=.deaf) (n':=m) (who':=who) (bZ:=rel) hi (by rw [hr];rfl) (by rw [dh iq];exact hgo) (Out.refl _ _) (fun j _=>RB.refl j w) (fun p h e=>by cases e) (fun p h e=>by cases e) rfl (.inl rfl) (by rw [hr];exact fun e=>by cases e) ⟨iq,iJ⟩ ?_ (.inr ⟨b9,nT⟩) ?_ (by rw [hr];simp [aX.count]) (.inr (by rw [hr];exact fun p h e=>by cases e)) (by rw [hr];exact .inr (.inl ⟨rfl,rfl⟩)) (fun _ _ h=>.inl h) (fun e=>by omega) (fun q' h1 h2=>jG hlt (by rw [hr];simp [aX.fW]))
 ·refine T.jS (H:=False) _ _ (by rw [hr];rfl) (by rw [hr];rfl) (fun k e he=> ?_) (fun h=>h.elim)
  obtain rfl:e=mh .disable:=by simpa using l_ he
  exact ⟨.mute rfl,by simp [mh]⟩
 ·exact fun c=>(T.wg c).dG hlt (.inl (by omega)) (by rw [hr];rfl) (by rw [hr];rfl) (.inr rfl)
variable {d:Nat}
theorem aC.Jp (T:aC P C b o ae Fin who rel ρ q gs w t) (hA:∀g w,ae g w->g.status=.running) (hS:bO ρ gs w) (hi:gs[i]?=some g) (hr:ρ i=.quit d) (hrun:g.status=.running):fp P C b o ae Fin who rel ρ q gs w sl t i:=by
 have hlt:i<gs.size:=(cI hi)
 have aM:=T.eD i g hi
 rw [hr] at aM
 obtain ⟨iq,hq⟩:=aM
 cases hn:q i with
 |zero=>rw [hn] at hq;rw [hq.1] at hrun;cases hrun
 |succ k=>
  rw [hn] at hq
  rcases hq with ⟨hf,_⟩|⟨_,g',es,hm,hst,Sw⟩
  ·rw [hf] at hrun;cases hrun
  refine T.moves hA hS (w':=w) (r':=.quit (deafBehind d es)) (n':=k) (who':=who) (bZ:=rel) hi (by rw [hr];rfl) (by rw [dh iq];exact hst w) (Out.refl _ _) (fun j _=>RB.refl j w) (fun p h e=>by cases e) (fun p h e=>by cases e) rfl (.inl rfl) (by rw [hr];exact fun e=>by cases e) ⟨iq,Sw⟩ ?_ (.inl ⟨⟨d,hr⟩,⟨_,rfl⟩,rfl⟩) ?_ (by rw [hr];simp [aX.count]) (.inr (by rw [hr];exact fun p h e=>by cases e)) (by rw [hr];exact .inr (.inl ⟨rfl,rfl⟩)) (fun _ _ h=>.inl h) (fun e=>by omega) (fun q' h1 h2=>AH hlt (by rw [hr];rfl) (by simp [aX.fW]) (by omega) h2)
  ·refine T.jS (H:=False) _ _ (by rw [hr];rfl) (by rw [hr];rfl) (fun j e he=> ?_) (fun h=>h.elim)
   have:=hm e (l_ he)
   refine ⟨.mute (touch_mute this),fun x hl=> ?_⟩
   obtain ⟨loc,wr,sy⟩:=e
   simp only at hl
   subst hl
   simp [Event.mute] at this
  ·exact fun c=>(T.wg c).dG hlt (.inl (by omega)) (by rw [hr];rfl) (by rw [hr];rfl) (.inr rfl)
variable {r':aX}
theorem rW (h:∀j,(ρ j).isLast=false) (hr:r'.isLast=false):∀j,(upd ρ i r' j).isLast=false:=fun j=>by
 by_cases e:j=i
 ·subst e;rw [O_];exact hr
 ·rw [P_ _ _ e];exact h j
theorem aC.Lq (T:aC P C b o ae Fin who rel ρ q gs w t) (hA:∀g w,ae g w->g.status=.running) (hS:bO ρ gs w) (hi:gs[i]?=some g) (hr:ρ i=.deaf) (iq:0<i) (h:AtD1 P C b o i g w):fp P C b o ae Fin who rel ρ q gs w sl t i:=by
 have hlt:i<gs.size:=(cI hi)
 have b9:C.on:=T.jw (i:=i) (by rw [hr];exact id)
 have nT:∀d,ρ i≠.quit d:=by rw [hr];simp
 have hc:0<cnt ρ gs.size:=Bn hlt (by rw [hr];exact Nat.one_pos)
 obtain ⟨v,hv⟩:∃v,cnt ρ gs.size=v+1:=⟨cnt ρ gs.size - 1,by omega⟩
 have U3:=T.few
 have h0:(0:Nat)≠i:=by omega
 have my:(ρ 0=.wait .w3/\(∀j,(ρ j).isLast=false)/\cx b o w ((v+1:Nat) * KK+(1:Nat)) 0)\/((∀s,ρ 0=.wait s->s≠.w3/\s≠.w4/\s≠.w5/\s≠.w6)/\(∀j,(ρ j).isLast=false)/\cx b o w ((v+1:Nat) * KK+(0:Nat)) 0):=by
  have hw:=T.wg b9
  unfold dy at hw
  split at hw<;>rename_i e
  ·rcases hw with ⟨h1,⟨h2,h3⟩|⟨h2,_⟩⟩|⟨h2,_⟩
   ·refine .inl ⟨e,h1, ?_⟩
    rw [hv] at h3
    simpa using h3
   ·omega
   ·omega
  ·omega
  ·omega
  ·omega
  ·rename_i e1 e2 e3
   refine .inr ⟨fun s hs=>⟨?_, ?_, ?_, ?_⟩,hw.1, ?_⟩
   ·rintro rfl;exact e1 hs
   ·rintro rfl;exact e2 hs
   ·rintro rfl;exact e3 hs
   ·rintro rfl;exact e hs
   ·have:=hw.2
    rw [hv] at this
    simpa using this
 have jW:∀r':aX,r'.count=0->cnt (upd ρ i r') gs.size=v:=fun r' sX=>by
  have:=kL (ρ:=ρ) r' hlt
  rw [hr] at this
  simp only [show aX.deaf.count=1 from rfl,sX] at this
  omega
 have AV:∀r':aX,r'.loose=false->r'.dd=1->Tr C (fun j=>(upd ρ i r' j).loose=true) rel gs.size (fun j=>(upd ρ i r' j).dd) (Acc who rel (t++MemOp.ofEvents i g.frame.fn g.frame.place #[mF ⟨b,o,none⟩,vT ⟨b,o,none⟩])) (t++MemOp.ofEvents i g.frame.fn g.frame.place #[mF ⟨b,o,none⟩,vT ⟨b,o,none⟩]):=fun r' h1 h2=>by
  refine T.jS (H:=False) _ _ (by rw [hr,h1];rfl) (by rw [hr,h2];simp [deafBehind,aX.dd,mF,vT]) (fun k e he=> ?_) (fun h=>h.elim)
  match k,he with
  |0,he=>
   obtain rfl:mF ⟨b,o,none⟩=e:=by simpa using he
   exact ⟨ji T b9 (T.fX nT) hi (.inl rfl) false (.inr (mG T (by simp) (by rw [hr];simp [deafBehind,aX.dd]))) _ _ _,by simp [mF]⟩
  |1,he=>
   obtain rfl:vT ⟨b,o,none⟩=e:=by simpa using he
   exact ⟨ji T b9 (T.fX nT) hi (.inl rfl) true (.inr (mG T (by simp) (by rw [hr];simp [deafBehind,aX.dd,mF]))) _ _ _,by simp [vT]⟩
  |k+2,he=>simp at he
 obtain ⟨_,hD⟩:=h
 have go:∀(wt:Nat) (r':aX) (n':Nat) (g':O'),stepG P false g w=.go g' (w.setCell ⟨b,o,none⟩ (.int .u64 (v * KK+wt))) #[mF ⟨b,o,none⟩,vT ⟨b,o,none⟩]->cx b o w ((v+1:Nat) * KK+wt) 0->r'.loose=false->r'.dd=1->r'.count=0->r'.isSelf=false->r'.leaving=true->r'.fW<5->
  fx P C b o ae Fin i r' n' g' (w.setCell ⟨b,o,none⟩ (.int .u64 (v * KK+wt)))->dy b o (upd ρ i r') gs.size (w.setCell ⟨b,o,none⟩ (.int .u64 (v * KK+wt)))->fp P C b o ae Fin who rel ρ q gs w sl t i:=by
  intro wt r' n' g' hgo hw h1 h2 h3 h4 h5 h6 aM cK
  have gC:=hw.setSt (v * KK+wt)
  refine T.moves hA hS (r':=r') (n':=n') (who':=who) (bZ:=rel) hi (by rw [hr];rfl) (by rw [dh iq];exact hgo) ((gH w b o _).mono (zc T b9 (.inl rfl))) (fun j _=>T.tq b9 (.inl rfl) ⟨_,_,gC⟩ j) (fun p h e=>by rw [e] at h1;cases h1) (fun p h e=>by rw [e] at h1;cases h1) h4 (.inl rfl) (by rw [hr];exact fun e=>by cases e) aM (AV r' h1 h2) (.inr ⟨b9,nT⟩) (fun _=>cK) (by rw [h3];exact Nat.zero_le _) (.inr (by rw [hr];exact fun p h e=>by cases e)) (by rw [hr];exact .inr (.inl ⟨rfl,h5⟩)) (fun _ _ h=> ?_) (fun e=>by omega) (fun q' _ _=>jG hlt (by rw [hr];exact h6))
  have:=(gC.uniq h).2
  omega
 rcases my with ⟨e3,rp,hw⟩|⟨lu,rp,hw⟩
 ·obtain ⟨g',hgo,hy,hn⟩:=hD v 1 (by omega) (by omega) hw
  by_cases BG:v=0
  ·obtain ⟨m,hm⟩:=hy ⟨BG,rfl⟩
   refine go 1 .ky m g' hgo hw rfl rfl rfl rfl rfl (by simp [aX.fW]) ⟨iq,hm⟩ ?_
   have gC:=hw.setSt (v * KK+(1:Nat))
   unfold dy
   rw [P_ _ _ h0,e3]
   refine .inr ⟨by rw [jW _ rfl];exact BG,i,fun j hj=> ?_,.inl ⟨.inl (O_ _ _ _), ?_⟩⟩
   ·by_cases e:j=i
    ·exact e
    ·rw [P_ _ _ e,rp j] at hj;cases hj
   ·subst BG;simpa using gC
  ·obtain ⟨m,hm⟩:=hn (fun h=>BG h.1)
   refine go 1 (.quit 1) m g' hgo hw rfl rfl rfl rfl rfl (by simp [aX.fW]) ⟨iq,hm⟩ ?_
   have gC:=hw.setSt (v * KK+(1:Nat))
   unfold dy
   rw [P_ _ _ h0,e3]
   refine .inl ⟨rW rp rfl,.inl ⟨by rw [jW _ rfl];omega, ?_⟩⟩
   rw [jW _ rfl];simpa using gC
 ·obtain ⟨g',hgo,_,hn⟩:=hD v 0 (by omega) (by omega) hw
  obtain ⟨m,hm⟩:=hn (fun h=>by omega)
  refine go 0 (.quit 1) m g' hgo hw rfl rfl rfl rfl rfl (by simp [aX.fW]) ⟨iq,hm⟩ ?_
  have gC:=hw.setSt (v * KK+(0:Nat))
  unfold dy
  rw [P_ _ _ h0]
  split<;>rename_i e
  ·exact absurd rfl (lu _ e).1
  ·exact absurd rfl (lu _ e).2.1
  ·exact absurd rfl (lu _ e).2.2.1
  ·exact absurd rfl (lu _ e).2.2.2
  ·refine ⟨rW rp rfl, ?_⟩
   rw [jW _ rfl];simpa using gC
theorem aC.Ew (T:aC P C b o ae Fin who rel ρ q gs w t) (hl:(ρ i).isLast=true):ρ 0=.wait .w3/\cnt ρ gs.size=0/\(∀j,(ρ j).isLast=true->j=i)/\((ρ i=.ky\/ρ i=.kx)/\cx b o w 1 0\/ρ i=.ku/\cx b o w 0 0):=by
 have b9:C.on:=T.jw (i:=i) (fun h=>by cases hx:ρ i<;>rw [hx] at hl h<;>first|(cases hl;done)|exact h)
 have hw:=T.wg b9
 unfold dy at hw
 split at hw<;>rename_i e
 ·rcases hw with ⟨h1,_⟩|⟨h2,j,h3,h4⟩
  ·rw [h1 i] at hl;cases hl
  ·have:=h3 i hl
   subst this
   exact ⟨e,h2,h3,h4⟩
 ·rw [hw.1 i] at hl;cases hl
 ·rw [hw.1 i] at hl;cases hl
 ·rw [hw.1 i] at hl;cases hl
 ·rw [hw.1 i] at hl;cases hl
theorem js {n:Nat} (hlt:i<n) (h:r'.count=(ρ i).count):cnt (upd ρ i r') n=cnt ρ n:=by
 have:=kL (ρ:=ρ) r' hlt
 rw [h] at this;omega
theorem aC.Hv (T:aC P C b o ae Fin who rel ρ q gs w t) (hA:∀g w,ae g w->g.status=.running) (hS:bO ρ gs w) (hi:gs[i]?=some g) (hr:ρ i=.ky) (iq:0<i) (h:AtD2 P C b o i g w):fp P C b o ae Fin who rel ρ q gs w sl t i:=by
 have hlt:i<gs.size:=(cI hi)
 have b9:C.on:=T.jw (i:=i) (by rw [hr];exact id)
 have nT:∀d,ρ i≠.quit d:=by rw [hr];simp
 obtain ⟨h3,hc,hu,pv⟩:=T.Ew (i:=i) (by rw [hr];rfl)
 have hw:cx b o w 1 0:=by
  rcases pv with ⟨_,h⟩|⟨h,_⟩
  ·exact h
  ·rw [hr] at h;cases h
 obtain ⟨_,hD⟩:=h
 obtain ⟨g',hgo,m,hm⟩:=hD hw
 refine T.moves hA hS (w':=w) (r':=.kx) (n':=m) (who':=who) (bZ:=rel) hi (by rw [hr];rfl) (by rw [dh iq];exact hgo) (Out.refl _ _) (fun j _=>RB.refl j w) (fun p h e=>by cases e) (fun p h e=>by cases e) rfl (.inl rfl) (by rw [hr];exact fun e=>by cases e) ⟨iq,hm⟩ ?_ (.inr ⟨b9,nT⟩) ?_ (by rw [hr];simp [aX.count]) (.inr (by rw [hr];exact fun p h e=>by cases e)) (by rw [hr];exact .inr (.inl ⟨rfl,rfl⟩)) (fun _ _ h=>.inl h) (fun e=>by omega) (fun q' _ _=>jG hlt (by rw [hr];simp [aX.fW]))
 ·refine T.jS (H:=False) _ _ (by rw [hr];rfl) (by rw [hr];simp [deafBehind,aX.dd,mF]) (fun k e he=> ?_) (fun h=>h.elim)
  match k,he with
  |0,he=>
   obtain rfl:mF ⟨b,o,none⟩=e:=by simpa using he
   exact ⟨ji T b9 (T.fX nT) hi (.inl rfl) false (.inr (mG T (by simp) (by rw [hr];simp [deafBehind,aX.dd]))) _ _ _,by simp [mF]⟩
  |k+1,he=>simp at he
 ·intro _
  unfold dy
  rw [P_ _ _ (by omega),h3]
  refine .inr ⟨(js hlt (by rw [hr];rfl)).trans hc,i,fun j hj=> ?_,.inl ⟨.inr (O_ _ _ _),hw⟩⟩
  by_cases e:j=i
  ·exact e
  ·rw [P_ _ _ e] at hj;exact hu j hj
theorem aC.Hu (T:aC P C b o ae Fin who rel ρ q gs w t) (hA:∀g w,ae g w->g.status=.running) (hS:bO ρ gs w) (hi:gs[i]?=some g) (hr:ρ i=.kx) (iq:0<i) (h:AtD3 P C b o i g w):fp P C b o ae Fin who rel ρ q gs w sl t i:=by
 have hlt:i<gs.size:=(cI hi)
 have b9:C.on:=T.jw (i:=i) (by rw [hr];exact id)
 have nT:∀d,ρ i≠.quit d:=by rw [hr];simp
 obtain ⟨h3,hc,hu,pv⟩:=T.Ew (i:=i) (by rw [hr];rfl)
 have hw:cx b o w 1 0:=by
  rcases pv with ⟨_,h⟩|⟨h,_⟩
  ·exact h
  ·rw [hr] at h;cases h
 obtain ⟨_,hD⟩:=h
 obtain ⟨g',hgo,m,hm⟩:=hD hw
 have gC:=hw.setSt 0
 refine T.moves hA hS (r':=.ku) (n':=m) (who':=who) (bZ:=rel) hi (by rw [hr];rfl) (by rw [dh iq];exact hgo) ((gH w b o _).mono (zc T b9 (.inl rfl))) (fun j _=>T.tq b9 (.inl rfl) ⟨_,_,gC⟩ j) (fun p h e=>by cases e) (fun p h e=>by cases e) rfl (.inl rfl) (by rw [hr];exact fun e=>by cases e) ⟨iq,hm⟩ ?_ (.inr ⟨b9,nT⟩) ?_ (by rw [hr];simp [aX.count]) (.inr (by rw [hr];exact fun p h e=>by cases e)) (by rw [hr];exact .inr (.inl ⟨rfl,rfl⟩)) (fun _ _ h=>by have:=(gC.uniq h).2;omega) (fun e=>by omega) (fun q' _ _=>jG hlt (by rw [hr];simp [aX.fW]))
 ·refine T.jS (H:=False) _ _ (by rw [hr];rfl) (by rw [hr];simp [deafBehind,aX.dd,vT]) (fun k e he=> ?_) (fun h=>h.elim)
  match k,he with
  |0,he=>
   obtain rfl:vT ⟨b,o,none⟩=e:=by simpa using he
   exact ⟨ji T b9 (T.fX nT) hi (.inl rfl) true (.inr (mG T (by simp) (by rw [hr];simp [deafBehind,aX.dd]))) _ _ _,by simp [vT]⟩
  |k+1,he=>simp at he
 ·intro _
  unfold dy
  rw [P_ _ _ (by omega),h3]
  refine .inr ⟨(js hlt (by rw [hr];rfl)).trans hc,i,fun j hj=> ?_,.inr ⟨O_ _ _ _,gC⟩⟩
  by_cases e:j=i
  ·exact e
  ·rw [P_ _ _ e] at hj;exact hu j hj
theorem FD (T:aC P C b o ae Fin who rel ρ q gs w t) (b9:C.on) (nT:∀d,ρ i≠.quit d) (hi:gs[i]?=some g) (hd:(ρ i).dd=1) (fn:FuncId) (pos:String) (k:Nat) (e:Event) (he:(semEvents ⟨b,o+1,none⟩)[k]?=some e):
 qP C (fun j=>(ρ j).loose=true) gs.size i False ((t++MemOp.ofEvents i fn pos (semEvents ⟨b,o+1,none⟩)).heard (t.size+k)) {g:=i,fn,pos,act:=.ofEvent e}/\∀x,e.loc≠.mark (.release x):=by
 match k,he with
 |0,he=>obtain rfl:mh .disable=e:=by simpa [semEvents,mh] using he
        exact ⟨.mute rfl,by simp [mh]⟩
 |1,he=>obtain rfl:mF ⟨b,o+1,none⟩=e:=by simpa [semEvents,mF] using he
        exact ⟨ji T b9 (T.fX nT) hi (.inr rfl) false (.inr (mG T (by simp [semEvents]) (by rw [hd];simp [deafBehind,semEvents]))) _ _ _,by simp [mF]⟩
 |2,he=>obtain rfl:vT ⟨b,o+1,none⟩=e:=by simpa [semEvents,vT] using he
        exact ⟨ji T b9 (T.fX nT) hi (.inr rfl) true (.inr (mG T (by simp [semEvents]) (by rw [hd];simp [deafBehind,semEvents]))) _ _ _,by simp [vT]⟩
 |3,he=>obtain rfl:mh .enable=e:=by simpa [semEvents,mh] using he
        exact ⟨.mute rfl,by simp [mh]⟩
 |k+4,he=>simp [semEvents] at he
theorem aC.Ht (T:aC P C b o ae Fin who rel ρ q gs w t) (hA:∀g w,ae g w->g.status=.running) (hS:bO ρ gs w) (hi:gs[i]?=some g) (hr:ρ i=.ku) (iq:0<i) (h:AtD4 P b o g w):fp P C b o ae Fin who rel ρ q gs w sl t i:=by
 have hlt:i<gs.size:=(cI hi)
 have b9:C.on:=T.jw (i:=i) (by rw [hr];exact id)
 have nT:∀d,ρ i≠.quit d:=by rw [hr];simp
 obtain ⟨h3,hc,hu,pv⟩:=T.Ew (i:=i) (by rw [hr];rfl)
 have hw:cx b o w 0 0:=by
  rcases pv with ⟨h,_⟩|⟨_,h⟩
  ·rw [hr] at h;rcases h with h|h<;>cases h
  ·exact h
 obtain ⟨_,QP,hD⟩:=h
 obtain ⟨g',xw,hgo,m,hm⟩:=hD hw
 have gC:=hw.setSm 1
 refine T.moves hA hS (r':=.quit 1) (n':=m) (who':=who) (bZ:=rel) hi (by rw [hr];rfl) (by rw [dh iq];exact hgo) ((gH w b (o+1) _).mono (zc T b9 (.inr rfl))) (fun j _=>T.tq b9 (.inr rfl) ⟨_,_,gC⟩ j) (fun p h e=>by cases e) (fun p h e=>by cases e) rfl (.inl rfl) (by rw [hr];exact fun e=>by cases e) ⟨iq,hm⟩ ?_ (.inr ⟨b9,nT⟩) ?_ (by rw [hr];simp [aX.count]) (.inr (by rw [hr];exact fun p h e=>by cases e)) (by rw [hr];exact .inr (.inl ⟨rfl,rfl⟩)) (fun _ _ _=>.inr ⟨QP,xw⟩) (fun e=>by omega) (fun q' _ _=>jG hlt (by rw [hr];simp [aX.fW]))
 ·exact T.jS (H:=False) _ _ (by rw [hr];rfl) (by rw [hr];simp [deafBehind,aX.dd,semEvents]) (FD T b9 nT hi (by rw [hr];rfl) _ _) (fun h=>h.elim)
 ·intro _
  unfold dy
  rw [P_ _ _ (by omega),h3]
  refine .inl ⟨fun j=> ?_,.inr ⟨(js hlt (by rw [hr];rfl)).trans hc,gC⟩⟩
  by_cases e:j=i
  ·subst e;rw [O_];rfl
  ·rw [P_ _ _ e]
   cases hj:(ρ j).isLast with
   |false=>rfl
   |true=>exact absurd (hu j hj) e
theorem aC.I6 (T:aC P C b o ae Fin who rel ρ q gs w t) (hA:∀g w,ae g w->g.status=.running) (hS:bO ρ gs w) {bp:O'} {p:Port} {home:O'->J'->Prop} (hi:gs[i]?=some g) (hr:ρ i=.shut p home) (fH:gP P false p g bp) (hh:home bp w) (yH:∀(x:Nat) (y:O'),(ρ x).isSelf=true->gs[x]?=some y->offersAt y p.chan (!p.out)=[]):fp P C b o ae Fin who rel ρ q gs w sl t i:=by
 have hlt:i<gs.size:=(cI hi)
 have aM:=T.eD i g hi
 rw [hr] at aM
 obtain ⟨iq,_,⟨c,z,ok,rfl,Uq⟩,_⟩:=aM
 obtain ⟨k,hc⟩:=T.shuts i _ home hr
 obtain ⟨m,hm⟩:=Uq bp w hh
 have hst:stepG P (i==0) g w=.comm bp #[rcase c z] true (.recv ok) w #[]:=by rw [dh iq];exact fH.2.2.2.2 w
 have hno:∀(x:Nat) (y:O'),(gs.setIfInBounds i ph)[x]?=some y->offersAt y c true=[]:=by
  intro x y hy
  rcases getElem?_stand gs i x y hy with ⟨_,rfl⟩|⟨hx,pg⟩
  ·exact offersAt_ph _ _
  ·cases hs:(ρ x).isSelf with
   |true=>exact yH x y hs pg
   |false=>
    refine T.Am hA pg hs fun p' h' e ec=> ?_
    obtain ⟨k',hc'⟩:=T.chans x p' h' e
    rw [ec] at hc'
    rw [show (Port.recv c z ok).chan=c from rfl,hc'] at hc
    cases hc
 have hrun:=crowd_recv_closed (sl:=sl) (blocking:=true) hi hst hc (partners_nil hno)
 rw [finishComm_recv] at hrun
 generalize hu:(MemOp.ofEvents i g.frame.fn g.frame.place #[]++#[({g:=i,fn:=bp.frame.fn,pos:=bp.frame.place,act:=.recvClosed c}:MemOp)]:Array MemOp)=u at hrun
 have OD:u=#[{g:=i,fn:=bp.frame.fn,pos:=bp.frame.place,act:=.recvClosed c}]:=by rw [<-hu,ofEvents_eq];simp
 have hq:∀j,∀op∈u,∀d,deafStep j d op=d:=by
  intro j op hop d
  subst OD
  simp only [List.mem_toArray,List.mem_cons,List.not_mem_nil,or_false] at hop
  subst hop;rfl
 have hmu:∀op∈u,op.act.touch?=none/\∀x,op.act≠.mark (.release x):=by
  intro op hop
  subst OD
  simp only [List.mem_toArray,List.mem_cons,List.not_mem_nil,or_false] at hop
  subst hop;exact ⟨rfl,by simp⟩
 have vC:gs.map (woken P g (parked g #[] .send) w)=gs:=by
  have:woken P g (parked g #[] .send) w=id:=by funext y;simp [woken,parked]
  rw [this,Array.map_id]
 have hdd:(fun j=>(upd ρ i .done j).dd)=fun j=>(ρ j).dd:=by
  funext j
  by_cases e:j=i
  ·subst e;rw [O_,hr];rfl
  ·rw [P_ _ _ e]
 have hcn:cnt (upd ρ i .done) gs.size=cnt ρ gs.size:=by
  have:=kL (ρ:=ρ) .done hlt
  rw [hr] at this
  simpa [aX.count] using this
 obtain ⟨q',T',h1,h2⟩:=T.step hA (a:=g) (a':=parked g #[] .send) (g':=Go.Conc.served bp (recvd ok z false)) (r':=.done) (n':=m) (who':=who) (bZ:=rel) (u:=u) hi (fun j _=>RB.refl j w) (Nat.le_refl _) (fun r ob h _ _=>h) (T.mO i)
  (fun p' h' e=>by cases e) (fun p' h' e=>by cases e) (fun j k d hj=>by
   by_cases e:j=i
   ·subst e;rw [O_] at hj;cases hj
   ·rw [P_ _ _ e] at hj;exact T.one j k d hj) (fun x hx=>by
   by_cases e:x=i
   ·subst e;rw [O_];exact .inr (.inr rfl)
   ·rw [P_ _ _ e];exact T.holder x hx) ⟨iq,hm⟩
  (by
   rw [pN (by rw [hr];rfl),hdd]
   exact T.tr.mute (fun op h=>(hmu op h).1) (fun i hi=>Acc.app (fun _ h=>h) hi) (fun j=>(Deaf_quiet (hq j)).trans (T.tr.deaf j)) (fun op h=>(hmu op h).2))
  (fun c=>(T.wg c).dG hlt (.inl (by omega)) (by rw [hr];rfl) (by rw [hr];rfl) (.inr rfl)) (fun c=>absurd (T.jw (i:=i) (by rw [hr];exact id)) c) (fun hd=>absurd hd (T.fX (by rw [hr];simp))) (by rw [hcn];exact T.few) (fun _ _ h=>.inl h) (fun e=>by omega)
 rw [vC] at T'
 refine ⟨_,w,_,upd ρ i .done,q',who,rel,hrun,by simp,T',jG hlt (by rw [hr];simp [aX.fW]),Out.refl _ _,Bu (by rw [hr];exact .inr (.inl ⟨rfl,rfl⟩)),fun _=>rfl,fun x hx=> ?_,h2,.inr fun p' h' e=>(by rw [hr] at e;cases e),fun hc=>by
  rcases hc i with h|⟨d,h⟩|h<;>rw [hr] at h<;>cases h⟩
 have TS:x≠i:=fun e=>by subst e;rw [hr] at hx;cases hx
 rw [Array.getElem?_setIfInBounds_ne (Ne.symm TS)]
theorem aC.VQ (T:aC P C b o ae Fin who rel ρ q gs w t) (hA:∀g w,ae g w->g.status=.running) (hS:bO ρ gs w) (hi:gs[i]?=some g) (lu:(ρ i).isSelf=false) (OM:∀s,ρ i≠.wait s) (hrun:g.status=.running)
 (yH:∀p home,(ρ i=.seat p home\/ρ i=.shut p home)->∀(x:Nat) (y:O'),(ρ x).isSelf=true->gs[x]?=some y->offersAt y p.chan (!p.out)=[]):fp P C b o ae Fin who rel ρ q gs w sl t i:=by
 have aM:=T.eD i g hi
 cases hr:ρ i with
 |self k d=>rw [hr] at lu;cases lu
 |seat p home=>exact T.RV hA hS hi hr hrun (yH p home (.inl hr))
 |none=>rw [hr] at aM;exact aM.elim
 |wait s=>exact absurd hr (OM s)
 |quit d=>exact T.Jp hA hS hi hr hrun
 |done=>
  rw [hr] at aM
  rcases aM.2.cases with dR|⟨n',hn,hst⟩
  ·exact T.Lm hA hS hi hr aM.1 (dR w (RB.refl i w))
  ·obtain ⟨g',w',es,hgo,hd,iJ⟩:=hst w (RB.refl i w)
   exact T.Mp hA hS (n':=n') hi (by rw [hr];rfl) (by omega) (by rw [dh aM.1];exact hgo) hd (by rw [hr];exact ⟨aM.1,iJ⟩) (.inr (by rw [hr];exact fun p h e=>by cases e))
 |shut p home=>
  rw [hr] at aM
  rcases aM.2.2.2.cases with dR|⟨n',hn,hst⟩
  ·obtain ⟨bp,fH,hh⟩:=dR w (RB.refl i w)
   exact T.I6 hA hS hi hr fH hh (yH p home (.inr hr))
  ·obtain ⟨g',w',es,hgo,hd,iJ⟩:=hst w (RB.refl i w)
   exact T.Mp hA hS (n':=n') hi (by rw [hr];rfl) (by omega) (by rw [dh aM.1];exact hgo) hd (by rw [hr];exact ⟨aM.1,aM.2.1,aM.2.2.1,iJ⟩) (.inr (by rw [hr];exact fun p h e=>by cases e))
 |rel=>
  rw [hr] at aM
  rcases aM.2.cases with dR|⟨n',hn,hst⟩
  ·exact T.MC hA hS hi hr aM.1 (dR w (RB.refl i w))
  ·obtain ⟨g',w',es,hgo,⟨rfl,rfl⟩,iJ⟩:=hst w (RB.refl i w)
   exact T.IM hA hS (n':=n') hi hr aM.1 (by simp [aX.fW]) rfl (fun _ _=>⟨(fun e=>by cases e),(fun e=>by cases e)⟩) (fun e=>by cases e) id (by omega) hgo ⟨aM.1,iJ⟩
 |deaf=>
  rw [hr] at aM
  rcases aM.2.cases with dR|⟨n',hn,hst⟩
  ·exact T.Lq hA hS hi hr aM.1 (dR w (RB.refl i w))
  ·obtain ⟨g',w',es,hgo,⟨rfl,rfl⟩,iJ⟩:=hst w (RB.refl i w)
   exact T.IM hA hS (n':=n') hi hr aM.1 (by simp [aX.fW]) rfl (fun _ _=>⟨(fun e=>by cases e),(fun e=>by cases e)⟩) (fun e=>by cases e) id (by omega) hgo ⟨aM.1,iJ⟩
 |ky=>
  rw [hr] at aM
  rcases aM.2.cases with dR|⟨n',hn,hst⟩
  ·exact T.Hv hA hS hi hr aM.1 (dR w (RB.refl i w))
  ·obtain ⟨g',w',es,hgo,⟨rfl,rfl⟩,iJ⟩:=hst w (RB.refl i w)
   exact T.IM hA hS (n':=n') hi hr aM.1 (by simp [aX.fW]) rfl (fun _ _=>⟨(fun e=>by cases e),(fun e=>by cases e)⟩) (fun e=>by cases e) id (by omega) hgo ⟨aM.1,iJ⟩
 |kx=>
  rw [hr] at aM
  rcases aM.2.cases with dR|⟨n',hn,hst⟩
  ·exact T.Hu hA hS hi hr aM.1 (dR w (RB.refl i w))
  ·obtain ⟨g',w',es,hgo,⟨rfl,rfl⟩,iJ⟩:=hst w (RB.refl i w)
   exact T.IM hA hS (n':=n') hi hr aM.1 (by simp [aX.fW]) rfl (fun _ _=>⟨(fun e=>by cases e),(fun e=>by cases e)⟩) (fun e=>by cases e) id (by omega) hgo ⟨aM.1,iJ⟩
 |ku=>
  rw [hr] at aM
  rcases aM.2.cases with dR|⟨n',hn,hst⟩
  ·exact T.Ht hA hS hi hr aM.1 (dR w (RB.refl i w))
  ·obtain ⟨g',w',es,hgo,⟨rfl,rfl⟩,iJ⟩:=hst w (RB.refl i w)
   exact T.IM hA hS (n':=n') hi hr aM.1 (by simp [aX.fW]) rfl (fun _ _=>⟨(fun e=>by cases e),(fun e=>by cases e)⟩) (fun e=>by cases e) id (by omega) hgo ⟨aM.1,iJ⟩
end
theorem lex_trans {α β:Type} {r:α->α->Prop} {s:β->β->Prop} (hr:∀a b c,r a b->r b c->r a c) (hs:∀a b c,s a b->s b c->s a c):∀a b c,Prod.Lex r s a b->Prod.Lex r s b c->Prod.Lex r s a c:=by
 rintro _ _ _ (⟨b1,b2,h1⟩|⟨a1,h1⟩) h
 ·cases h with
  |left _ _ h2=>exact .left _ _ (hr _ _ _ h1 h2)
  |right _ h2=>exact .left _ _ h1
 ·cases h with
  |left _ _ h2=>exact .left _ _ h2
  |right _ h2=>exact .right _ (hs _ _ _ h1 h2)
theorem Eu:∀a b c,Bz a b->Bz b c->Bz a c:=
 lex_trans (fun _ _ _=>Nat.lt_trans) (lex_trans (fun _ _ _=>Nat.lt_trans) (lex_trans (fun _ _ _=>Nat.lt_trans) (fun _ _ _=>Nat.lt_trans)))
section
variable {P:U'} {C:cS} {b o:Nat} {ae Fin:O'->J'->Prop} {who who':Option Nat} {rel bZ:Nat->Prop} {ρ:Nat->aX} {q:Nat->Nat} {gs:Array O'} {w w':J'} {t u:Trace} {sl:Option (Nat × Nat)}
def Tag.pre:Tag->Bool
 | .w0| .IQ| .w1| .w2 _=>true
 |_=>false
theorem rL {s:Tag} {n:Nat} (h0:ρ 0=.wait s) (hs:s.pre=true):dy b o ρ n w↔((∀j,(ρ j).isLast=false)/\cx b o w (cnt ρ n * KK) 0):=by
 unfold dy
 rw [h0]
 cases s<;>first|(cases hs;done)|exact Iff.rfl
variable {s':Tag} {n':Nat}
theorem AG {s:Tag} {q':Nat->Nat} {n:Nat} (hlt:0<n) (h0:ρ 0=.wait s) (h:jB (upd ρ 0 (.wait s')) n<jB ρ n\/(jB (upd ρ 0 (.wait s')) n=jB ρ n/\n'<q 0)) (h1:q' 0=n') (h2:∀j,j≠0->ρ j≠.wait .w3->q' j=q j):
 Bz (meas (upd ρ 0 (.wait s')) q' n) (meas ρ q n):=by
 have eA:wP (upd ρ 0 (.wait s')) n=wP ρ n:=by
  have:=tu (ρ:=ρ) (.wait s') hlt
  rw [h0] at this
  simpa [aX.fW] using this
 have eB:uw (upd ρ 0 (.wait s')) q' n=uw ρ q n:=sumTo_congr fun i _=>by
  by_cases e:i=0
  ·subst e;simp [O_,h0,aX.fW]
  ·rw [P_ _ _ e]
   by_cases hw:ρ i=.wait .w3
   ·simp [hw,aX.fW]
   ·rw [h2 i e hw]
 unfold meas
 rw [eA,eB]
 refine .right _ (.right _ ?_)
 rcases h with h|⟨h,hq⟩
 ·exact .left _ _ h
 ·rw [h]
  refine .right _ ?_
  simp only [Ob,O_,h0,h1]
  exact hq
variable {g g':O'} {es:Array Event}
theorem aC.oP (T:aC P C b o ae Fin who rel ρ q gs w t) (hA:∀g w,ae g w->g.status=.running) (hS:bO ρ gs w) {s:Tag} (hi:gs[0]?=some g) (hr:ρ 0=.wait s) (hgo:stepG P true g w=.go g' w es)
 (hd:deafBehind (aX.wait s).dd es=(aX.wait s').dd)
 (hm:∀(k:Nat) e,es[k]?=some e->(∀x,e.loc≠.mark (.release x))/\((MemAct.ofEvent e).touch?=none\/(e=mF ⟨b,o,none⟩)\/e=⟨.mark (.write ⟨b,o+1,none⟩),false,true⟩))
 (aM:GA P C b o ae Fin s' n' g' w) (my:C.on->dy b o (upd ρ 0 (.wait s')) gs.size w) (ES:s'=.w3->cx b o w 0 1->0<n')
 (Kt:jB (upd ρ 0 (.wait s')) gs.size<jB ρ gs.size\/(jB (upd ρ 0 (.wait s')) gs.size=jB ρ gs.size/\n'<q 0)):fp P C b o ae Fin who rel ρ q gs w sl t 0:=by
 have hlt:0<gs.size:=T.cX
 have b9:C.on:=T.jw (i:=0) (by rw [hr];exact id)
 have nT:∀d,ρ 0≠.quit d:=by rw [hr];simp
 refine T.moves hA hS (w':=w) (r':=.wait s') (n':=n') (who':=who) (bZ:=rel) hi (by rw [hr];rfl) hgo (Out.refl _ _) (fun j _=>RB.refl j w) (fun p h e=>by cases e) (fun p h e=>by cases e) rfl (.inl rfl) (by rw [hr];exact fun e=>by cases e) ⟨rfl,aM⟩ ?_ (.inr ⟨b9,nT⟩) my (Nat.zero_le _) (.inr (by rw [hr];exact fun p h e=>by cases e)) (by rw [hr];exact .inr (.inr ⟨_,_,rfl,rfl⟩)) (fun _ _ h=>.inl h) (fun _ e h=>by injection e with e;exact ES e h) (fun q' h1 h2=>AG hlt hr Kt h1 h2)
 refine T.jS (H:=False) _ _ (by rw [hr];rfl) (by rw [hr];exact hd) (fun k e he=> ?_) (fun h=>h.elim)
 obtain ⟨h1,h2⟩:=hm k e he
 refine ⟨?_,h1⟩
 rcases h2 with h2|rfl|rfl
 ·exact .mute h2
 ·exact ji T b9 (T.fX nT) hi (.inl rfl) false (.inl rfl) _ _ _
 ·exact .book (b:=⟨.cell ⟨b,o+1,none⟩,true,.said⟩) rfl hlt (T.fX nT) ((T.yk _).2 ⟨b9,.inr rfl⟩) (.inr ⟨rfl,rfl⟩)
theorem aC.kH (T:aC P C b o ae Fin who rel ρ q gs w t) (hA:∀g w,ae g w->g.status=.running) (hS:bO ρ gs w) {s:Tag} (hi:gs[0]?=some g) (hr:ρ 0=.wait s) (hgo:stepG P true g w=.go g' w es)
 (hes:∀e∈es,e=⟨.mark (.write ⟨b,o+1,none⟩),false,true⟩) (aM:GA P C b o ae Fin s n' g' w) (hn:n'<q 0) (ES:s=.w3->0<n'):fp P C b o ae Fin who rel ρ q gs w sl t 0:=by
 have hu:upd ρ 0 (.wait s)=ρ:=by
  funext j
  by_cases e:j=0
  ·subst e;rw [O_,hr]
  ·rw [P_ _ _ e]
 refine T.oP hA hS hi hr hgo (deafBehind_still (fun e he=>by rw [hes e he];exact ⟨by simp,by simp⟩) _) (fun k e he=> ?_) aM (by rw [hu];exact T.wg) (fun h _=>ES h) (.inr ⟨by rw [hu],hn⟩)
 have:=hes e (l_ he)
 subst this
 exact ⟨by simp,.inr (.inr rfl)⟩
theorem sN {n:Nat} {s:Tag} (hlt:0<n) (h0:ρ 0=.wait s):cnt (upd ρ 0 (.wait s')) n=cnt ρ n:=by
 have:=kL (ρ:=ρ) (.wait s') hlt
 rw [h0] at this
 simpa [aX.count] using this
theorem tP {s:Tag} (h0:ρ 0=.wait s) (h:∀j,(ρ j).isLast=false):∀j,(upd ρ 0 (.wait s') j).isLast=false:=rW h rfl
theorem vX {n:Nat} {s:Tag} (hlt:0<n) (h0:ρ 0=.wait s) (hs:s.pre=true) (xv:s'.pre=true) (h:dy b o ρ n w):dy b o (upd ρ 0 (.wait s')) n w:=by
 obtain ⟨h1,h2⟩:=(rL h0 hs).1 h
 exact (rL (O_ _ _ _) xv).2 ⟨tP h0 h1,by rw [sN hlt h0];exact h2⟩
theorem aC.PI (T:aC P C b o ae Fin who rel ρ q gs w t) (hA:∀g w,ae g w->g.status=.running) (hS:bO ρ gs w) (hi:gs[0]?=some g) (hr:ρ 0=.wait .w0) (h:AtKd P C b o ae g w):fp P C b o ae Fin who rel ρ q gs w sl t 0:=by
 obtain ⟨_,g',hgo,m,hm⟩:=h
 refine T.oP hA hS (s':=.IQ) (n':=m) hi hr hgo rfl (fun k e he=> ?_) hm (fun c=>vX T.cX hr rfl rfl (T.wg c)) (fun e=>by cases e) (.inl (by simp only [jB,O_,hr];omega))
 obtain rfl:e=mh .disable:=by simpa using l_ he
 exact ⟨by simp [mh],.inl rfl⟩
theorem aC.IU (T:aC P C b o ae Fin who rel ρ q gs w t) (hA:∀g w,ae g w->g.status=.running) (hS:bO ρ gs w) (hi:gs[0]?=some g) (hr:ρ 0=.wait .w1) (h:AtW1 P C b o ae Fin g w):fp P C b o ae Fin who rel ρ q gs w sl t 0:=by
 have b9:C.on:=T.jw (i:=0) (by rw [hr];exact id)
 have nT:∀d,ρ 0≠.quit d:=by rw [hr];simp
 obtain ⟨h1,h2⟩:=(rL hr rfl).1 (T.wg b9)
 have hf:=T.few
 obtain ⟨g',hgo,hz,Y8⟩:=h.2 (cnt ρ gs.size) (by omega) h2
 have uO:∀(k:Nat) e,(#[mF ⟨b,o,none⟩]:Array Event)[k]?=some e->(∀x,e.loc≠.mark (.release x))/\((MemAct.ofEvent e).touch?=none\/(e=mF ⟨b,o,none⟩)\/e=⟨.mark (.write ⟨b,o+1,none⟩),false,true⟩):=fun k e he=>by
  obtain rfl:e=mF ⟨b,o,none⟩:=by simpa using l_ he
  exact ⟨by simp [mF],.inr (.inl rfl)⟩
 by_cases hc:cnt ρ gs.size=0
 ·obtain ⟨m,hm⟩:=hz hc
  refine T.oP hA hS (s':=.w5) (n':=m) hi hr hgo (by simp [deafBehind,mF,aX.dd]) uO hm ?_ (fun e=>by cases e) (.inl (by simp only [jB,O_,hr];omega))
  intro _
  unfold dy
  rw [O_]
  rw [hc] at h2
  exact ⟨tP hr h1,(sN T.cX hr).trans hc,by simpa using h2⟩
 ·obtain ⟨m,hm⟩:=Y8 hc
  refine T.oP hA hS (s':=.w2 (cnt ρ gs.size)) (n':=m) hi hr hgo (by simp [deafBehind,mF,aX.dd]) uO ⟨by omega,hm⟩ (fun c=>vX T.cX hr rfl rfl (T.wg c)) (fun e=>by cases e) (.inl ?_)
  simp only [jB,O_,hr,sN T.cX hr,if_true]
  omega
theorem aC.PH (T:aC P C b o ae Fin who rel ρ q gs w t) (hA:∀g w,ae g w->g.status=.running) (hS:bO ρ gs w) {vs:Nat} (hi:gs[0]?=some g) (hr:ρ 0=.wait (.w2 vs)) (hvs:0<vs) (h:AtW2 P C b o ae Fin vs g w):fp P C b o ae Fin who rel ρ q gs w sl t 0:=by
 have b9:C.on:=T.jw (i:=0) (by rw [hr];exact id)
 have nT:∀d,ρ 0≠.quit d:=by rw [hr];simp
 obtain ⟨h1,h2⟩:=(rL hr rfl).1 (T.wg b9)
 have hf:=T.few
 obtain ⟨hy,hn⟩:=h.2 (cnt ρ gs.size) (by omega) h2
 by_cases hc:cnt ρ gs.size=vs
 ·obtain ⟨g',hgo,m,hm⟩:=hy hc
  have gC:=h2.setSt (cnt ρ gs.size * KK+1)
  refine T.moves hA hS (r':=.wait .w3) (n':=m+1) (who':=who) (bZ:=rel) hi (by rw [hr];rfl) hgo ((gH w b o _).mono (zc T b9 (.inl rfl))) (fun j _=>T.tq b9 (.inl rfl) ⟨_,_,gC⟩ j) (fun p h e=>by cases e) (fun p h e=>by cases e) rfl (.inl rfl) (by rw [hr];exact fun e=>by cases e) ⟨rfl,.inl ⟨m,rfl,hm⟩⟩ ?_ (.inr ⟨b9,nT⟩) ?_ (Nat.zero_le _) (.inr (by rw [hr];exact fun p h e=>by cases e)) (by rw [hr];exact .inr (.inr ⟨_,_,rfl,rfl⟩)) (fun h=>absurd rfl h) (fun _ _ _=>by omega) (fun q' h1 h2=>AG T.cX hr (.inl ?_) h1 h2)
  ·refine T.jS (H:=False) _ _ (by rw [hr];rfl) (by rw [hr];simp [deafBehind,aX.dd,mF,vT]) (fun k e he=> ?_) (fun h=>h.elim)
   match k,he with
   |0,he=>
    obtain rfl:mF ⟨b,o,none⟩=e:=by simpa using he
    exact ⟨ji T b9 (T.fX nT) hi (.inl rfl) false (.inl rfl) _ _ _,by simp [mF]⟩
   |1,he=>
    obtain rfl:vT ⟨b,o,none⟩=e:=by simpa using he
    exact ⟨ji T b9 (T.fX nT) hi (.inl rfl) true (.inl rfl) _ _ _,by simp [vT]⟩
   |k+2,he=>simp at he
  ·intro _
   unfold dy
   rw [O_]
   exact .inl ⟨tP hr h1,.inl ⟨by rw [sN T.cX hr];omega,by rw [sN T.cX hr];exact gC⟩⟩
  ·simp only [jB,O_,hr,hc,if_true];omega
 ·obtain ⟨g',hgo,m,hm⟩:=hn hc
  refine T.oP hA hS (s':=.IQ) (n':=m) hi hr hgo (by simp [deafBehind,mF,aX.dd]) (fun k e he=> ?_) hm (fun c=>vX T.cX hr rfl rfl (T.wg c)) (fun e=>by cases e) (.inl ?_)
  ·obtain rfl:e=mF ⟨b,o,none⟩:=by simpa using l_ he
   exact ⟨by simp [mF],.inr (.inl rfl)⟩
  ·simp only [jB,O_,hr,if_neg (Ne.symm hc)];omega
theorem aC.PG (T:aC P C b o ae Fin who rel ρ q gs w t) (hA:∀g w,ae g w->g.status=.running) (hS:bO ρ gs w) (hi:gs[0]?=some g) (hr:ρ 0=.wait .w3) (hq:0<q 0) (h:∀w₁,RB C b o 0 w w₁->AtW3 P C b o Fin g w₁):fp P C b o ae Fin who rel ρ q gs w sl t 0:=by
 have fH:=h w (RB.refl 0 w)
 have b9:C.on:=T.jw (i:=0) (by rw [hr];exact id)
 have nT:∀d,ρ 0≠.quit d:=by rw [hr];simp
 have hu:upd ρ 0 (.wait .w3)=ρ:=by
  funext j
  by_cases e:j=0
  ·subst e;rw [O_,hr]
  ·rw [P_ _ _ e]
 have jm:∀s,cx b o w s 0->fp P C b o ae Fin who rel ρ q gs w sl t 0:=fun s hw=>by
  refine T.oP hA hS (s':=.w3) (n':=0) hi hr (fH.2.2.1 ⟨s,hw⟩) rfl (fun k e he=>by simp at he) (.inr ⟨rfl,g,fH,rfl,h⟩) (by rw [hu];exact T.wg) (fun _ h01=> ?_) (.inr ⟨by rw [hu],hq⟩)
  have:=(hw.uniq h01).2
  omega
 have hw:=T.wg b9
 unfold dy at hw
 rw [hr] at hw
 rcases hw with ⟨hl,⟨_,hw⟩|⟨hc,hw⟩⟩|⟨_,i,_,⟨_,hw⟩|⟨_,hw⟩⟩
 ·exact jm _ hw
 ·obtain ⟨g',hgo,m,hm⟩:=fH.2.2.2 hw
  have gC:=hw.setSm 0
  refine T.moves hA hS (r':=.wait .w4) (n':=m) (who':=who) (bZ:=rel) hi (by rw [hr];rfl) hgo ((gH w b (o+1) _).mono (zc T b9 (.inr rfl))) (fun j _=>T.tq b9 (.inr rfl) ⟨_,_,gC⟩ j) (fun p h e=>by cases e) (fun p h e=>by cases e) rfl (.inl rfl) (by rw [hr];exact fun e=>by cases e) ⟨rfl,hm⟩ ?_ (.inr ⟨b9,nT⟩) ?_ (Nat.zero_le _) (.inr (by rw [hr];exact fun p h e=>by cases e)) (by rw [hr];exact .inr (.inr ⟨_,_,rfl,rfl⟩)) (fun h=>absurd rfl h) (fun _ e=>by cases e) (fun q' h1 h2=>AG T.cX hr (.inl ?_) h1 h2)
  ·exact T.jS (H:=False) _ _ (by rw [hr];rfl) (by rw [hr];simp [deafBehind,aX.dd,semEvents]) (FD T b9 nT hi (by rw [hr];rfl) _ _) (fun h=>h.elim)
  ·intro _
   unfold dy
   rw [O_]
   exact ⟨tP hr hl,(sN T.cX hr).trans hc,gC⟩
  ·simp only [jB,O_,hr];omega
 ·exact jm _ hw
 ·exact jm _ hw
theorem aC.PF (T:aC P C b o ae Fin who rel ρ q gs w t) (hA:∀g w,ae g w->g.status=.running) (hS:bO ρ gs w) (hi:gs[0]?=some g) (hr:ρ 0=.wait .w4) (h:AtW4 P C b o Fin g w):fp P C b o ae Fin who rel ρ q gs w sl t 0:=by
 have b9:C.on:=T.jw (i:=0) (by rw [hr];exact id)
 have nT:∀d,ρ 0≠.quit d:=by rw [hr];simp
 have hw:=T.wg b9
 unfold dy at hw
 rw [hr] at hw
 obtain ⟨g',hgo,m,hm⟩:=h.2 hw.2.2
 refine T.oP hA hS (s':=.w5) (n':=m) hi hr hgo (by simp [deafBehind,mF,aX.dd]) (fun k e he=> ?_) hm ?_ (fun e=>by cases e) (.inl (by simp only [jB,O_,hr];omega))
 ·obtain rfl:e=mF ⟨b,o,none⟩:=by simpa using l_ he
  exact ⟨by simp [mF],.inr (.inl rfl)⟩
 ·intro _
  unfold dy
  rw [O_]
  exact ⟨tP hr hw.1,(sN T.cX hr).trans hw.2.1,hw.2.2⟩
theorem aC.PE (T:aC P C b o ae Fin who rel ρ q gs w t) (hA:∀g w,ae g w->g.status=.running) (hS:bO ρ gs w) (hi:gs[0]?=some g) (hr:ρ 0=.wait .w5) (h:AtKe P C b o Fin g w):fp P C b o ae Fin who rel ρ q gs w sl t 0:=by
 have b9:C.on:=T.jw (i:=0) (by rw [hr];exact id)
 have nT:∀d,ρ 0≠.quit d:=by rw [hr];simp
 have hw:=T.wg b9
 unfold dy at hw
 rw [hr] at hw
 obtain ⟨_,g',hgo,m,hm⟩:=h
 refine T.oP hA hS (s':=.w6) (n':=m) hi hr hgo rfl (fun k e he=> ?_) hm ?_ (fun e=>by cases e) (.inl (by simp only [jB,O_,hr];omega))
 ·obtain rfl:e=mh .enable:=by simpa using l_ he
  exact ⟨by simp [mh],.inl rfl⟩
 ·intro _
  unfold dy
  rw [O_]
  exact ⟨tP hr hw.1,(sN T.cX hr).trans hw.2.1,hw.2.2⟩
theorem aC.Tn (T:aC P C b o ae Fin who rel ρ q gs w t) {m:Nat} (hi:gs[0]?=some g) (hr:ρ 0=.wait .IQ) (hm:Goes P true (RB C b o 0) (DW b o) (AtW1 P C b o ae Fin) m g w):aC P C b o ae Fin who rel (upd ρ 0 (.wait .w1)) (upd q 0 m) gs w t:=by
 have hlt:=T.cX
 refine ⟨T.ok,T.ad,T.yk,T.IB,fun j hj=> ?_,T.old,T.plain,T.CG,T.mO, ?_,fun i y hy=> ?_,fun i lE=> ?_,fun i p home e=> ?_,fun i j p p' h h' e e'=> ?_,fun i p home e=> ?_,fun i k d e=> ?_,fun x hx=> ?_,by rw [sN hlt hr];exact T.few,fun c=>vX hlt hr rfl rfl (T.wg c),fun c=>absurd (T.jw (i:=0) (by rw [hr];exact id)) c,hlt,fun e=>by rw [O_] at e;cases e⟩
 ·rw [P_ _ _ (fun e=>by subst e;obtain ⟨d,e⟩:=T.Ls _ hj;rw [hr] at e;cases e)]
  exact T.Ls j hj
 ·rw [pN (by rw [hr];rfl)]
  have:(fun j=>(upd ρ 0 (.wait .w1) j).dd)=fun j=>(ρ j).dd:=by
   funext j
   by_cases e:j=0
   ·subst e;rw [O_,hr];rfl
   ·rw [P_ _ _ e]
  rw [this];exact T.tr
 ·by_cases e:i=0
  ·subst e
   rw [hi] at hy;obtain rfl:=some_inj hy
   rw [O_,O_]
   exact ⟨rfl,hm⟩
  ·rw [P_ _ _ e,P_ _ _ e];exact T.eD i y hy
 ·rw [P_ _ _ (by omega)];exact T.above i lE
 ·by_cases e':i=0
  ·subst e';rw [O_] at e;cases e
  ·rw [P_ _ _ e'] at e;exact T.chans i p home e
 ·have h1:i≠0:=fun x=>by subst x;rw [O_] at e;cases e
  have h2:j≠0:=fun x=>by subst x;rw [O_] at e';cases e'
  rw [P_ _ _ h1] at e
  rw [P_ _ _ h2] at e'
  exact T.apart i j p p' h h' e e'
 ·have h1:i≠0:=fun x=>by subst x;rw [O_] at e;cases e
  rw [P_ _ _ h1] at e
  exact T.shuts i p home e
 ·have h1:i≠0:=fun x=>by subst x;rw [O_] at e;cases e
  rw [P_ _ _ h1] at e
  exact T.one i k d e
 ·by_cases e:x=0
  ·exact .inl e
  ·rw [P_ _ _ e];exact T.holder x hx
theorem aC.RU (T:aC P C b o ae Fin who rel ρ q gs w t) (hA:∀g w,ae g w->g.status=.running) (uQ:∀g w,ae g w->∃m,Goes P true (RB C b o 0) (DW b o) (AtW1 P C b o ae Fin) m g w) (hS:bO ρ gs w) {s:Tag} (hi:gs[0]?=some g) (hr:ρ 0=.wait s) (hrun:g.status=.running):
 fp P C b o ae Fin who rel ρ q gs w sl t 0\/(s=.w6/\AtAcq P b o Fin g w):=by
 have aM:=T.eD 0 g hi
 rw [hr] at aM
 have hW:=aM.2
 cases s with
 |w0=>
  left
  rcases Goes.cases (show Goes _ _ _ _ _ _ _ _ from hW) with dR|⟨n',hn,hst⟩
  ·exact T.PI hA hS hi hr (dR w (RB.refl 0 w))
  ·obtain ⟨g',w',es,hgo,⟨rfl,hes⟩,iJ⟩:=hst w (RB.refl 0 w)
   exact T.kH hA hS (n':=n') hi hr hgo hes iJ (by omega) (fun e=>by cases e)
 |IQ=>
  left
  rcases Goes.cases (show Goes _ _ _ _ _ _ _ _ from hW) with dR|⟨n',hn,hst⟩
  ·obtain ⟨m,hm⟩:=uQ g w (dR w (RB.refl 0 w))
   have T':=T.Tn hi hr hm
   have uh:bO (upd ρ 0 (.wait .w1)) gs w:=fun x y hx hy=>hS x y (by
    by_cases e:x=0
    ·subst e;rw [O_] at hx;cases hx
    ·rw [P_ _ _ e] at hx;exact hx) hy
   have key:fp P C b o ae Fin who rel (upd ρ 0 (.wait .w1)) (upd q 0 m) gs w sl t 0:=by
    rcases hm.cases with QA|⟨n',hn,hst⟩
    ·exact T'.IU hA uh hi (O_ _ _ _) (QA w (RB.refl 0 w))
    ·obtain ⟨g',w',es,hgo,⟨rfl,hes⟩,iJ⟩:=hst w (RB.refl 0 w)
     exact T'.kH hA uh (n':=n') hi (O_ _ _ _) hgo hes iJ (by rw [O_];omega) (fun e=>by cases e)
   obtain ⟨gs',w',ops,fT,q',who',bZ,k1,k2,k3,k4,k5,k6,k7,k8,k9,JU⟩:=key
   refine ⟨gs',w',ops,fT,q',who',bZ,k1,k2,k3,Eu _ _ _ k4 (AG T.cX hr (.inl ?_) (O_ _ _ _) (fun j hj _=>P_ _ _ hj)),k5,fun j=> ?_,fun ⟨x,hx⟩=>k7 ⟨x, ?_⟩,fun x hx=>k8 x ?_,fun j hj hw=>(k9 j hj (by rw [P_ _ _ hj];exact hw)).trans (P_ _ _ hj),.inr fun p home e=>(by rw [hr] at e;cases e),fun hc=>by
    rcases hc 0 with h|⟨d,h⟩|h<;>rw [hr] at h<;>cases h⟩
   ·simp only [jB,O_,hr];omega
   ·exact (Bu (ρ:=ρ) (i:=0) (r':=.wait .w1) (by rw [hr];exact .inr (.inr ⟨_,_,rfl,rfl⟩)) j).trans (k6 j)
   ·rw [P_ _ _ (fun e=>by subst e;rw [hr] at hx;cases hx)];exact hx
   ·rw [P_ _ _ (fun e=>by subst e;rw [hr] at hx;cases hx)];exact hx
  ·obtain ⟨g',w',es,hgo,⟨rfl,hes⟩,iJ⟩:=hst w (RB.refl 0 w)
   exact T.kH hA hS (n':=n') hi hr hgo hes iJ (by omega) (fun e=>by cases e)
 |w1=>
  left
  rcases Goes.cases (show Goes _ _ _ _ _ _ _ _ from hW) with dR|⟨n',hn,hst⟩
  ·exact T.IU hA hS hi hr (dR w (RB.refl 0 w))
  ·obtain ⟨g',w',es,hgo,⟨rfl,hes⟩,iJ⟩:=hst w (RB.refl 0 w)
   exact T.kH hA hS (n':=n') hi hr hgo hes iJ (by omega) (fun e=>by cases e)
 |w2 v=>
  left
  rcases Goes.cases hW.2 with dR|⟨n',hn,hst⟩
  ·exact T.PH hA hS hi hr hW.1 (dR w (RB.refl 0 w))
  ·obtain ⟨g',w',es,hgo,⟨rfl,hes⟩,iJ⟩:=hst w (RB.refl 0 w)
   exact T.kH hA hS (n':=n') hi hr hgo hes ⟨hW.1,iJ⟩ (by omega) (fun e=>by cases e)
 |w3=>
  left
  rcases hW with ⟨k,hk,hg⟩|⟨_,dN,_,rfl,_⟩
  ·rcases hg.cases with dR|⟨n',hn,hst⟩
   ·exact T.PG hA hS hi hr (by omega) dR
   ·obtain ⟨g',w',es,hgo,⟨rfl,hes⟩,iJ⟩:=hst w (RB.refl 0 w)
    exact T.kH hA hS (n':=n'+1) hi hr hgo hes (.inl ⟨n',rfl,iJ⟩) (by omega) (fun e=>by omega)
  ·cases hrun
 |w4=>
  left
  rcases Goes.cases (show Goes _ _ _ _ _ _ _ _ from hW) with dR|⟨n',hn,hst⟩
  ·exact T.PF hA hS hi hr (dR w (RB.refl 0 w))
  ·obtain ⟨g',w',es,hgo,⟨rfl,hes⟩,iJ⟩:=hst w (RB.refl 0 w)
   exact T.kH hA hS (n':=n') hi hr hgo hes iJ (by omega) (fun e=>by cases e)
 |w5=>
  left
  rcases Goes.cases (show Goes _ _ _ _ _ _ _ _ from hW) with dR|⟨n',hn,hst⟩
  ·exact T.PE hA hS hi hr (dR w (RB.refl 0 w))
  ·obtain ⟨g',w',es,hgo,⟨rfl,hes⟩,iJ⟩:=hst w (RB.refl 0 w)
   exact T.kH hA hS (n':=n') hi hr hgo hes iJ (by omega) (fun e=>by cases e)
 |w6=>
  rcases Goes.cases (show Goes _ _ _ _ _ _ _ _ from hW) with dR|⟨n',hn,hst⟩
  ·exact .inr ⟨rfl,dR w (RB.refl 0 w)⟩
  ·left
   obtain ⟨g',w',es,hgo,⟨rfl,hes⟩,iJ⟩:=hst w (RB.refl 0 w)
   exact T.kH hA hS (n':=n') hi hr hgo hes iJ (by omega) (fun e=>by cases e)
end
def Ends (P:U') (Post:Value->J'->Prop) (m:Machine) (t:Trace):Prop:=
 ∃N last o w' t',runNT P (N+1) m t=(.ended o w',t')/\runN P N m=.next last/\step P last=.ended o w'/\Good P Post last o w' t'
variable {P:U'} {Post:Value->J'->Prop} {m:Machine} {ops:Trace}
theorem Ends.step {m':Machine} {t:Trace} (h:stepT P m=(.next m',ops)) (k:Ends P Post m' (t++ops)):Ends P Post m t:=by
 obtain ⟨N,last,o,w',t',h1,h2,h3,h4⟩:=k
 refine ⟨N+1,last,o,w',t', ?_, ?_,h3,h4⟩
 ·rw [runNT];simp only [h];exact h1
 ·rw [runN];simp only [Go.step,h];exact h2
variable {w':J'}
theorem Ends.last {o:Outcome} {t:Trace} (h:stepT P m=(.ended o w',ops)) (k:Good P Post m o w' (t++ops)):Ends P Post m t:=
 ⟨0,m,o,w',t++ops,by simp only [runNT,h],rfl,by simp only [Go.step,h],k⟩
variable {R:J'->J'->Prop} {D:J'->J'->Array Event->Prop} {g:O'} {w:J'}
theorem Walk.mono {main:Bool} {D':J'->J'->Array Event->Prop} {Stop:O'->J'->Prop} (hD:∀w w' es,D w w' es->D' w w' es) (h:Walk P main R D Stop g w):Walk P main R D' Stop g w:=by
 induction h with
 |stop h=>exact .stop h
 |step ng nw ne hr h1 h2 ih=>exact .step ng nw ne hr (fun w₁ h₁=>⟨(h1 w₁ h₁).1,hD _ _ _ (h1 w₁ h₁).2⟩) ih
theorem Walk.vZ {P:U'} {main:Bool} {R:J'->J'->Prop} {D:J'->J'->Array Event->Prop} {Stop:O'->J'->Prop}:∀{n:Nat} {g:O'} {w:J'},Goes P main R D Stop n g w->Walk P main R D Stop g w
 |0,_,_,h=>.stop h
 |_+1,_,_,h=>h.elim .stop fun ⟨hs,h⟩=>Walk.gU hs fun w₁ h₁=>by
  obtain ⟨g',w',es,e,hd,hg⟩:=goes_elim (h w₁ h₁)
  exact ⟨g',w',es,e,hd,Walk.vZ hg⟩
structure DH (C:cS) (w w':J') (es:Array Event):Prop where
 Qe:Sd (bS C) (fy C) w w' es
 gz:∀r,(∃g,C.Pv g (.obj r)\/C.St g (.obj r))->w'.heap[r]?=w.heap[r]?
 WU:∀e∈es,∀r,e.loc=.obj r->∀g,¬C.Pv g (.obj r)/\(C.St g (.obj r)->e.write=false)
variable {es:Array Event}
theorem zC {C:cS} (hno:∀g r,¬C.Pv g (.obj r)/\¬C.St g (.obj r)) (h:Sd (bS C) (fy C) w w' es):DH C w w' es:=
 ⟨h,fun r ⟨g,hg⟩=>(hg.elim (fun x=>absurd x (hno g r).1) fun x=>absurd x (hno g r).2),fun _ _ r _ g=>⟨(hno g r).1,fun x=>absurd x (hno g r).2⟩⟩
section
variable {C:cS} {b o:Nat} {ae Fin:O'->J'->Prop} {who who':Option Nat} {rel bZ:Nat->Prop} {ρ:Nat->aX} {q:Nat->Nat} {gs:Array O'} {t u:Trace} {sl:Option (Nat × Nat)}
variable {i:Nat}
theorem zU {r:aX} (h:ρ i=r):upd ρ i r=ρ:=by
 funext j
 by_cases e:j=i
 ·subst e;rw [O_,h]
 ·rw [P_ _ _ e]
variable {h:Nat}
theorem AA (T:aC P C b o ae Fin who rel ρ q gs w t) {e:Event} {top:Nat} (he:EvM (bS C) (fy C) top e) (ho:∀r,e.loc=.obj r->∀g,¬C.Pv g (.obj r)/\(C.St g (.obj r)->e.write=false)) (heard:Prop) (fn:FuncId) (pos:String):
 qP C (fun j=>(ρ j).loose=true) gs.size h True heard {g:=h,fn,pos,act:=.ofEvent e}/\∀x,e.loc≠.mark (.release x):=by
 obtain ⟨loc,wr,sy⟩:=e
 unfold EvM at he
 cases loc with
 |cell a=>
  obtain ⟨h1,h2,h3,h4⟩:=he
  simp only at h1 h2 h3 h4
  subst h2
  have sp:∀g,C.Pv g (.cell a)\/C.St g (.cell a)->∃x k,a=⟨x,k,none⟩:=fun g hg=>by
   rcases T.plain g _ hg.symm with ⟨x,k,e⟩|⟨r,e⟩
   ·injection e with e;exact ⟨x,k,e⟩
   ·cases e
  refine ⟨.hold (b:=⟨.cell a,wr,.plain⟩) (by cases wr<;>rfl) trivial (fun hs=> ?_) (fun hs=> ?_) (fun g hg=> ?_) (fun g hg=> ?_),by simp⟩
  ·have xv:C.Sh (.cell a):=hs
   rcases ((T.yk _).1 xv).2 with e|e<;>injection e with e<;>subst e
   ·exact h3 (.inl xv)
   ·exact h3 (.inl xv)
  ·obtain ⟨x,k,e,_⟩:=T.IB _ (show C.Gr (.cell a) from hs)
   injection e with e;subst e
   exact h3 (.inr (.inl hs))
  ·obtain ⟨x,k,rfl⟩:=sp g (.inl hg)
   exact h3 (.inr (.inr ⟨g,hg⟩))
  ·obtain ⟨x,k,rfl⟩:=sp g (.inr hg)
   cases wr with
   |false=>rfl
   |true=>exact absurd ⟨g,hg⟩ (h4 rfl)
 |obj r=>
  obtain ⟨_,h2⟩:=he
  simp only at h2
  have Y7:=ho r rfl
  refine ⟨.hold (b:=⟨.obj r,wr,if sy then .atomic else .plain⟩) ?_ trivial (fun hs=> ?_) (fun hs=> ?_) (fun g=>(Y7 g).1) (fun g=>(Y7 g).2),by simp⟩
  ·cases wr with
   |false=>cases sy<;>rfl
   |true=>cases sy with
    |false=>rfl
    |true=>exact absurd (h2 rfl) (by simp)
  ·rcases ((T.yk _).1 hs).2 with e|e<;>cases e
  ·obtain ⟨x,k,e,_⟩:=T.IB _ hs;cases e
 |mark m=>
  cases m<;>first|exact he.elim|exact ⟨.mute rfl,by simp⟩
 |output=>exact he.elim
 |goroutines=>exact he.elim
theorem Dc {e:Event} {top:Nat} {hid gd:Nat->Nat->Prop} (he:EvM hid gd top e):e.loc≠.mark .disable/\e.loc≠.mark .enable:=by
 obtain ⟨loc,wr,sy⟩:=e
 unfold EvM at he
 cases loc with
 |mark m=>cases m<;>first|exact he.elim|simp
 |_=>simp
variable {k d:Nat} {a:O'}
theorem aC.own (T:aC P C b o ae Fin (some h) rel ρ q gs w t) (hA:∀g w,ae g w->g.status=.running) (hr:ρ h=.self k d) {a':O'} (hi:gs[h]?=some a) (hd:DH C w w' es):
 ∃q',aC P C b o ae Fin (some h) rel ρ q' ((gs.map (woken P a a' w')).setIfInBounds h a') w' (t++MemOp.ofEvents h a.frame.fn a.frame.place es):=by
 have hlt:h<gs.size:=(cI hi)
 have dS:C.on->∀s m,cx b o w s m↔cx b o w' s m:=fun c s m=>by
  obtain ⟨S9,TI,h₀⟩:=(T.wg c).live
  have e0:=hd.Qe.cell (.inl (.inl ((T.yk _).2 ⟨c,.inl rfl⟩))) (lC h₀.st)
  have e1:=hd.Qe.cell (.inl (.inl ((T.yk _).2 ⟨c,.inr rfl⟩))) (lC h₀.sm)
  exact ⟨fun h=>h.keep e0 e1,fun h=>h.keep ⟨e0.1.symm,e0.2.symm⟩ ⟨e1.1.symm,e1.2.symm⟩⟩
 have po:∀j,RB C b o j w w':=fun j=>⟨fun c ⟨s,m,h⟩=>⟨s,m,(dS c s m).1 h⟩,fun x k hx=>hd.Qe.cell (hx.elim (fun h=>.inl (.inr (.inr ⟨j,h⟩))) fun h=>.inr ⟨j,h⟩) (T.CG j x k hx),fun r hx=>hd.gz r ⟨j,hx⟩⟩
 have hu:=zU hr
 obtain ⟨q',T',_⟩:=T.step hA (a:=a) (a':=a') (g':=a') (r':=.self k d) (n':=0) (who':=some h) (bZ:=rel) (u:=MemOp.ofEvents h a.frame.fn a.frame.place es) hi (fun j _=>po j) hd.Qe.size (fun r ob h1 h2 h3=>hd.Qe.chan r ob h1 h3)
  (fun r hr=>by obtain ⟨ob,h1,h2⟩:=T.mO h r hr;exact ⟨ob,((po h).gz r hr).trans h1,h2⟩) (fun p h' e=>by cases e) (fun p h' e=>by cases e) (by rw [hu];exact T.one) (by rw [hu];exact T.holder) trivial
  (by
   refine T.jS (H:=True) _ _ (by rw [hr]) (by rw [hr];exact deafBehind_still (fun e he=>Dc (hd.Qe.evs e he)) _) (fun j e he=> ?_) (fun _=>rfl)
   have:=l_ he
   exact AA T (hd.Qe.evs e this) (hd.WU e this) _ _ _)
  (by rw [hu];exact fun c=>(T.wg c).keep fun s m h=>(dS c s m).1 h) (fun c=>by have:=T.off c h;rw [hr] at this;exact this) (fun HG=>absurd HG (T.fX (by rw [hr];simp))) (by rw [hu];exact T.few) (fun _ h3 h=>.inl ((dS (T.jw (i:=0) (by rw [h3];exact id)) 0 1).2 h)) (fun _ e=>by cases e)
 rw [hu] at T'
 exact ⟨q',T'⟩
theorem aC.Dn (T:aC P C b o ae Fin who rel ρ q gs w t) (hA:∀g w,ae g w->g.status=.running) (uQ:∀g w,ae g w->∃m,Goes P true (RB C b o 0) (DW b o) (AtW1 P C b o ae Fin) m g w) (hS:bO ρ gs w) (hi:gs[i]?=some g) (lu:(ρ i).isSelf=false) (hrun:g.status=.running)
 (yH:∀p home,(ρ i=.seat p home\/ρ i=.shut p home)->∀(x:Nat) (y:O'),(ρ x).isSelf=true->gs[x]?=some y->offersAt y p.chan (!p.out)=[]):fp P C b o ae Fin who rel ρ q gs w sl t i\/(i=0/\ρ 0=.wait .w6/\AtAcq P b o Fin g w):=by
 by_cases hw:∃s,ρ i=.wait s
 ·obtain ⟨s,hs⟩:=hw
  have aM:=T.eD i g hi
  rw [hs] at aM
  obtain ⟨rfl,_⟩:=aM
  rcases T.RU (sl:=sl) hA uQ hS hi hs hrun with h|⟨rfl,h⟩
  ·exact .inl h
  ·exact .inr ⟨rfl,hs,h⟩
 ·exact .inl (T.VQ hA hS hi lu (fun s h=>hw ⟨s,h⟩) hrun yH)
theorem aC.pE (T:aC P C b o ae Fin who rel ρ q gs w t) (hA:∀g w,ae g w->g.status=.running) (hs:∀x y,(ρ x).isSelf=true->gs[x]?=some y->Go.Conc.awake y):∀g∈gs,Go.Conc.awake g:=by
 intro g hg
 obtain ⟨i,hi⟩:=Array.mem_iff_getElem?.1 hg
 cases FU:(ρ i).isSelf with
 |true=>exact hs i g FU hi
 |false=>
  rcases (T.eD i g hi).status hA FU with h|h|⟨h,_⟩
  ·exact awake_of (.inl h)
  ·exact awake_of (.inr (.inr h))
  ·exact awake_of (.inr (.inl h))
theorem l9 (T:aC P C b o ae Fin (some h) rel ρ q gs w t) (hi:gs[h]?=some a) (hrun:a.status=.running):bO ρ gs w:=by
 intro x y hx hy w' _
 cases hr:ρ x<;>rw [hr] at hx<;>try (cases hx;done)
 have:=T.one x _ _ hr
 obtain rfl:=some_inj this
 rw [hi] at hy
 obtain rfl:=some_inj hy
 exact again_running _ (.inl hrun)
theorem hold (hA:∀g w,ae g w->g.status=.running) (uQ:∀g w,ae g w->∃m,Goes P true (RB C b o 0) (DW b o) (AtW1 P C b o ae Fin) m g w) {Stop:O'->J'->Prop} (hc:h=0\/0<k) {Mm:J'}
 (hW:Walk P (h==0) (Out (bS C)) (DH C) Stop a Mm):
 ∀{rel:Nat->Prop} {ρ:Nat->aX} {q:Nat->Nat} {gs:Array O'} {w:J'} {sl:Option (Nat × Nat)} {t:Trace},aC P C b o ae Fin (some h) rel ρ q gs w t->ρ h=.self k d->gs[h]?=some a->Out (bS C) Mm w->
  (∀bZ fT q' gs' a' w' sl' t',aC P C b o ae Fin (some h) bZ fT q' gs' w' t'->fT h=.self k d->gs'.size=gs.size->gs'[h]?=some a'->Stop a' w'->(∀j,vS (ρ j) (fT j))->(sU ρ->bZ=rel/\sU fT)->Ends P Post (crowd gs' w' sl') t')->Ends P Post (crowd gs w sl) t:=by
 induction hW with
 |stop hst=>exact fun T hr hi ho next=>next _ _ _ _ _ _ _ _ T hr rfl hi (hst _ ho) (fun j=>.rfl' _) (fun h=>⟨rfl,h⟩)
 |@step a Mm ng nw ne hrun h1 h2 ih=>
  intro rel ρ q gs w sl t T hr hi ho next
  generalize MZ:meas ρ q gs.size=μ
  induction sf.apply μ generalizing rel ρ q gs w sl t with
  |intro μ _ AM=>
   have Ny:=T.pE hA (fun x y hx hy=>by
    cases sX:ρ x<;>rw [sX] at hx<;>try (cases hx;done)
    obtain rfl:=some_inj (T.one x _ _ sX)
    rw [hi] at hy
    obtain rfl:=some_inj hy
    exact awake_of (.inl hrun))
   obtain ⟨i,g,dr,sl',vH,hg,hst⟩:=crowd_pick (P:=P) (w:=w) (sl:=sl) Ny ⟨h,a,hi,hrun⟩
   have Td:=T.at dr
   have ye:Out (bS C) Mm (w.at dr):=ho.trans (Out.at _ w dr)
   by_cases e:i=h
   ·subst e
    rw [hi] at vH
    obtain rfl:=some_inj vH
    obtain ⟨hgo,hd⟩:=h1 _ ye
    obtain ⟨q',T'⟩:=Td.own hA hr (a':=ng (w.at dr)) hi hd
    have hlt:i<gs.size:=(cI hi)
    refine Ends.step (hst.trans (runT_crowd_go (sl:=sl') hi hgo)) ?_
    refine ih _ ye T' hr (by simp [hlt]) (Out.refl _ _) fun bZ fT q' gs' a' w' sl' t' k1 k2 k3 k4 k5 k6 k7=>next bZ fT q' gs' a' w' sl' t' k1 k2 (by simpa using k3) k4 k5 k6 k7
   ·have lu:(ρ i).isSelf=false:=by
     cases sX:ρ i<;>try rfl
     exact absurd (some_inj (T.one i _ _ sX)).symm e
    rcases Td.Dn (sl:=sl') hA uQ (l9 Td hi hrun) vH lu hg (fun p home _ x y hx hy=>by
     cases sX:ρ x<;>rw [sX] at hx<;>try (cases hx;done)
     obtain rfl:=some_inj (T.one x _ _ sX)
     rw [hi] at hy
     obtain rfl:=some_inj hy
     exact offersAt_of_not_blocked (by rw [hrun];simp) _ _) with hm|⟨rfl,sk,_⟩
    ·obtain ⟨gs',w',ops,fT,q',who',bZ,k1,k2,k3,k4,k5,k6,k7,k8,_,_,kc⟩:=hm
     have FU:(ρ h).isSelf=true:=by rw [hr];rfl
     have oE:=k7 ⟨h,FU⟩
     subst oE
     have sX:fT h=.self k d:=by
      rcases k6 h with x|⟨x,_⟩|⟨s,s',x,_⟩
      ·rw [x,hr]
      ·rw [hr] at x;cases x
      ·rw [hr] at x;cases x
     refine Ends.step (hst.trans k1) ?_
     refine AM (meas fT q' gs'.size) (by rw [<-MZ,k2];exact k4) k3 sX (by rw [k8 h FU];exact hi) (ye.trans k5) (fun Te Xi q'' gs'' a'' SW X4 t'' j1 j2 j3 j4 j5 j6 j7=>next Te Xi q'' gs'' a'' SW X4 t'' j1 j2 (by rw [j3,k2]) j4 j5 (fun j=>(k6 j).trans (j6 j)) fun h=>⟨(j7 (kc h).2).1.trans (kc h).1,(j7 (kc h).2).2⟩) rfl
    ·exfalso
     have my:=T.wg (T.jw (i:=0) (by rw [sk];exact id))
     unfold dy at my
     rw [sk] at my
     rcases hc with rfl|hc
     ·rw [hr] at sk;cases sk
     ·have:=Bn (ρ:=ρ) (cI hi) (by rw [hr];exact hc)
      omega
end
end
end Go.aC
