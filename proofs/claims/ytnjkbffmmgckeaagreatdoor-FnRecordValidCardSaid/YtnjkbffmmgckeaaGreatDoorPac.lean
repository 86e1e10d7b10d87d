/-
  The steps through Done that count: the release, the word of deafness, the atomic add, the waking; an
-/
import Derived.Test.YtnjkbffmmgckeaaGreatDoorPaa
import Derived.Test.YtnjkbffmmgckeaaGreatDoorPab
set_option linter.all false
set_option maxRecDepth 100000
set_option maxHeartbeats 32000000
open Go renaming World->J',Value->M',Goroutine->O',Program->U',FuncId->w_
open Nat renaming le_refl->C_,zero_le->nz
open Array renaming getElem?_eq_getElem->H_,getElem?_setIfInBounds_ne->I_,mem_of_getElem?->l_
open Go.ConcN renaming upd_same->O_,upd_ne->P_
open Go.MemOp renaming ofEvents->cC
open Ne renaming symm->ru
namespace Go.aC
section
open Go Go.Conc
open Go.ConcN (sumTo upd sumTo_upd upd_ne upd_same sumTo_congr le_sumTo)
variable {P:U'} {C:cS} {b o:Nat} {ae Fin:O'->J'->Prop} {who who':Option Nat} {rel bZ:Nat->Prop} {ρ:Nat->aX} {q:Nat->Nat} {gs:Array O'} {w w':J'} {t u:Trace} {sl:Option (Nat × Nat)}
theorem cx.uniq {s m s' m':Int} (h:cx b o w s m) (k:cx b o w s' m'):s=s'/\m=m':=by
 have e1:=h.st.symm.trans k.st
 have e2:=h.sm.symm.trans k.sm
 simp only [Option.some.injEq,Value.int.injEq,true_and] at e1 e2
 exact ⟨e1,e2⟩
variable {i:Nat}
theorem Fj {t:Trace} {g:Nat} {y:MemOp} (h:Knows t g i) (hg:y.g=g):Before (t++#[y]) i t.size:=.inr (h.hb_new (C_ _) (by simp) hg)
theorem ofEvents_one (i:Nat) (fn:w_) (pos:String) (e:Event):cC i fn pos #[e]=#[{g:=i,fn,pos,act:=.ofEvent e}]:=by rw [ofEvents_eq];simp
variable {k:Nat}
theorem zc (T:aC P C b o ae Fin who rel ρ q gs w t) (b9:C.on) (hk:k=o\/k=o+1):∀x j,(x=b/\j=k)->bS C x j:=fun x j ⟨h1,h2⟩=>.inl ((T.yk _).2 ⟨b9,by subst h1 h2;exact hk.imp (fun e=>by rw [e]) (fun e=>by rw [e])⟩)
variable {g:O'}
theorem aC.Lm (T:aC P C b o ae Fin who rel ρ q gs w t) (hA:∀g w,ae g w->g.status=.running) (hS:bO ρ gs w) (hi:gs[i]?=some g) (hr:ρ i=.done) (iq:0<i) (h:AtR0 P C b o i g w):fp P C b o ae Fin who rel ρ q gs w sl t i:=by
 have hlt:i<gs.size:=(cI hi)
 have b9:C.on:=T.jw (i:=i) (by rw [hr];exact id)
 have nT:∀d,ρ i≠.quit d:=by rw [hr];simp
 obtain ⟨_,g',hgo,m,iJ⟩:=h
 have hu:cC i g.frame.fn g.frame.place #[mh (.releaseMerge ⟨b,o,none⟩)]=#[{g:=i,fn:=g.frame.fn,pos:=g.frame.place,act:=.mark (.releaseMerge C.ad)}]:=by rw [ofEvents_one,T.ad];rfl
 have hl:(fun x=>(ρ x).loose=true/\x≠i)=fun j=>(upd ρ i .rel j).loose=true:=by
  funext x
  by_cases e:x=i
  ·subst e;rw [O_];simp [aX.loose]
  ·rw [P_ _ _ e];simp [e]
 have hd:(fun x=>(ρ x).dd)=fun j=>(upd ρ i .rel j).dd:=by
  funext x
  by_cases e:x=i
  ·subst e;rw [O_,hr];rfl
  ·rw [P_ _ _ e]
 have key:∀who',((who'=who/\who≠some i)\/(who'=none/\who=some i))->(∀x,Acc who rel t x->Acc who' (fun p=>rel p\/p=t.size) (t++cC i g.frame.fn g.frame.place #[mh (.releaseMerge ⟨b,o,none⟩)]) x)->fp P C b o ae Fin who rel ρ q gs w sl t i:=by
  intro who' oE hK
  refine T.moves hA hS (w':=w) (r':=.rel) (n':=m) (who':=who') (bZ:=fun p=>rel p\/p=t.size) hi (by rw [hr];rfl) (by rw [dh iq];exact hgo) (Out.refl _ _) (fun j _=>RB.refl j w) (fun p h e=>by cases e) (fun p h e=>by cases e) rfl (oE.imp And.left id) (fun _=>.inr (oE.elim (fun h=>.inr h.2) fun h=>.inl h.1)) ⟨iq,iJ⟩ ?_ (.inr ⟨b9,nT⟩) ?_ (by rw [hr];exact C_ _) (.inr (by rw [hr];exact fun p h e=>by cases e)) (by rw [hr];exact .inr (.inl ⟨rfl,rfl⟩)) (fun _ _ h=>.inl h) (fun e=>by omega) (fun q' h1 h2=>jG hlt (by rw [hr];simp [aX.fW]))
  ·have:=(T.tr.release (u:=cC i g.frame.fn g.frame.place #[mh (.releaseMerge ⟨b,o,none⟩)]) (g:=i) hK (by rw [hr];rfl) g.frame.fn g.frame.place hu).1
   rw [hl,hd] at this
   exact this
  ·exact fun c=>(T.wg c).dG hlt (.inl (by omega)) (by rw [hr];rfl) (by rw [hr];rfl) (.inr rfl)
 by_cases hw:who=some i
 ·refine key none (.inr ⟨rfl,hw⟩) fun x hx=> ?_
  rw [hw] at hx
  refine ⟨t.size,.inr rfl, ?_⟩
  rw [hu]
  exact Fj hx rfl
 ·exact key who (.inl ⟨rfl,hw⟩) fun x hx=>Acc.app (fun p hp=>.inl hp) hx
theorem aC.MC (T:aC P C b o ae Fin who rel ρ q gs w t) (hA:∀g w,ae g w->g.status=.running) (hS:bO ρ gs w) (hi:gs[i]?=some g) (hr:ρ i=.rel) (iq:0<i) (h:AtK1 P C b o i g w):fp P C b o ae Fin who rel ρ q gs w sl t i:=by
 have hlt:i<gs.size:=(cI hi)
 have b9:C.on:=T.jw (i:=i) (by rw [hr];exact id)
 have nT:∀d,ρ i≠.quit d:=by rw [hr];simp
 obtain ⟨_,g',hgo,m,iJ⟩:=h
 refine T.moves hA hS (w':=w) (r':=.deaf) (n':=m) (who':=who) (bZ:=rel) hi (by rw [hr];rfl) (by rw [dh iq];exact hgo) (Out.refl _ _) (fun j _=>RB.refl j w) (fun p h e=>by cases e) (fun p h e=>by cases e) rfl (.inl rfl) (by rw [hr];exact fun e=>by cases e) ⟨iq,iJ⟩ ?_ (.inr ⟨b9,nT⟩) ?_ (by rw [hr];simp [aX.count]) (.inr (by rw [hr];exact fun p h e=>by cases e)) (by rw [hr];exact .inr (.inl ⟨rfl,rfl⟩)) (fun _ _ h=>.inl h) (fun e=>by omega) (fun q' h1 h2=>jG hlt (by rw [hr];simp [aX.fW]))
 ·refine T.jS (H:=False) _ _ (by rw [hr];rfl) (by rw [hr];rfl) (fun k e he=> ?_) (fun h=>h.elim)
  obtain rfl:e=mh .disable:=by simpa using l_ he
  exact ⟨.mute rfl,by simp [mh]⟩
 ·exact fun c=>(T.wg c).dG hlt (.inl (by omega)) (by rw [hr];rfl) (by rw [hr];rfl) (.inr rfl)
variable {d:Nat}
theorem aC.Jp (T:aC P C b o ae Fin who rel ρ q gs w t) (hA:∀g w,ae g w->g.status=.running) (hS:bO ρ gs w) (hi:gs[i]?=some g) (hr:ρ i=.quit d) (hrun:g.status=.running):fp P C b o ae Fin who rel ρ q gs w sl t i:=by
 have hlt:i<gs.size:=(cI hi)
 have aM:=T.eD i g hi
 rw [hr] at aM
 obtain ⟨iq,hq⟩:=aM
 cases hn:q i with
 |zero=>rw [hn] at hq;rw [hq.1] at hrun;cases hrun
 |succ k=>
  rw [hn] at hq
  rcases hq with ⟨hf,_⟩|⟨_,g',es,hm,hst,Sw⟩
  ·rw [hf] at hrun;cases hrun
  refine T.moves hA hS (w':=w) (r':=.quit (deafBehind d es)) (n':=k) (who':=who) (bZ:=rel) hi (by rw [hr];rfl) (by rw [dh iq];exact hst w) (Out.refl _ _) (fun j _=>RB.refl j w) (fun p h e=>by cases e) (fun p h e=>by cases e) rfl (.inl rfl) (by rw [hr];exact fun e=>by cases e) ⟨iq,Sw⟩ ?_ (.inl ⟨⟨d,hr⟩,⟨_,rfl⟩,rfl⟩) ?_ (by rw [hr];simp [aX.count]) (.inr (by rw [hr];exact fun p h e=>by cases e)) (by rw [hr];exact .inr (.inl ⟨rfl,rfl⟩)) (fun _ _ h=>.inl h) (fun e=>by omega) (fun q' h1 h2=>AH hlt (by rw [hr];rfl) (by simp [aX.fW]) (by omega) h2)
  ·refine T.jS (H:=False) _ _ (by rw [hr];rfl) (by rw [hr];rfl) (fun j e he=> ?_) (fun h=>h.elim)
   have:=hm e (l_ he)
   refine ⟨.mute (touch_mute this),fun x hl=> ?_⟩
   obtain ⟨loc,wr,sy⟩:=e
   simp only at hl
   subst hl
   simp [Event.mute] at this
  ·exact fun c=>(T.wg c).dG hlt (.inl (by omega)) (by rw [hr];rfl) (by rw [hr];rfl) (.inr rfl)
variable {r':aX}
theorem rW (h:∀j,(ρ j).isLast=false) (hr:r'.isLast=false):∀j,(upd ρ i r' j).isLast=false:=fun j=>by
 by_cases e:j=i
 ·subst e;rw [O_];exact hr
 ·rw [P_ _ _ e];exact h j
theorem aC.Lq (T:aC P C b o ae Fin who rel ρ q gs w t) (hA:∀g w,ae g w->g.status=.running) (hS:bO ρ gs w) (hi:gs[i]?=some g) (hr:ρ i=.deaf) (iq:0<i) (h:AtD1 P C b o i g w):fp P C b o ae Fin who rel ρ q gs w sl t i:=by
 have hlt:i<gs.size:=(cI hi)
 have b9:C.on:=T.jw (i:=i) (by rw [hr];exact id)
 have nT:∀d,ρ i≠.quit d:=by rw [hr];simp
 have hc:0<cnt ρ gs.size:=Bn hlt (by rw [hr];exact Nat.one_pos)
 obtain ⟨v,hv⟩:∃v,cnt ρ gs.size=v+1:=⟨cnt ρ gs.size - 1,by omega⟩
 have U3:=T.few
 have h0:(0:Nat)≠i:=by omega
 have my:(ρ 0=.wait .w3/\(∀j,(ρ j).isLast=false)/\cx b o w ((v+1:Nat) * KK+(1:Nat)) 0)\/((∀s,ρ 0=.wait s->s≠.w3/\s≠.w4/\s≠.w5/\s≠.w6)/\(∀j,(ρ j).isLast=false)/\cx b o w ((v+1:Nat) * KK+(0:Nat)) 0):=by
  have hw:=T.wg b9
  unfold dy at hw
  split at hw<;>rename_i e
  ·rcases hw with ⟨h1,⟨h2,h3⟩|⟨h2,_⟩⟩|⟨h2,_⟩
   ·refine .inl ⟨e,h1, ?_⟩
    rw [hv] at h3
    simpa using h3
   ·omega
   ·omega
  ·omega
  ·omega
  ·omega
  ·rename_i e1 e2 e3
   refine .inr ⟨fun s hs=>⟨?_, ?_, ?_, ?_⟩,hw.1, ?_⟩
   ·rintro rfl;exact e1 hs
   ·rintro rfl;exact e2 hs
   ·rintro rfl;exact e3 hs
   ·rintro rfl;exact e hs
   ·have:=hw.2
    rw [hv] at this
    simpa using this
 have jW:∀r':aX,r'.count=0->cnt (upd ρ i r') gs.size=v:=fun r' sX=>by
  have:=kL (ρ:=ρ) r' hlt
  rw [hr] at this
  simp only [show aX.deaf.count=1 from rfl,sX] at this
  omega
 have AV:∀r':aX,r'.loose=false->r'.dd=1->Tr C (fun j=>(upd ρ i r' j).loose=true) rel gs.size (fun j=>(upd ρ i r' j).dd) (Acc who rel (t++cC i g.frame.fn g.frame.place #[mF ⟨b,o,none⟩,vT ⟨b,o,none⟩])) (t++cC i g.frame.fn g.frame.place #[mF ⟨b,o,none⟩,vT ⟨b,o,none⟩]):=fun r' h1 h2=>by
  refine T.jS (H:=False) _ _ (by rw [hr,h1];rfl) (by rw [hr,h2];simp [deafBehind,aX.dd,mF,vT]) (fun k e he=> ?_) (fun h=>h.elim)
  match k,he with
  |0,he=>
   obtain rfl:mF ⟨b,o,none⟩=e:=by simpa using he
   exact ⟨ji T b9 (T.fX nT) hi (.inl rfl) false (.inr (mG T (by simp) (by rw [hr];simp [deafBehind,aX.dd]))) _ _ _,by simp [mF]⟩
  |1,he=>
   obtain rfl:vT ⟨b,o,none⟩=e:=by simpa using he
   exact ⟨ji T b9 (T.fX nT) hi (.inl rfl) true (.inr (mG T (by simp) (by rw [hr];simp [deafBehind,aX.dd,mF]))) _ _ _,by simp [vT]⟩
  |k+2,he=>simp at he
 obtain ⟨_,hD⟩:=h
 have go:∀(wt:Nat) (r':aX) (n':Nat) (g':O'),stepG P false g w=.go g' (w.setCell ⟨b,o,none⟩ (.int .u64 (v * KK+wt))) #[mF ⟨b,o,none⟩,vT ⟨b,o,none⟩]->cx b o w ((v+1:Nat) * KK+wt) 0->r'.loose=false->r'.dd=1->r'.count=0->r'.isSelf=false->r'.leaving=true->r'.fW<5->
  fx P C b o ae Fin i r' n' g' (w.setCell ⟨b,o,none⟩ (.int .u64 (v * KK+wt)))->dy b o (upd ρ i r') gs.size (w.setCell ⟨b,o,none⟩ (.int .u64 (v * KK+wt)))->fp P C b o ae Fin who rel ρ q gs w sl t i:=by
  intro wt r' n' g' hgo hw h1 h2 h3 h4 h5 h6 aM cK
  have gC:=hw.setSt (v * KK+wt)
  refine T.moves hA hS (r':=r') (n':=n') (who':=who) (bZ:=rel) hi (by rw [hr];rfl) (by rw [dh iq];exact hgo) ((gH w b o _).mono (zc T b9 (.inl rfl))) (fun j _=>T.tq b9 (.inl rfl) ⟨_,_,gC⟩ j) (fun p h e=>by rw [e] at h1;cases h1) (fun p h e=>by rw [e] at h1;cases h1) h4 (.inl rfl) (by rw [hr];exact fun e=>by cases e) aM (AV r' h1 h2) (.inr ⟨b9,nT⟩) (fun _=>cK) (by rw [h3];exact nz _) (.inr (by rw [hr];exact fun p h e=>by cases e)) (by rw [hr];exact .inr (.inl ⟨rfl,h5⟩)) (fun _ _ h=> ?_) (fun e=>by omega) (fun q' _ _=>jG hlt (by rw [hr];exact h6))
  have:=(gC.uniq h).2
  omega
 rcases my with ⟨e3,rp,hw⟩|⟨lu,rp,hw⟩
 ·obtain ⟨g',hgo,hy,hn⟩:=hD v 1 (by omega) (by omega) hw
  by_cases BG:v=0
  ·obtain ⟨m,hm⟩:=hy ⟨BG,rfl⟩
   refine go 1 .ky m g' hgo hw rfl rfl rfl rfl rfl (by simp [aX.fW]) ⟨iq,hm⟩ ?_
   have gC:=hw.setSt (v * KK+(1:Nat))
   unfold dy
   rw [P_ _ _ h0,e3]
   refine .inr ⟨by rw [jW _ rfl];exact BG,i,fun j hj=> ?_,.inl ⟨.inl (O_ _ _ _), ?_⟩⟩
   ·by_cases e:j=i
    ·exact e
    ·rw [P_ _ _ e,rp j] at hj;cases hj
   ·subst BG;simpa using gC
  ·obtain ⟨m,hm⟩:=hn (fun h=>BG h.1)
   refine go 1 (.quit 1) m g' hgo hw rfl rfl rfl rfl rfl (by simp [aX.fW]) ⟨iq,hm⟩ ?_
   have gC:=hw.setSt (v * KK+(1:Nat))
   unfold dy
   rw [P_ _ _ h0,e3]
   refine .inl ⟨rW rp rfl,.inl ⟨by rw [jW _ rfl];omega, ?_⟩⟩
   rw [jW _ rfl];simpa using gC
 ·obtain ⟨g',hgo,_,hn⟩:=hD v 0 (by omega) (by omega) hw
  obtain ⟨m,hm⟩:=hn (fun h=>by omega)
  refine go 0 (.quit 1) m g' hgo hw rfl rfl rfl rfl rfl (by simp [aX.fW]) ⟨iq,hm⟩ ?_
  have gC:=hw.setSt (v * KK+(0:Nat))
  unfold dy
  rw [P_ _ _ h0]
  split<;>rename_i e
  ·exact absurd rfl (lu _ e).1
  ·exact absurd rfl (lu _ e).2.1
  ·exact absurd rfl (lu _ e).2.2.1
  ·exact absurd rfl (lu _ e).2.2.2
  ·refine ⟨rW rp rfl, ?_⟩
   rw [jW _ rfl];simpa using gC
theorem aC.Ew (T:aC P C b o ae Fin who rel ρ q gs w t) (hl:(ρ i).isLast=true):ρ 0=.wait .w3/\cnt ρ gs.size=0/\(∀j,(ρ j).isLast=true->j=i)/\((ρ i=.ky\/ρ i=.kx)/\cx b o w 1 0\/ρ i=.ku/\cx b o w 0 0):=by
 have b9:C.on:=T.jw (i:=i) (fun h=>by cases hx:ρ i<;>rw [hx] at hl h<;>first|(cases hl;done)|exact h)
 have hw:=T.wg b9
 unfold dy at hw
 split at hw<;>rename_i e
 ·rcases hw with ⟨h1,_⟩|⟨h2,j,h3,h4⟩
  ·rw [h1 i] at hl;cases hl
  ·have:=h3 i hl
   subst this
   exact ⟨e,h2,h3,h4⟩
 ·rw [hw.1 i] at hl;cases hl
 ·rw [hw.1 i] at hl;cases hl
 ·rw [hw.1 i] at hl;cases hl
 ·rw [hw.1 i] at hl;cases hl
theorem js {n:Nat} (hlt:i<n) (h:r'.count=(ρ i).count):cnt (upd ρ i r') n=cnt ρ n:=by
 have:=kL (ρ:=ρ) r' hlt
 rw [h] at this;omega
theorem aC.Hv (T:aC P C b o ae Fin who rel ρ q gs w t) (hA:∀g w,ae g w->g.status=.running) (hS:bO ρ gs w) (hi:gs[i]?=some g) (hr:ρ i=.ky) (iq:0<i) (h:AtD2 P C b o i g w):fp P C b o ae Fin who rel ρ q gs w sl t i:=by
 have hlt:i<gs.size:=(cI hi)
 have b9:C.on:=T.jw (i:=i) (by rw [hr];exact id)
 have nT:∀d,ρ i≠.quit d:=by rw [hr];simp
 obtain ⟨h3,hc,hu,pv⟩:=T.Ew (i:=i) (by rw [hr];rfl)
 have hw:cx b o w 1 0:=by
  rcases pv with ⟨_,h⟩|⟨h,_⟩
  ·exact h
  ·rw [hr] at h;cases h
 obtain ⟨_,hD⟩:=h
 obtain ⟨g',hgo,m,hm⟩:=hD hw
 refine T.moves hA hS (w':=w) (r':=.kx) (n':=m) (who':=who) (bZ:=rel) hi (by rw [hr];rfl) (by rw [dh iq];exact hgo) (Out.refl _ _) (fun j _=>RB.refl j w) (fun p h e=>by cases e) (fun p h e=>by cases e) rfl (.inl rfl) (by rw [hr];exact fun e=>by cases e) ⟨iq,hm⟩ ?_ (.inr ⟨b9,nT⟩) ?_ (by rw [hr];simp [aX.count]) (.inr (by rw [hr];exact fun p h e=>by cases e)) (by rw [hr];exact .inr (.inl ⟨rfl,rfl⟩)) (fun _ _ h=>.inl h) (fun e=>by omega) (fun q' _ _=>jG hlt (by rw [hr];simp [aX.fW]))
 ·refine T.jS (H:=False) _ _ (by rw [hr];rfl) (by rw [hr];simp [deafBehind,aX.dd,mF]) (fun k e he=> ?_) (fun h=>h.elim)
  match k,he with
  |0,he=>
   obtain rfl:mF ⟨b,o,none⟩=e:=by simpa using he
   exact ⟨ji T b9 (T.fX nT) hi (.inl rfl) false (.inr (mG T (by simp) (by rw [hr];simp [deafBehind,aX.dd]))) _ _ _,by simp [mF]⟩
  |k+1,he=>simp at he
 ·intro _
  unfold dy
  rw [P_ _ _ (by omega),h3]
  refine .inr ⟨(js hlt (by rw [hr];rfl)).trans hc,i,fun j hj=> ?_,.inl ⟨.inr (O_ _ _ _),hw⟩⟩
  by_cases e:j=i
  ·exact e
  ·rw [P_ _ _ e] at hj;exact hu j hj
theorem aC.Hu (T:aC P C b o ae Fin who rel ρ q gs w t) (hA:∀g w,ae g w->g.status=.running) (hS:bO ρ gs w) (hi:gs[i]?=some g) (hr:ρ i=.kx) (iq:0<i) (h:AtD3 P C b o i g w):fp P C b o ae Fin who rel ρ q gs w sl t i:=by
 have hlt:i<gs.size:=(cI hi)
 have b9:C.on:=T.jw (i:=i) (by rw [hr];exact id)
 have nT:∀d,ρ i≠.quit d:=by rw [hr];simp
 obtain ⟨h3,hc,hu,pv⟩:=T.Ew (i:=i) (by rw [hr];rfl)
 have hw:cx b o w 1 0:=by
  rcases pv with ⟨_,h⟩|⟨h,_⟩
  ·exact h
  ·rw [hr] at h;cases h
 obtain ⟨_,hD⟩:=h
 obtain ⟨g',hgo,m,hm⟩:=hD hw
 have gC:=hw.setSt 0
 refine T.moves hA hS (r':=.ku) (n':=m) (who':=who) (bZ:=rel) hi (by rw [hr];rfl) (by rw [dh iq];exact hgo) ((gH w b o _).mono (zc T b9 (.inl rfl))) (fun j _=>T.tq b9 (.inl rfl) ⟨_,_,gC⟩ j) (fun p h e=>by cases e) (fun p h e=>by cases e) rfl (.inl rfl) (by rw [hr];exact fun e=>by cases e) ⟨iq,hm⟩ ?_ (.inr ⟨b9,nT⟩) ?_ (by rw [hr];simp [aX.count]) (.inr (by rw [hr];exact fun p h e=>by cases e)) (by rw [hr];exact .inr (.inl ⟨rfl,rfl⟩)) (fun _ _ h=>by have:=(gC.uniq h).2;omega) (fun e=>by omega) (fun q' _ _=>jG hlt (by rw [hr];simp [aX.fW]))
 ·refine T.jS (H:=False) _ _ (by rw [hr];rfl) (by rw [hr];simp [deafBehind,aX.dd,vT]) (fun k e he=> ?_) (fun h=>h.elim)
  match k,he with
  |0,he=>
   obtain rfl:vT ⟨b,o,none⟩=e:=by simpa using he
   exact ⟨ji T b9 (T.fX nT) hi (.inl rfl) true (.inr (mG T (by simp) (by rw [hr];simp [deafBehind,aX.dd]))) _ _ _,by simp [vT]⟩
  |k+1,he=>simp at he
 ·intro _
  unfold dy
  rw [P_ _ _ (by omega),h3]
  refine .inr ⟨(js hlt (by rw [hr];rfl)).trans hc,i,fun j hj=> ?_,.inr ⟨O_ _ _ _,gC⟩⟩
  by_cases e:j=i
  ·exact e
  ·rw [P_ _ _ e] at hj;exact hu j hj
theorem FD (T:aC P C b o ae Fin who rel ρ q gs w t) (b9:C.on) (nT:∀d,ρ i≠.quit d) (hi:gs[i]?=some g) (hd:(ρ i).dd=1) (fn:w_) (pos:String) (k:Nat) (e:Event) (he:(semEvents ⟨b,o+1,none⟩)[k]?=some e):
 qP C (fun j=>(ρ j).loose=true) gs.size i False ((t++cC i fn pos (semEvents ⟨b,o+1,none⟩)).heard (t.size+k)) {g:=i,fn,pos,act:=.ofEvent e}/\∀x,e.loc≠.mark (.release x):=by
 match k,he with
 |0,he=>obtain rfl:mh .disable=e:=by simpa [semEvents,mh] using he
        exact ⟨.mute rfl,by simp [mh]⟩
 |1,he=>obtain rfl:mF ⟨b,o+1,none⟩=e:=by simpa [semEvents,mF] using he
        exact ⟨ji T b9 (T.fX nT) hi (.inr rfl) false (.inr (mG T (by simp [semEvents]) (by rw [hd];simp [deafBehind,semEvents]))) _ _ _,by simp [mF]⟩
 |2,he=>obtain rfl:vT ⟨b,o+1,none⟩=e:=by simpa [semEvents,vT] using he
        exact ⟨ji T b9 (T.fX nT) hi (.inr rfl) true (.inr (mG T (by simp [semEvents]) (by rw [hd];simp [deafBehind,semEvents]))) _ _ _,by simp [vT]⟩
 |3,he=>obtain rfl:mh .enable=e:=by simpa [semEvents,mh] using he
        exact ⟨.mute rfl,by simp [mh]⟩
 |k+4,he=>simp [semEvents] at he
theorem aC.Ht (T:aC P C b o ae Fin who rel ρ q gs w t) (hA:∀g w,ae g w->g.status=.running) (hS:bO ρ gs w) (hi:gs[i]?=some g) (hr:ρ i=.ku) (iq:0<i) (h:AtD4 P b o g w):fp P C b o ae Fin who rel ρ q gs w sl t i:=by
 have hlt:i<gs.size:=(cI hi)
 have b9:C.on:=T.jw (i:=i) (by rw [hr];exact id)
 have nT:∀d,ρ i≠.quit d:=by rw [hr];simp
 obtain ⟨h3,hc,hu,pv⟩:=T.Ew (i:=i) (by rw [hr];rfl)
 have hw:cx b o w 0 0:=by
  rcases pv with ⟨h,_⟩|⟨_,h⟩
  ·rw [hr] at h;rcases h with h|h<;>cases h
  ·exact h
 obtain ⟨_,QP,hD⟩:=h
 obtain ⟨g',xw,hgo,m,hm⟩:=hD hw
 have gC:=hw.setSm 1
 refine T.moves hA hS (r':=.quit 1) (n':=m) (who':=who) (bZ:=rel) hi (by rw [hr];rfl) (by rw [dh iq];exact hgo) ((gH w b (o+1) _).mono (zc T b9 (.inr rfl))) (fun j _=>T.tq b9 (.inr rfl) ⟨_,_,gC⟩ j) (fun p h e=>by cases e) (fun p h e=>by cases e) rfl (.inl rfl) (by rw [hr];exact fun e=>by cases e) ⟨iq,hm⟩ ?_ (.inr ⟨b9,nT⟩) ?_ (by rw [hr];simp [aX.count]) (.inr (by rw [hr];exact fun p h e=>by cases e)) (by rw [hr];exact .inr (.inl ⟨rfl,rfl⟩)) (fun _ _ _=>.inr ⟨QP,xw⟩) (fun e=>by omega) (fun q' _ _=>jG hlt (by rw [hr];simp [aX.fW]))
 ·exact T.jS (H:=False) _ _ (by rw [hr];rfl) (by rw [hr];simp [deafBehind,aX.dd,semEvents]) (FD T b9 nT hi (by rw [hr];rfl) _ _) (fun h=>h.elim)
 ·intro _
  unfold dy
  rw [P_ _ _ (by omega),h3]
  refine .inl ⟨fun j=> ?_,.inr ⟨(js hlt (by rw [hr];rfl)).trans hc,gC⟩⟩
  by_cases e:j=i
  ·subst e;rw [O_];rfl
  ·rw [P_ _ _ e]
   cases hj:(ρ j).isLast with
   |false=>rfl
   |true=>exact absurd (hu j hj) e
variable {bp:O'}
theorem aC.I6 (T:aC P C b o ae Fin who rel ρ q gs w t) (hA:∀g w,ae g w->g.status=.running) (hS:bO ρ gs w) {p:Port} {home:O'->J'->Prop} (hi:gs[i]?=some g) (hr:ρ i=.shut p home) (fH:gP P false p g bp) (hh:home bp w) (yH:∀(x:Nat) (y:O'),(ρ x).isSelf=true->gs[x]?=some y->offersAt y p.chan (!p.out)=[]):fp P C b o ae Fin who rel ρ q gs w sl t i:=by
 have hlt:i<gs.size:=(cI hi)
 have aM:=T.eD i g hi
 rw [hr] at aM
 obtain ⟨iq,_,⟨c,z,ok,rfl,Uq⟩,_⟩:=aM
 obtain ⟨k,hc⟩:=T.shuts i _ home hr
 obtain ⟨m,hm⟩:=Uq bp w hh
 have hst:stepG P (i==0) g w=.comm bp #[rcase c z] true (.recv ok) w #[]:=by rw [dh iq];exact fH.2.2.2.2 w
 have hno:∀(x:Nat) (y:O'),(gs.setIfInBounds i ph)[x]?=some y->offersAt y c true=[]:=by
  intro x y hy
  rcases getElem?_stand gs i x y hy with ⟨_,rfl⟩|⟨hx,pg⟩
  ·exact offersAt_ph _ _
  ·cases hs:(ρ x).isSelf with
   |true=>exact yH x y hs pg
   |false=>
    refine T.Am hA pg hs fun p' h' e ec=> ?_
    obtain ⟨k',hc'⟩:=T.chans x p' h' e
    rw [ec] at hc'
    rw [show (Port.recv c z ok).chan=c from rfl,hc'] at hc
    cases hc
 have hrun:=crowd_recv_closed (sl:=sl) (blocking:=true) hi hst hc (partners_nil hno)
 rw [finishComm_recv] at hrun
 generalize hu:(cC i g.frame.fn g.frame.place #[]++#[({g:=i,fn:=bp.frame.fn,pos:=bp.frame.place,act:=.recvClosed c}:MemOp)]:Array MemOp)=u at hrun
 have OD:u=#[{g:=i,fn:=bp.frame.fn,pos:=bp.frame.place,act:=.recvClosed c}]:=by rw [<-hu,ofEvents_eq];simp
 have hq:∀j,∀op∈u,∀d,deafStep j d op=d:=by
  intro j op hop d
  subst OD
  simp only [List.mem_toArray,List.mem_cons,List.not_mem_nil,or_false] at hop
  subst hop;rfl
 have hmu:∀op∈u,op.act.touch?=none/\∀x,op.act≠.mark (.release x):=by
  intro op hop
  subst OD
  simp only [List.mem_toArray,List.mem_cons,List.not_mem_nil,or_false] at hop
  subst hop;exact ⟨rfl,by simp⟩
 have vC:gs.map (woken P g (parked g #[] .send) w)=gs:=by
  have:woken P g (parked g #[] .send) w=id:=by funext y;simp [woken,parked]
  rw [this,Array.map_id]
 have hdd:(fun j=>(upd ρ i .done j).dd)=fun j=>(ρ j).dd:=by
  funext j
  by_cases e:j=i
  ·subst e;rw [O_,hr];rfl
  ·rw [P_ _ _ e]
 have hcn:cnt (upd ρ i .done) gs.size=cnt ρ gs.size:=by
  have:=kL (ρ:=ρ) .done hlt
  rw [hr] at this
  simpa [aX.count] using this
 obtain ⟨q',T',h1,h2⟩:=T.step hA (a:=g) (a':=parked g #[] .send) (g':=Go.Conc.served bp (recvd ok z false)) (r':=.done) (n':=m) (who':=who) (bZ:=rel) (u:=u) hi (fun j _=>RB.refl j w) (C_ _) (fun r ob h _ _=>h) (T.mO i)
  (fun p' h' e=>by cases e) (fun p' h' e=>by cases e) (fun j k d hj=>by
   by_cases e:j=i
   ·subst e;rw [O_] at hj;cases hj
   ·rw [P_ _ _ e] at hj;exact T.one j k d hj) (fun x hx=>by
   by_cases e:x=i
   ·subst e;rw [O_];exact .inr (.inr rfl)
   ·rw [P_ _ _ e];exact T.holder x hx) ⟨iq,hm⟩
  (by
   rw [pN (by rw [hr];rfl),hdd]
   exact T.tr.mute (fun op h=>(hmu op h).1) (fun i hi=>Acc.app (fun _ h=>h) hi) (fun j=>(Deaf_quiet (hq j)).trans (T.tr.deaf j)) (fun op h=>(hmu op h).2))
  (fun c=>(T.wg c).dG hlt (.inl (by omega)) (by rw [hr];rfl) (by rw [hr];rfl) (.inr rfl)) (fun c=>absurd (T.jw (i:=i) (by rw [hr];exact id)) c) (fun hd=>absurd hd (T.fX (by rw [hr];simp))) (by rw [hcn];exact T.few) (fun _ _ h=>.inl h) (fun e=>by omega)
 rw [vC] at T'
 refine ⟨_,w,_,upd ρ i .done,q',who,rel,hrun,by simp,T',jG hlt (by rw [hr];simp [aX.fW]),Out.refl _ _,Bu (by rw [hr];exact .inr (.inl ⟨rfl,rfl⟩)),fun _=>rfl,fun x hx=> ?_,h2,.inr fun p' h' e=>(by rw [hr] at e;cases e),fun hc=>by
  rcases hc i with h|⟨d,h⟩|h<;>rw [hr] at h<;>cases h⟩
 have TS:x≠i:=fun e=>by subst e;rw [hr] at hx;cases hx
 rw [I_ (ru TS)]
theorem aC.VQ (T:aC P C b o ae Fin who rel ρ q gs w t) (hA:∀g w,ae g w->g.status=.running) (hS:bO ρ gs w) (hi:gs[i]?=some g) (lu:(ρ i).isSelf=false) (OM:∀s,ρ i≠.wait s) (hrun:g.status=.running)
 (yH:∀p home,(ρ i=.seat p home\/ρ i=.shut p home)->∀(x:Nat) (y:O'),(ρ x).isSelf=true->gs[x]?=some y->offersAt y p.chan (!p.out)=[]):fp P C b o ae Fin who rel ρ q gs w sl t i:=by
 have aM:=T.eD i g hi
 cases hr:ρ i with
 |self k d=>rw [hr] at lu;cases lu
 |seat p home=>exact T.RV hA hS hi hr hrun (yH p home (.inl hr))
 |none=>rw [hr] at aM;exact aM.elim
 |wait s=>exact absurd hr (OM s)
 |quit d=>exact T.Jp hA hS hi hr hrun
 |done=>
  rw [hr] at aM
  rcases aM.2.cases with dR|⟨n',hn,hst⟩
  ·exact T.Lm hA hS hi hr aM.1 (dR w (RB.refl i w))
  ·obtain ⟨g',w',es,hgo,hd,iJ⟩:=hst w (RB.refl i w)
   exact T.Mp hA hS (n':=n') hi (by rw [hr];rfl) (by omega) (by rw [dh aM.1];exact hgo) hd (by rw [hr];exact ⟨aM.1,iJ⟩) (.inr (by rw [hr];exact fun p h e=>by cases e))
 |shut p home=>
  rw [hr] at aM
  rcases aM.2.2.2.cases with dR|⟨n',hn,hst⟩
  ·obtain ⟨bp,fH,hh⟩:=dR w (RB.refl i w)
   exact T.I6 hA hS hi hr fH hh (yH p home (.inr hr))
  ·obtain ⟨g',w',es,hgo,hd,iJ⟩:=hst w (RB.refl i w)
   exact T.Mp hA hS (n':=n') hi (by rw [hr];rfl) (by omega) (by rw [dh aM.1];exact hgo) hd (by rw [hr];exact ⟨aM.1,aM.2.1,aM.2.2.1,iJ⟩) (.inr (by rw [hr];exact fun p h e=>by cases e))
 |rel=>
  rw [hr] at aM
  rcases aM.2.cases with dR|⟨n',hn,hst⟩
  ·exact T.MC hA hS hi hr aM.1 (dR w (RB.refl i w))
  ·obtain ⟨g',w',es,hgo,⟨rfl,rfl⟩,iJ⟩:=hst w (RB.refl i w)
   exact T.IM hA hS (n':=n') hi hr aM.1 (by simp [aX.fW]) rfl (fun _ _=>⟨(fun e=>by cases e),(fun e=>by cases e)⟩) (fun e=>by cases e) id (by omega) hgo ⟨aM.1,iJ⟩
 |deaf=>
  rw [hr] at aM
  rcases aM.2.cases with dR|⟨n',hn,hst⟩
  ·exact T.Lq hA hS hi hr aM.1 (dR w (RB.refl i w))
  ·obtain ⟨g',w',es,hgo,⟨rfl,rfl⟩,iJ⟩:=hst w (RB.refl i w)
   exact T.IM hA hS (n':=n') hi hr aM.1 (by simp [aX.fW]) rfl (fun _ _=>⟨(fun e=>by cases e),(fun e=>by cases e)⟩) (fun e=>by cases e) id (by omega) hgo ⟨aM.1,iJ⟩
 |ky=>
  rw [hr] at aM
  rcases aM.2.cases with dR|⟨n',hn,hst⟩
  ·exact T.Hv hA hS hi hr aM.1 (dR w (RB.refl i w))
  ·obtain ⟨g',w',es,hgo,⟨rfl,rfl⟩,iJ⟩:=hst w (RB.refl i w)
   exact T.IM hA hS (n':=n') hi hr aM.1 (by simp [aX.fW]) rfl (fun _ _=>⟨(fun e=>by cases e),(fun e=>by cases e)⟩) (fun e=>by cases e) id (by omega) hgo ⟨aM.1,iJ⟩
 |kx=>
  rw [hr] at aM
  rcases aM.2.cases with dR|⟨n',hn,hst⟩
  ·exact T.Hu hA hS hi hr aM.1 (dR w (RB.refl i w))
  ·obtain ⟨g',w',es,hgo,⟨rfl,rfl⟩,iJ⟩:=hst w (RB.refl i w)
   exact T.IM hA hS (n':=n') hi hr aM.1 (by simp [aX.fW]) rfl (fun _ _=>⟨(fun e=>by cases e),(fun e=>by cases e)⟩) (fun e=>by cases e) id (by omega) hgo ⟨aM.1,iJ⟩
 |ku=>
  rw [hr] at aM
  rcases aM.2.cases with dR|⟨n',hn,hst⟩
  ·exact T.Ht hA hS hi hr aM.1 (dR w (RB.refl i w))
  ·obtain ⟨g',w',es,hgo,⟨rfl,rfl⟩,iJ⟩:=hst w (RB.refl i w)
   exact T.IM hA hS (n':=n') hi hr aM.1 (by simp [aX.fW]) rfl (fun _ _=>⟨(fun e=>by cases e),(fun e=>by cases e)⟩) (fun e=>by cases e) id (by omega) hgo ⟨aM.1,iJ⟩
theorem lex_trans {α β:Type} {r:α->α->Prop} {s:β->β->Prop} (hr:∀a b c,r a b->r b c->r a c) (hs:∀a b c,s a b->s b c->s a c):∀a b c,Prod.Lex r s a b->Prod.Lex r s b c->Prod.Lex r s a c:=by
 rintro _ _ _ (⟨b1,b2,h1⟩|⟨a1,h1⟩) h
 ·cases h with
  |left _ _ h2=>exact .left _ _ (hr _ _ _ h1 h2)
  |right _ h2=>exact .left _ _ h1
 ·cases h with
  |left _ _ h2=>exact .left _ _ h2
  |right _ h2=>exact .right _ (hs _ _ _ h1 h2)
theorem Eu:∀a b c,Bz a b->Bz b c->Bz a c:=
 lex_trans (fun _ _ _=>Nat.lt_trans) (lex_trans (fun _ _ _=>Nat.lt_trans) (lex_trans (fun _ _ _=>Nat.lt_trans) (fun _ _ _=>Nat.lt_trans)))
def Tag.pre:Tag->Bool
 | .w0| .IQ| .w1| .w2 _=>true
 |_=>false
theorem rL {s:Tag} {n:Nat} (h0:ρ 0=.wait s) (hs:s.pre=true):dy b o ρ n w↔((∀j,(ρ j).isLast=false)/\cx b o w (cnt ρ n * KK) 0):=by
 unfold dy
 rw [h0]
 cases s<;>first|(cases hs;done)|exact Iff.rfl
variable {s':Tag} {n':Nat}
theorem AG {s:Tag} {q':Nat->Nat} {n:Nat} (hlt:0<n) (h0:ρ 0=.wait s) (h:jB (upd ρ 0 (.wait s')) n<jB ρ n\/(jB (upd ρ 0 (.wait s')) n=jB ρ n/\n'<q 0)) (h1:q' 0=n') (h2:∀j,j≠0->ρ j≠.wait .w3->q' j=q j):
 Bz (meas (upd ρ 0 (.wait s')) q' n) (meas ρ q n):=by
 have eA:wP (upd ρ 0 (.wait s')) n=wP ρ n:=by
  have:=tu (ρ:=ρ) (.wait s') hlt
  rw [h0] at this
  simpa [aX.fW] using this
 have eB:uw (upd ρ 0 (.wait s')) q' n=uw ρ q n:=sumTo_congr fun i _=>by
  by_cases e:i=0
  ·subst e;simp [O_,h0,aX.fW]
  ·rw [P_ _ _ e]
   by_cases hw:ρ i=.wait .w3
   ·simp [hw,aX.fW]
   ·rw [h2 i e hw]
 unfold meas
 rw [eA,eB]
 refine .right _ (.right _ ?_)
 rcases h with h|⟨h,hq⟩
 ·exact .left _ _ h
 ·rw [h]
  refine .right _ ?_
  simp only [Ob,O_,h0,h1]
  exact hq
variable {g':O'} {es:Array Event}
theorem aC.oP (T:aC P C b o ae Fin who rel ρ q gs w t) (hA:∀g w,ae g w->g.status=.running) (hS:bO ρ gs w) {s:Tag} (hi:gs[0]?=some g) (hr:ρ 0=.wait s) (hgo:stepG P true g w=.go g' w es)
 (hd:deafBehind (aX.wait s).dd es=(aX.wait s').dd)
 (hm:∀(k:Nat) e,es[k]?=some e->(∀x,e.loc≠.mark (.release x))/\((MemAct.ofEvent e).touch?=none\/(e=mF ⟨b,o,none⟩)\/e=⟨.mark (.write ⟨b,o+1,none⟩),false,true⟩))
 (aM:GA P C b o ae Fin s' n' g' w) (my:C.on->dy b o (upd ρ 0 (.wait s')) gs.size w) (ES:s'=.w3->cx b o w 0 1->0<n')
 (Kt:jB (upd ρ 0 (.wait s')) gs.size<jB ρ gs.size\/(jB (upd ρ 0 (.wait s')) gs.size=jB ρ gs.size/\n'<q 0)):fp P C b o ae Fin who rel ρ q gs w sl t 0:=by
 have hlt:0<gs.size:=T.cX
 have b9:C.on:=T.jw (i:=0) (by rw [hr];exact id)
 have nT:∀d,ρ 0≠.quit d:=by rw [hr];simp
 refine T.moves hA hS (w':=w) (r':=.wait s') (n':=n') (who':=who) (bZ:=rel) hi (by rw [hr];rfl) hgo (Out.refl _ _) (fun j _=>RB.refl j w) (fun p h e=>by cases e) (fun p h e=>by cases e) rfl (.inl rfl) (by rw [hr];exact fun e=>by cases e) ⟨rfl,aM⟩ ?_ (.inr ⟨b9,nT⟩) my (nz _) (.inr (by rw [hr];exact fun p h e=>by cases e)) (by rw [hr];exact .inr (.inr ⟨_,_,rfl,rfl⟩)) (fun _ _ h=>.inl h) (fun _ e h=>by injection e with e;exact ES e h) (fun q' h1 h2=>AG hlt hr Kt h1 h2)
 refine T.jS (H:=False) _ _ (by rw [hr];rfl) (by rw [hr];exact hd) (fun k e he=> ?_) (fun h=>h.elim)
 obtain ⟨h1,h2⟩:=hm k e he
 refine ⟨?_,h1⟩
 rcases h2 with h2|rfl|rfl
 ·exact .mute h2
 ·exact ji T b9 (T.fX nT) hi (.inl rfl) false (.inl rfl) _ _ _
 ·exact .book (b:=⟨.cell ⟨b,o+1,none⟩,true,.said⟩) rfl hlt (T.fX nT) ((T.yk _).2 ⟨b9,.inr rfl⟩) (.inr ⟨rfl,rfl⟩)
theorem aC.kH (T:aC P C b o ae Fin who rel ρ q gs w t) (hA:∀g w,ae g w->g.status=.running) (hS:bO ρ gs w) {s:Tag} (hi:gs[0]?=some g) (hr:ρ 0=.wait s) (hgo:stepG P true g w=.go g' w es)
 (hes:∀e∈es,e=⟨.mark (.write ⟨b,o+1,none⟩),false,true⟩) (aM:GA P C b o ae Fin s n' g' w) (hn:n'<q 0) (ES:s=.w3->0<n'):fp P C b o ae Fin who rel ρ q gs w sl t 0:=by
 have hu:upd ρ 0 (.wait s)=ρ:=by
  funext j
  by_cases e:j=0
  ·subst e;rw [O_,hr]
  ·rw [P_ _ _ e]
 refine T.oP hA hS hi hr hgo (deafBehind_still (fun e he=>by rw [hes e he];exact ⟨by simp,by simp⟩) _) (fun k e he=> ?_) aM (by rw [hu];exact T.wg) (fun h _=>ES h) (.inr ⟨by rw [hu],hn⟩)
 have:=hes e (l_ he)
 subst this
 exact ⟨by simp,.inr (.inr rfl)⟩
theorem sN {n:Nat} {s:Tag} (hlt:0<n) (h0:ρ 0=.wait s):cnt (upd ρ 0 (.wait s')) n=cnt ρ n:=by
 have:=kL (ρ:=ρ) (.wait s') hlt
 rw [h0] at this
 simpa [aX.count] using this
theorem tP {s:Tag} (h0:ρ 0=.wait s) (h:∀j,(ρ j).isLast=false):∀j,(upd ρ 0 (.wait s') j).isLast=false:=rW h rfl
theorem vX {n:Nat} {s:Tag} (hlt:0<n) (h0:ρ 0=.wait s) (hs:s.pre=true) (xv:s'.pre=true) (h:dy b o ρ n w):dy b o (upd ρ 0 (.wait s')) n w:=by
 obtain ⟨h1,h2⟩:=(rL h0 hs).1 h
 exact (rL (O_ _ _ _) xv).2 ⟨tP h0 h1,by rw [sN hlt h0];exact h2⟩
theorem aC.PI (T:aC P C b o ae Fin who rel ρ q gs w t) (hA:∀g w,ae g w->g.status=.running) (hS:bO ρ gs w) (hi:gs[0]?=some g) (hr:ρ 0=.wait .w0) (h:AtKd P C b o ae g w):fp P C b o ae Fin who rel ρ q gs w sl t 0:=by
 obtain ⟨_,g',hgo,m,hm⟩:=h
 refine T.oP hA hS (s':=.IQ) (n':=m) hi hr hgo rfl (fun k e he=> ?_) hm (fun c=>vX T.cX hr rfl rfl (T.wg c)) (fun e=>by cases e) (.inl (by simp only [jB,O_,hr];omega))
 obtain rfl:e=mh .disable:=by simpa using l_ he
 exact ⟨by simp [mh],.inl rfl⟩
theorem aC.IU (T:aC P C b o ae Fin who rel ρ q gs w t) (hA:∀g w,ae g w->g.status=.running) (hS:bO ρ gs w) (hi:gs[0]?=some g) (hr:ρ 0=.wait .w1) (h:AtW1 P C b o ae Fin g w):fp P C b o ae Fin who rel ρ q gs w sl t 0:=by
 have b9:C.on:=T.jw (i:=0) (by rw [hr];exact id)
 have nT:∀d,ρ 0≠.quit d:=by rw [hr];simp
 obtain ⟨h1,h2⟩:=(rL hr rfl).1 (T.wg b9)
 have hf:=T.few
 obtain ⟨g',hgo,hz,Y8⟩:=h.2 (cnt ρ gs.size) (by omega) h2
 have uO:∀(k:Nat) e,(#[mF ⟨b,o,none⟩]:Array Event)[k]?=some e->(∀x,e.loc≠.mark (.release x))/\((MemAct.ofEvent e).touch?=none\/(e=mF ⟨b,o,none⟩)\/e=⟨.mark (.write ⟨b,o+1,none⟩),false,true⟩):=fun k e he=>by
  obtain rfl:e=mF ⟨b,o,none⟩:=by simpa using l_ he
  exact ⟨by simp [mF],.inr (.inl rfl)⟩
 by_cases hc:cnt ρ gs.size=0
 ·obtain ⟨m,hm⟩:=hz hc
  refine T.oP hA hS (s':=.w5) (n':=m) hi hr hgo (by simp [deafBehind,mF,aX.dd]) uO hm ?_ (fun e=>by cases e) (.inl (by simp only [jB,O_,hr];omega))
  intro _
  unfold dy
  rw [O_]
  rw [hc] at h2
  exact ⟨tP hr h1,(sN T.cX hr).trans hc,by simpa using h2⟩
 ·obtain ⟨m,hm⟩:=Y8 hc
  refine T.oP hA hS (s':=.w2 (cnt ρ gs.size)) (n':=m) hi hr hgo (by simp [deafBehind,mF,aX.dd]) uO ⟨by omega,hm⟩ (fun c=>vX T.cX hr rfl rfl (T.wg c)) (fun e=>by cases e) (.inl ?_)
  simp only [jB,O_,hr,sN T.cX hr,if_true]
  omega
theorem aC.PH (T:aC P C b o ae Fin who rel ρ q gs w t) (hA:∀g w,ae g w->g.status=.running) (hS:bO ρ gs w) {vs:Nat} (hi:gs[0]?=some g) (hr:ρ 0=.wait (.w2 vs)) (hvs:0<vs) (h:AtW2 P C b o ae Fin vs g w):fp P C b o ae Fin who rel ρ q gs w sl t 0:=by
 have b9:C.on:=T.jw (i:=0) (by rw [hr];exact id)
 have nT:∀d,ρ 0≠.quit d:=by rw [hr];simp
 obtain ⟨h1,h2⟩:=(rL hr rfl).1 (T.wg b9)
 have hf:=T.few
 obtain ⟨hy,hn⟩:=h.2 (cnt ρ gs.size) (by omega) h2
 by_cases hc:cnt ρ gs.size=vs
 ·obtain ⟨g',hgo,m,hm⟩:=hy hc
  have gC:=h2.setSt (cnt ρ gs.size * KK+1)
  refine T.moves hA hS (r':=.wait .w3) (n':=m+1) (who':=who) (bZ:=rel) hi (by rw [hr];rfl) hgo ((gH w b o _).mono (zc T b9 (.inl rfl))) (fun j _=>T.tq b9 (.inl rfl) ⟨_,_,gC⟩ j) (fun p h e=>by cases e) (fun p h e=>by cases e) rfl (.inl rfl) (by rw [hr];exact fun e=>by cases e) ⟨rfl,.inl ⟨m,rfl,hm⟩⟩ ?_ (.inr ⟨b9,nT⟩) ?_ (nz _) (.inr (by rw [hr];exact fun p h e=>by cases e)) (by rw [hr];exact .inr (.inr ⟨_,_,rfl,rfl⟩)) (fun h=>absurd rfl h) (fun _ _ _=>by omega) (fun q' h1 h2=>AG T.cX hr (.inl ?_) h1 h2)
  ·refine T.jS (H:=False) _ _ (by rw [hr];rfl) (by rw [hr];simp [deafBehind,aX.dd,mF,vT]) (fun k e he=> ?_) (fun h=>h.elim)
   match k,he with
   |0,he=>
    obtain rfl:mF ⟨b,o,none⟩=e:=by simpa using he
    exact ⟨ji T b9 (T.fX nT) hi (.inl rfl) false (.inl rfl) _ _ _,by simp [mF]⟩
   |1,he=>
    obtain rfl:vT ⟨b,o,none⟩=e:=by simpa using he
    exact ⟨ji T b9 (T.fX nT) hi (.inl rfl) true (.inl rfl) _ _ _,by simp [vT]⟩
   |k+2,he=>simp at he
  ·intro _
   unfold dy
   rw [O_]
   exact .inl ⟨tP hr h1,.inl ⟨by rw [sN T.cX hr];omega,by rw [sN T.cX hr];exact gC⟩⟩
  ·simp only [jB,O_,hr,hc,if_true];omega
 ·obtain ⟨g',hgo,m,hm⟩:=hn hc
  refine T.oP hA hS (s':=.IQ) (n':=m) hi hr hgo (by simp [deafBehind,mF,aX.dd]) (fun k e he=> ?_) hm (fun c=>vX T.cX hr rfl rfl (T.wg c)) (fun e=>by cases e) (.inl ?_)
  ·obtain rfl:e=mF ⟨b,o,none⟩:=by simpa using l_ he
   exact ⟨by simp [mF],.inr (.inl rfl)⟩
  ·simp only [jB,O_,hr,if_neg (ru hc)];omega
theorem aC.PG (T:aC P C b o ae Fin who rel ρ q gs w t) (hA:∀g w,ae g w->g.status=.running) (hS:bO ρ gs w) (hi:gs[0]?=some g) (hr:ρ 0=.wait .w3) (hq:0<q 0) (h:∀w₁,RB C b o 0 w w₁->AtW3 P C b o Fin g w₁):fp P C b o ae Fin who rel ρ q gs w sl t 0:=by
 have fH:=h w (RB.refl 0 w)
 have b9:C.on:=T.jw (i:=0) (by rw [hr];exact id)
 have nT:∀d,ρ 0≠.quit d:=by rw [hr];simp
 have hu:upd ρ 0 (.wait .w3)=ρ:=by
  funext j
  by_cases e:j=0
  ·subst e;rw [O_,hr]
  ·rw [P_ _ _ e]
 have jm:∀s,cx b o w s 0->fp P C b o ae Fin who rel ρ q gs w sl t 0:=fun s hw=>by
  refine T.oP hA hS (s':=.w3) (n':=0) hi hr (fH.2.2.1 ⟨s,hw⟩) rfl (fun k e he=>by simp at he) (.inr ⟨rfl,g,fH,rfl,h⟩) (by rw [hu];exact T.wg) (fun _ h01=> ?_) (.inr ⟨by rw [hu],hq⟩)
  have:=(hw.uniq h01).2
  omega
 have hw:=T.wg b9
 unfold dy at hw
 rw [hr] at hw
 rcases hw with ⟨hl,⟨_,hw⟩|⟨hc,hw⟩⟩|⟨_,i,_,⟨_,hw⟩|⟨_,hw⟩⟩
 ·exact jm _ hw
 ·obtain ⟨g',hgo,m,hm⟩:=fH.2.2.2 hw
  have gC:=hw.setSm 0
  refine T.moves hA hS (r':=.wait .w4) (n':=m) (who':=who) (bZ:=rel) hi (by rw [hr];rfl) hgo ((gH w b (o+1) _).mono (zc T b9 (.inr rfl))) (fun j _=>T.tq b9 (.inr rfl) ⟨_,_,gC⟩ j) (fun p h e=>by cases e) (fun p h e=>by cases e) rfl (.inl rfl) (by rw [hr];exact fun e=>by cases e) ⟨rfl,hm⟩ ?_ (.inr ⟨b9,nT⟩) ?_ (nz _) (.inr (by rw [hr];exact fun p h e=>by cases e)) (by rw [hr];exact .inr (.inr ⟨_,_,rfl,rfl⟩)) (fun h=>absurd rfl h) (fun _ e=>by cases e) (fun q' h1 h2=>AG T.cX hr (.inl ?_) h1 h2)
  ·exact T.jS (H:=False) _ _ (by rw [hr];rfl) (by rw [hr];simp [deafBehind,aX.dd,semEvents]) (FD T b9 nT hi (by rw [hr];rfl) _ _) (fun h=>h.elim)
  ·intro _
   unfold dy
   rw [O_]
   exact ⟨tP hr hl,(sN T.cX hr).trans hc,gC⟩
  ·simp only [jB,O_,hr];omega
 ·exact jm _ hw
 ·exact jm _ hw
theorem aC.PF (T:aC P C b o ae Fin who rel ρ q gs w t) (hA:∀g w,ae g w->g.status=.running) (hS:bO ρ gs w) (hi:gs[0]?=some g) (hr:ρ 0=.wait .w4) (h:AtW4 P C b o Fin g w):fp P C b o ae Fin who rel ρ q gs w sl t 0:=by
 have b9:C.on:=T.jw (i:=0) (by rw [hr];exact id)
 have nT:∀d,ρ 0≠.quit d:=by rw [hr];simp
 have hw:=T.wg b9
 unfold dy at hw
 rw [hr] at hw
 obtain ⟨g',hgo,m,hm⟩:=h.2 hw.2.2
 refine T.oP hA hS (s':=.w5) (n':=m) hi hr hgo (by simp [deafBehind,mF,aX.dd]) (fun k e he=> ?_) hm ?_ (fun e=>by cases e) (.inl (by simp only [jB,O_,hr];omega))
 ·obtain rfl:e=mF ⟨b,o,none⟩:=by simpa using l_ he
  exact ⟨by simp [mF],.inr (.inl rfl)⟩
 ·intro _
  unfold dy
  rw [O_]
  exact ⟨tP hr hw.1,(sN T.cX hr).trans hw.2.1,hw.2.2⟩
theorem aC.PE (T:aC P C b o ae Fin who rel ρ q gs w t) (hA:∀g w,ae g w->g.status=.running) (hS:bO ρ gs w) (hi:gs[0]?=some g) (hr:ρ 0=.wait .w5) (h:AtKe P C b o Fin g w):fp P C b o ae Fin who rel ρ q gs w sl t 0:=by
 have b9:C.on:=T.jw (i:=0) (by rw [hr];exact id)
 have nT:∀d,ρ 0≠.quit d:=by rw [hr];simp
 have hw:=T.wg b9
 unfold dy at hw
 rw [hr] at hw
 obtain ⟨_,g',hgo,m,hm⟩:=h
 refine T.oP hA hS (s':=.w6) (n':=m) hi hr hgo rfl (fun k e he=> ?_) hm ?_ (fun e=>by cases e) (.inl (by simp only [jB,O_,hr];omega))
 ·obtain rfl:e=mh .enable:=by simpa using l_ he
  exact ⟨by simp [mh],.inl rfl⟩
 ·intro _
  unfold dy
  rw [O_]
  exact ⟨tP hr hw.1,(sN T.cX hr).trans hw.2.1,hw.2.2⟩
variable {m:Nat}
theorem aC.Tn (T:aC P C b o ae Fin who rel ρ q gs w t) (hi:gs[0]?=some g) (hr:ρ 0=.wait .IQ) (hm:Goes P true (RB C b o 0) (DW b o) (AtW1 P C b o ae Fin) m g w):aC P C b o ae Fin who rel (upd ρ 0 (.wait .w1)) (upd q 0 m) gs w t:=by
 have hlt:=T.cX
 refine ⟨T.ok,T.ad,T.yk,T.IB,fun j hj=> ?_,T.old,T.plain,T.CG,T.mO, ?_,fun i y hy=> ?_,fun i lE=> ?_,fun i p home e=> ?_,fun i j p p' h h' e e'=> ?_,fun i p home e=> ?_,fun i k d e=> ?_,fun x hx=> ?_,by rw [sN hlt hr];exact T.few,fun c=>vX hlt hr rfl rfl (T.wg c),fun c=>absurd (T.jw (i:=0) (by rw [hr];exact id)) c,hlt,fun e=>by rw [O_] at e;cases e⟩
 ·rw [P_ _ _ (fun e=>by subst e;obtain ⟨d,e⟩:=T.Ls _ hj;rw [hr] at e;cases e)]
  exact T.Ls j hj
 ·rw [pN (by rw [hr];rfl)]
  have:(fun j=>(upd ρ 0 (.wait .w1) j).dd)=fun j=>(ρ j).dd:=by
   funext j
   by_cases e:j=0
   ·subst e;rw [O_,hr];rfl
   ·rw [P_ _ _ e]
  rw [this];exact T.tr
 ·by_cases e:i=0
  ·subst e
   rw [hi] at hy;obtain rfl:=some_inj hy
   rw [O_,O_]
   exact ⟨rfl,hm⟩
  ·rw [P_ _ _ e,P_ _ _ e];exact T.eD i y hy
 ·rw [P_ _ _ (by omega)];exact T.above i lE
 ·by_cases e':i=0
  ·subst e';rw [O_] at e;cases e
  ·rw [P_ _ _ e'] at e;exact T.chans i p home e
 ·have h1:i≠0:=fun x=>by subst x;rw [O_] at e;cases e
  have h2:j≠0:=fun x=>by subst x;rw [O_] at e';cases e'
  rw [P_ _ _ h1] at e
  rw [P_ _ _ h2] at e'
  exact T.apart i j p p' h h' e e'
 ·have h1:i≠0:=fun x=>by subst x;rw [O_] at e;cases e
  rw [P_ _ _ h1] at e
  exact T.shuts i p home e
 ·have h1:i≠0:=fun x=>by subst x;rw [O_] at e;cases e
  rw [P_ _ _ h1] at e
  exact T.one i k d e
 ·by_cases e:x=0
  ·exact .inl e
  ·rw [P_ _ _ e];exact T.holder x hx
theorem aC.RU (T:aC P C b o ae Fin who rel ρ q gs w t) (hA:∀g w,ae g w->g.status=.running) (uQ:∀g w,ae g w->∃m,Goes P true (RB C b o 0) (DW b o) (AtW1 P C b o ae Fin) m g w) (hS:bO ρ gs w) {s:Tag} (hi:gs[0]?=some g) (hr:ρ 0=.wait s) (hrun:g.status=.running):
 fp P C b o ae Fin who rel ρ q gs w sl t 0\/(s=.w6/\AtAcq P b o Fin g w):=by
 have aM:=T.eD 0 g hi
 rw [hr] at aM
 have hW:=aM.2
 cases s with
 |w0=>
  left
  rcases Goes.cases (show Goes _ _ _ _ _ _ _ _ from hW) with dR|⟨n',hn,hst⟩
  ·exact T.PI hA hS hi hr (dR w (RB.refl 0 w))
  ·obtain ⟨g',w',es,hgo,⟨rfl,hes⟩,iJ⟩:=hst w (RB.refl 0 w)
   exact T.kH hA hS (n':=n') hi hr hgo hes iJ (by omega) (fun e=>by cases e)
 |IQ=>
  left
  rcases Goes.cases (show Goes _ _ _ _ _ _ _ _ from hW) with dR|⟨n',hn,hst⟩
  ·obtain ⟨m,hm⟩:=uQ g w (dR w (RB.refl 0 w))
   have T':=T.Tn hi hr hm
   have uh:bO (upd ρ 0 (.wait .w1)) gs w:=fun x y hx hy=>hS x y (by
    by_cases e:x=0
    ·subst e;rw [O_] at hx;cases hx
    ·rw [P_ _ _ e] at hx;exact hx) hy
   have key:fp P C b o ae Fin who rel (upd ρ 0 (.wait .w1)) (upd q 0 m) gs w sl t 0:=by
    rcases hm.cases with QA|⟨n',hn,hst⟩
    ·exact T'.IU hA uh hi (O_ _ _ _) (QA w (RB.refl 0 w))
    ·obtain ⟨g',w',es,hgo,⟨rfl,hes⟩,iJ⟩:=hst w (RB.refl 0 w)
     exact T'.kH hA uh (n':=n') hi (O_ _ _ _) hgo hes iJ (by rw [O_];omega) (fun e=>by cases e)
   obtain ⟨gs',w',ops,fT,q',who',bZ,k1,k2,k3,k4,k5,k6,k7,k8,k9,JU⟩:=key
   refine ⟨gs',w',ops,fT,q',who',bZ,k1,k2,k3,Eu _ _ _ k4 (AG T.cX hr (.inl ?_) (O_ _ _ _) (fun j hj _=>P_ _ _ hj)),k5,fun j=> ?_,fun ⟨x,hx⟩=>k7 ⟨x, ?_⟩,fun x hx=>k8 x ?_,fun j hj hw=>(k9 j hj (by rw [P_ _ _ hj];exact hw)).trans (P_ _ _ hj),.inr fun p home e=>(by rw [hr] at e;cases e),fun hc=>by
    rcases hc 0 with h|⟨d,h⟩|h<;>rw [hr] at h<;>cases h⟩
   ·simp only [jB,O_,hr];omega
   ·exact (Bu (ρ:=ρ) (i:=0) (r':=.wait .w1) (by rw [hr];exact .inr (.inr ⟨_,_,rfl,rfl⟩)) j).trans (k6 j)
   ·rw [P_ _ _ (fun e=>by subst e;rw [hr] at hx;cases hx)];exact hx
   ·rw [P_ _ _ (fun e=>by subst e;rw [hr] at hx;cases hx)];exact hx
  ·obtain ⟨g',w',es,hgo,⟨rfl,hes⟩,iJ⟩:=hst w (RB.refl 0 w)
   exact T.kH hA hS (n':=n') hi hr hgo hes iJ (by omega) (fun e=>by cases e)
 |w1=>
  left
  rcases Goes.cases (show Goes _ _ _ _ _ _ _ _ from hW) with dR|⟨n',hn,hst⟩
  ·exact T.IU hA hS hi hr (dR w (RB.refl 0 w))
  ·obtain ⟨g',w',es,hgo,⟨rfl,hes⟩,iJ⟩:=hst w (RB.refl 0 w)
   exact T.kH hA hS (n':=n') hi hr hgo hes iJ (by omega) (fun e=>by cases e)
 |w2 v=>
  left
  rcases Goes.cases hW.2 with dR|⟨n',hn,hst⟩
  ·exact T.PH hA hS hi hr hW.1 (dR w (RB.refl 0 w))
  ·obtain ⟨g',w',es,hgo,⟨rfl,hes⟩,iJ⟩:=hst w (RB.refl 0 w)
   exact T.kH hA hS (n':=n') hi hr hgo hes ⟨hW.1,iJ⟩ (by omega) (fun e=>by cases e)
 |w3=>
  left
  rcases hW with ⟨k,hk,hg⟩|⟨_,dN,_,rfl,_⟩
  ·rcases hg.cases with dR|⟨n',hn,hst⟩
   ·exact T.PG hA hS hi hr (by omega) dR
   ·obtain ⟨g',w',es,hgo,⟨rfl,hes⟩,iJ⟩:=hst w (RB.refl 0 w)
    exact T.kH hA hS (n':=n'+1) hi hr hgo hes (.inl ⟨n',rfl,iJ⟩) (by omega) (fun e=>by omega)
  ·cases hrun
 |w4=>
  left
  rcases Goes.cases (show Goes _ _ _ _ _ _ _ _ from hW) with dR|⟨n',hn,hst⟩
  ·exact T.PF hA hS hi hr (dR w (RB.refl 0 w))
  ·obtain ⟨g',w',es,hgo,⟨rfl,hes⟩,iJ⟩:=hst w (RB.refl 0 w)
   exact T.kH hA hS (n':=n') hi hr hgo hes iJ (by omega) (fun e=>by cases e)
 |w5=>
  left
  rcases Goes.cases (show Goes _ _ _ _ _ _ _ _ from hW) with dR|⟨n',hn,hst⟩
  ·exact T.PE hA hS hi hr (dR w (RB.refl 0 w))
  ·obtain ⟨g',w',es,hgo,⟨rfl,hes⟩,iJ⟩:=hst w (RB.refl 0 w)
   exact T.kH hA hS (n':=n') hi hr hgo hes iJ (by omega) (fun e=>by cases e)
 |w6=>
  rcases Goes.cases (show Goes _ _ _ _ _ _ _ _ from hW) with dR|⟨n',hn,hst⟩
  ·exact .inr ⟨rfl,dR w (RB.refl 0 w)⟩
  ·left
   obtain ⟨g',w',es,hgo,⟨rfl,hes⟩,iJ⟩:=hst w (RB.refl 0 w)
   exact T.kH hA hS (n':=n') hi hr hgo hes iJ (by omega) (fun e=>by cases e)
def Ends (P:U') (Post:M'->J'->Prop) (m:Machine) (t:Trace):Prop:=
 ∃N last o w' t',runNT P (N+1) m t=(.ended o w',t')/\runN P N m=.next last/\step P last=.ended o w'/\Good P Post last o w' t'
variable {Post:M'->J'->Prop} {ops:Trace}
theorem Ends.step {m m':Machine} {t:Trace} (h:stepT P m=(.next m',ops)) (k:Ends P Post m' (t++ops)):Ends P Post m t:=by
 obtain ⟨N,last,o,w',t',h1,h2,h3,h4⟩:=k
 refine ⟨N+1,last,o,w',t', ?_, ?_,h3,h4⟩
 ·rw [runNT];simp only [h];exact h1
 ·rw [runN];simp only [Go.step,h];exact h2
theorem Ends.last {m:Machine} {o:Outcome} {t:Trace} (h:stepT P m=(.ended o w',ops)) (k:Good P Post m o w' (t++ops)):Ends P Post m t:=
 ⟨0,m,o,w',t++ops,by simp only [runNT,h],rfl,by simp only [Go.step,h],k⟩
variable {R:J'->J'->Prop} {D:J'->J'->Array Event->Prop}
theorem Walk.mono {main:Bool} {D':J'->J'->Array Event->Prop} {Stop:O'->J'->Prop} (hD:∀w w' es,D w w' es->D' w w' es) (h:Walk P main R D Stop g w):Walk P main R D' Stop g w:=by
 induction h with
 |stop h=>exact .stop h
 |step ng nw ne hr h1 h2 ih=>exact .step ng nw ne hr (fun w₁ h₁=>⟨(h1 w₁ h₁).1,hD _ _ _ (h1 w₁ h₁).2⟩) ih
theorem Walk.vZ {P:U'} {main:Bool} {R:J'->J'->Prop} {D:J'->J'->Array Event->Prop} {Stop:O'->J'->Prop}:∀{n:Nat} {g:O'} {w:J'},Goes P main R D Stop n g w->Walk P main R D Stop g w
 |0,_,_,h=>.stop h
 |_+1,_,_,h=>h.elim .stop fun ⟨hs,h⟩=>Walk.gU hs fun w₁ h₁=>by
  obtain ⟨g',w',es,e,hd,hg⟩:=goes_elim (h w₁ h₁)
  exact ⟨g',w',es,e,hd,Walk.vZ hg⟩
structure DH (C:cS) (w w':J') (es:Array Event):Prop where
 Qe:Sd (bS C) (fy C) w w' es
 gz:∀r,(∃g,C.Pv g (.obj r)\/C.St g (.obj r))->w'.heap[r]?=w.heap[r]?
 WU:∀e∈es,∀r,e.loc=.obj r->∀g,¬C.Pv g (.obj r)/\(C.St g (.obj r)->e.write=false)
theorem zC (hno:∀g r,¬C.Pv g (.obj r)/\¬C.St g (.obj r)) (h:Sd (bS C) (fy C) w w' es):DH C w w' es:=
 ⟨h,fun r ⟨g,hg⟩=>(hg.elim (fun x=>absurd x (hno g r).1) fun x=>absurd x (hno g r).2),fun _ _ r _ g=>⟨(hno g r).1,fun x=>absurd x (hno g r).2⟩⟩
theorem zU {r:aX} (h:ρ i=r):upd ρ i r=ρ:=by
 funext j
 by_cases e:j=i
 ·subst e;rw [O_,h]
 ·rw [P_ _ _ e]
variable {h:Nat}
theorem AA (T:aC P C b o ae Fin who rel ρ q gs w t) {e:Event} {top:Nat} (he:EvM (bS C) (fy C) top e) (ho:∀r,e.loc=.obj r->∀g,¬C.Pv g (.obj r)/\(C.St g (.obj r)->e.write=false)) (heard:Prop) (fn:w_) (pos:String):
 qP C (fun j=>(ρ j).loose=true) gs.size h True heard {g:=h,fn,pos,act:=.ofEvent e}/\∀x,e.loc≠.mark (.release x):=by
 obtain ⟨loc,wr,sy⟩:=e
 unfold EvM at he
 cases loc with
 |cell a=>
  obtain ⟨h1,h2,h3,h4⟩:=he
  simp only at h1 h2 h3 h4
  subst h2
  have sp:∀g,C.Pv g (.cell a)\/C.St g (.cell a)->∃x k,a=⟨x,k,none⟩:=fun g hg=>by
   rcases T.plain g _ hg.symm with ⟨x,k,e⟩|⟨r,e⟩
   ·injection e with e;exact ⟨x,k,e⟩
   ·cases e
  refine ⟨.hold (b:=⟨.cell a,wr,.plain⟩) (by cases wr<;>rfl) trivial (fun hs=> ?_) (fun hs=> ?_) (fun g hg=> ?_) (fun g hg=> ?_),by simp⟩
  ·have xv:C.Sh (.cell a):=hs
   rcases ((T.yk _).1 xv).2 with e|e<;>injection e with e<;>subst e
   ·exact h3 (.inl xv)
   ·exact h3 (.inl xv)
  ·obtain ⟨x,k,e,_⟩:=T.IB _ (show C.Gr (.cell a) from hs)
   injection e with e;subst e
   exact h3 (.inr (.inl hs))
  ·obtain ⟨x,k,rfl⟩:=sp g (.inl hg)
   exact h3 (.inr (.inr ⟨g,hg⟩))
  ·obtain ⟨x,k,rfl⟩:=sp g (.inr hg)
   cases wr with
   |false=>rfl
   |true=>exact absurd ⟨g,hg⟩ (h4 rfl)
 |obj r=>
  obtain ⟨_,h2⟩:=he
  simp only at h2
  have Y7:=ho r rfl
  refine ⟨.hold (b:=⟨.obj r,wr,if sy then .atomic else .plain⟩) ?_ trivial (fun hs=> ?_) (fun hs=> ?_) (fun g=>(Y7 g).1) (fun g=>(Y7 g).2),by simp⟩
  ·cases wr with
   |false=>cases sy<;>rfl
   |true=>cases sy with
    |false=>rfl
    |true=>exact absurd (h2 rfl) (by simp)
  ·rcases ((T.yk _).1 hs).2 with e|e<;>cases e
  ·obtain ⟨x,k,e,_⟩:=T.IB _ hs;cases e
 |mark m=>
  cases m<;>first|exact he.elim|exact ⟨.mute rfl,by simp⟩
 |output=>exact he.elim
 |goroutines=>exact he.elim
theorem Dc {e:Event} {top:Nat} {hid gd:Nat->Nat->Prop} (he:EvM hid gd top e):e.loc≠.mark .disable/\e.loc≠.mark .enable:=by
 obtain ⟨loc,wr,sy⟩:=e
 unfold EvM at he
 cases loc with
 |mark m=>cases m<;>first|exact he.elim|simp
 |_=>simp
variable {a a':O'}
theorem aC.own (T:aC P C b o ae Fin (some h) rel ρ q gs w t) (hA:∀g w,ae g w->g.status=.running) (hr:ρ h=.self k d) (hi:gs[h]?=some a) (hd:DH C w w' es):
 ∃q',aC P C b o ae Fin (some h) rel ρ q' ((gs.map (woken P a a' w')).setIfInBounds h a') w' (t++cC h a.frame.fn a.frame.place es):=by
 have hlt:h<gs.size:=(cI hi)
 have dS:C.on->∀s m,cx b o w s m↔cx b o w' s m:=fun c s m=>by
  obtain ⟨S9,TI,h₀⟩:=(T.wg c).live
  have e0:=hd.Qe.cell (.inl (.inl ((T.yk _).2 ⟨c,.inl rfl⟩))) (lC h₀.st)
  have e1:=hd.Qe.cell (.inl (.inl ((T.yk _).2 ⟨c,.inr rfl⟩))) (lC h₀.sm)
  exact ⟨fun h=>h.keep e0 e1,fun h=>h.keep ⟨e0.1.symm,e0.2.symm⟩ ⟨e1.1.symm,e1.2.symm⟩⟩
 have po:∀j,RB C b o j w w':=fun j=>⟨fun c ⟨s,m,h⟩=>⟨s,m,(dS c s m).1 h⟩,fun x k hx=>hd.Qe.cell (hx.elim (fun h=>.inl (.inr (.inr ⟨j,h⟩))) fun h=>.inr ⟨j,h⟩) (T.CG j x k hx),fun r hx=>hd.gz r ⟨j,hx⟩⟩
 have hu:=zU hr
 obtain ⟨q',T',_⟩:=T.step hA (a:=a) (a':=a') (g':=a') (r':=.self k d) (n':=0) (who':=some h) (bZ:=rel) (u:=cC h a.frame.fn a.frame.place es) hi (fun j _=>po j) hd.Qe.size (fun r ob h1 h2 h3=>hd.Qe.chan r ob h1 h3)
  (fun r hr=>by obtain ⟨ob,h1,h2⟩:=T.mO h r hr;exact ⟨ob,((po h).gz r hr).trans h1,h2⟩) (fun p h' e=>by cases e) (fun p h' e=>by cases e) (by rw [hu];exact T.one) (by rw [hu];exact T.holder) trivial
  (by
   refine T.jS (H:=True) _ _ (by rw [hr]) (by rw [hr];exact deafBehind_still (fun e he=>Dc (hd.Qe.evs e he)) _) (fun j e he=> ?_) (fun _=>rfl)
   have:=l_ he
   exact AA T (hd.Qe.evs e this) (hd.WU e this) _ _ _)
  (by rw [hu];exact fun c=>(T.wg c).keep fun s m h=>(dS c s m).1 h) (fun c=>by have:=T.off c h;rw [hr] at this;exact this) (fun HG=>absurd HG (T.fX (by rw [hr];simp))) (by rw [hu];exact T.few) (fun _ h3 h=>.inl ((dS (T.jw (i:=0) (by rw [h3];exact id)) 0 1).2 h)) (fun _ e=>by cases e)
 rw [hu] at T'
 exact ⟨q',T'⟩
theorem aC.Dn (T:aC P C b o ae Fin who rel ρ q gs w t) (hA:∀g w,ae g w->g.status=.running) (uQ:∀g w,ae g w->∃m,Goes P true (RB C b o 0) (DW b o) (AtW1 P C b o ae Fin) m g w) (hS:bO ρ gs w) (hi:gs[i]?=some g) (lu:(ρ i).isSelf=false) (hrun:g.status=.running)
 (yH:∀p home,(ρ i=.seat p home\/ρ i=.shut p home)->∀(x:Nat) (y:O'),(ρ x).isSelf=true->gs[x]?=some y->offersAt y p.chan (!p.out)=[]):fp P C b o ae Fin who rel ρ q gs w sl t i\/(i=0/\ρ 0=.wait .w6/\AtAcq P b o Fin g w):=by
 by_cases hw:∃s,ρ i=.wait s
 ·obtain ⟨s,hs⟩:=hw
  have aM:=T.eD i g hi
  rw [hs] at aM
  obtain ⟨rfl,_⟩:=aM
  rcases T.RU (sl:=sl) hA uQ hS hi hs hrun with h|⟨rfl,h⟩
  ·exact .inl h
  ·exact .inr ⟨rfl,hs,h⟩
 ·exact .inl (T.VQ hA hS hi lu (fun s h=>hw ⟨s,h⟩) hrun yH)
theorem aC.pE (T:aC P C b o ae Fin who rel ρ q gs w t) (hA:∀g w,ae g w->g.status=.running) (hs:∀x y,(ρ x).isSelf=true->gs[x]?=some y->Go.Conc.awake y):∀g∈gs,Go.Conc.awake g:=by
 intro g hg
 obtain ⟨i,hi⟩:=Array.mem_iff_getElem?.1 hg
 cases FU:(ρ i).isSelf with
 |true=>exact hs i g FU hi
 |false=>
  rcases (T.eD i g hi).status hA FU with h|h|⟨h,_⟩
  ·exact awake_of (.inl h)
  ·exact awake_of (.inr (.inr h))
  ·exact awake_of (.inr (.inl h))
theorem l9 (T:aC P C b o ae Fin (some h) rel ρ q gs w t) (hi:gs[h]?=some a) (hrun:a.status=.running):bO ρ gs w:=by
 intro x y hx hy w' _
 cases hr:ρ x<;>rw [hr] at hx<;>try (cases hx;done)
 have:=T.one x _ _ hr
 obtain rfl:=some_inj this
 rw [hi] at hy
 obtain rfl:=some_inj hy
 exact again_running _ (.inl hrun)
theorem hold (hA:∀g w,ae g w->g.status=.running) (uQ:∀g w,ae g w->∃m,Goes P true (RB C b o 0) (DW b o) (AtW1 P C b o ae Fin) m g w) {Stop:O'->J'->Prop} (hc:h=0\/0<k) {Mm:J'}
 (hW:Walk P (h==0) (Out (bS C)) (DH C) Stop a Mm):
 ∀{rel:Nat->Prop} {ρ:Nat->aX} {q:Nat->Nat} {gs:Array O'} {w:J'} {sl:Option (Nat × Nat)} {t:Trace},aC P C b o ae Fin (some h) rel ρ q gs w t->ρ h=.self k d->gs[h]?=some a->Out (bS C) Mm w->
  (∀bZ fT q' gs' a' w' sl' t',aC P C b o ae Fin (some h) bZ fT q' gs' w' t'->fT h=.self k d->gs'.size=gs.size->gs'[h]?=some a'->Stop a' w'->(∀j,vS (ρ j) (fT j))->(sU ρ->bZ=rel/\sU fT)->Ends P Post (crowd gs' w' sl') t')->Ends P Post (crowd gs w sl) t:=by
 induction hW with
 |stop hst=>exact fun T hr hi ho next=>next _ _ _ _ _ _ _ _ T hr rfl hi (hst _ ho) (fun j=>.rfl' _) (fun h=>⟨rfl,h⟩)
 |@step a Mm ng nw ne hrun h1 h2 ih=>
  intro rel ρ q gs w sl t T hr hi ho next
  generalize MZ:meas ρ q gs.size=μ
  induction sf.apply μ generalizing rel ρ q gs w sl t with
  |intro μ _ AM=>
   have Ny:=T.pE hA (fun x y hx hy=>by
    cases sX:ρ x<;>rw [sX] at hx<;>try (cases hx;done)
    obtain rfl:=some_inj (T.one x _ _ sX)
    rw [hi] at hy
    obtain rfl:=some_inj hy
    exact awake_of (.inl hrun))
   obtain ⟨i,g,dr,sl',vH,hg,hst⟩:=crowd_pick (P:=P) (w:=w) (sl:=sl) Ny ⟨h,a,hi,hrun⟩
   have Td:=T.at dr
   have ye:Out (bS C) Mm (w.at dr):=ho.trans (Out.at _ w dr)
   by_cases e:i=h
   ·subst e
    rw [hi] at vH
    obtain rfl:=some_inj vH
    obtain ⟨hgo,hd⟩:=h1 _ ye
    obtain ⟨q',T'⟩:=Td.own hA hr (a':=ng (w.at dr)) hi hd
    have hlt:i<gs.size:=(cI hi)
    refine Ends.step (hst.trans (runT_crowd_go (sl:=sl') hi hgo)) ?_
    refine ih _ ye T' hr (by simp [hlt]) (Out.refl _ _) fun bZ fT q' gs' a' w' sl' t' k1 k2 k3 k4 k5 k6 k7=>next bZ fT q' gs' a' w' sl' t' k1 k2 (by simpa using k3) k4 k5 k6 k7
   ·have lu:(ρ i).isSelf=false:=by
     cases sX:ρ i<;>try rfl
     exact absurd (some_inj (T.one i _ _ sX)).symm e
    rcases Td.Dn (sl:=sl') hA uQ (l9 Td hi hrun) vH lu hg (fun p home _ x y hx hy=>by
     cases sX:ρ x<;>rw [sX] at hx<;>try (cases hx;done)
     obtain rfl:=some_inj (T.one x _ _ sX)
     rw [hi] at hy
     obtain rfl:=some_inj hy
     exact offersAt_of_not_blocked (by rw [hrun];simp) _ _) with hm|⟨rfl,sk,_⟩
    ·obtain ⟨gs',w',ops,fT,q',who',bZ,k1,k2,k3,k4,k5,k6,k7,k8,_,_,kc⟩:=hm
     have FU:(ρ h).isSelf=true:=by rw [hr];rfl
     have oE:=k7 ⟨h,FU⟩
     subst oE
     have sX:fT h=.self k d:=by
      rcases k6 h with x|⟨x,_⟩|⟨s,s',x,_⟩
      ·rw [x,hr]
      ·rw [hr] at x;cases x
      ·rw [hr] at x;cases x
     refine Ends.step (hst.trans k1) ?_
     refine AM (meas fT q' gs'.size) (by rw [<-MZ,k2];exact k4) k3 sX (by rw [k8 h FU];exact hi) (ye.trans k5) (fun Te Xi q'' aCu a'' SW X4 t'' j1 j2 j3 j4 j5 j6 j7=>next Te Xi q'' aCu a'' SW X4 t'' j1 j2 (by rw [j3,k2]) j4 j5 (fun j=>(k6 j).trans (j6 j)) fun h=>⟨(j7 (kc h).2).1.trans (kc h).1,(j7 (kc h).2).2⟩) rfl
    ·exfalso
     have my:=T.wg (T.jw (i:=0) (by rw [sk];exact id))
     unfold dy at my
     rw [sk] at my
     rcases hc with rfl|hc
     ·rw [hr] at sk;cases sk
     ·have:=Bn (ρ:=ρ) (cI hi) (by rw [hr];exact hc)
      omega
def Port.gets:Port->Port->M'
 | .recv _ _ ok,.send _ v _=>recvd ok v true
 |_,_=>undef
structure Bx (gs gs':Array O') (w w':J') (t t':Trace) (h i:Nat) (ph pi:Port) (a₂ bp:O') (k:Nat):Prop where
 size:gs'.size=gs.size
 one:gs'[h]?=some (Go.Conc.served a₂ (ph.gets pi))
 two:gs'[i]?=some (Go.Conc.served bp (pi.gets ph))
 rest:∀x,x≠h->x≠i->gs'[x]?=gs[x]?
 world:∃d,w'=(w.at d).setChan ph.chan 0 #[] false (k+1) (k+1) false
 trace:∃fa pa fb pb,t'=t++(if ph.out then met h i fa pa fb pb ph.chan k 0 else met i h fa pa fb pb ph.chan k 0)
variable {gs':Array O'} {t':Trace}
theorem JF (T:aC P C b o ae Fin (some h) rel ρ q gs w t) (hc:h=0\/0<k) (hr:ρ h=.self k d) (hi:gs[h]?=some a):ρ 0≠.wait .w6:=by
 intro sk
 have my:=T.wg (T.jw (i:=0) (by rw [sk];exact id))
 unfold dy at my
 rw [sk] at my
 rcases hc with rfl|hc
 ·rw [hr] at sk;cases sk
 ·have:=Bn (ρ:=ρ) (cI hi) (by rw [hr];exact hc)
  omega
variable {x:Nat}
theorem eY (T:aC P C b o ae Fin (some h) rel ρ q gs w t) (hx:(ρ x).isSelf=true):x=h:=by
 cases hr:ρ x<;>rw [hr] at hx<;>try (cases hx;done)
 exact (some_inj (T.one x _ _ hr)).symm
theorem mY {r:aX} {p:Port} {home:O'->J'->Prop} (h:vS r r'):r=.seat p home↔r'=.seat p home:=by
 rcases h with rfl|⟨h1,h2⟩|⟨s,s',rfl,rfl⟩
 ·exact Iff.rfl
 ·constructor
  ·rintro rfl;cases h1
  ·rintro rfl;cases h2
 ·constructor<;>intro h<;>cases h
theorem xY {r:aX} (h:vS r r') (hr:r=.self k d):r'=.self k d:=by
 subst hr
 rcases h with rfl|⟨h1,h2⟩|⟨s,s',h1,rfl⟩
 ·rfl
 ·cases h1
 ·cases h1
variable {a₂:O'} {ph:Port}
theorem jM {c:Nat} {dir:Bool}:offersAt (parked a₂ ph.cases ph.shape) c dir=if ph.chan=c/\ph.out=dir then [0] else []:=by
 cases ph with
 |recv c' z ok=>
  cases dir with
  |true=>simp [Port.out,Port.cases,offersAt_parked_recv']
  |false=>simp [Port.cases,Port.chan,Port.out,offersAt_parked_recv]
 |send c' v z=>
  cases dir with
  |false=>simp [Port.out,Port.cases,offersAt_parked_send']
  |true=>simp [Port.cases,Port.chan,Port.out,offersAt_parked_send]
theorem wQ (hc:w.heap[ph.chan]?=some (.chan 0 #[] false k k false)):(parked a₂ ph.cases ph.shape).again w=parked a₂ ph.cases ph.shape:=by
 cases ph with
 |recv c z ok=>exact again_recv_open hc
 |send c v z=>exact again_send_open hc
theorem Az {y:Nat} {px py:Port} {gx zr gy:O'} (hx:gs[x]?=some gx) (fH:gP P (x==0) px gx zr) (BF:y≠x) (hy:gs[y]?=some (parked gy py.cases py.shape)) (hc:w.heap[px.chan]?=some (.chan 0 #[] false k k false)) (hch:py.chan=px.chan) (hd:py.out≠px.out)
 (ho:∀(z:Nat) (g:O'),z≠x->z≠y->gs[z]?=some g->offersAt g px.chan (!px.out)=[]):
 ∃gs' ops,runT P (crowd gs w sl) x=(.next (crowd gs' (w.setChan px.chan 0 #[] false (k+1) (k+1) false) sl),ops)/\gs'.size=gs.size/\gs'[x]?=some (Go.Conc.served zr (px.gets py))/\gs'[y]?=some (Go.Conc.served gy (py.gets px))/\(∀z,z≠x->z≠y->gs'[z]?=gs[z]?)/\
  ∃fa pa fb pb,ops=if px.out then met x y fa pa fb pb px.chan k 0 else met y x fa pa fb pb px.chan k 0:=by
 have Ux:x<gs.size:=(cI hx)
 have Uw:y<gs.size:=(cI hy)
 have hp:partners (gs.setIfInBounds x ph) px.chan (!px.out)=[(y,0)]:=by
  rw [partners_one (stand_get BF hy) (fun z g hz hg=> ?_),jM,if_pos ⟨hch,by cases h1:px.out<;>cases h2:py.out<;>simp_all⟩]
  ·rfl
  ·rcases getElem?_stand gs x z g hg with ⟨_,rfl⟩|⟨hzx,iJ⟩
   ·exact offersAt_ph _ _
   ·exact ho z g hzx hz iJ
 have hst:=fH.2.2.2.2 w
 cases px with
 |send c v z=>
  cases py with
  |send c' v' z'=>exact absurd rfl hd
  |recv c' z' ok'=>
   obtain rfl:c'=c:=hch
   have hrun:=crowd_send_meets (sl:=sl) hx hst hc BF hy hp
   rw [show (Port.send c' v z).shape=.send from rfl,show (Port.recv c' z' ok').shape=.recv ok' from rfl,finishComm_send,finishComm_recv] at hrun
   refine ⟨_,_,hrun,by simp,by simp [Ux,Port.gets], ?_,fun q h1 h2=>by simp [I_ (ru h1),I_ (ru h2)],zr.frame.fn,zr.frame.place,gy.frame.fn,gy.frame.place, ?_⟩
   ·rw [I_ (ru BF)];simp [Uw,Port.gets]
   ·rw [ofEvents_eq];simp [Port.out,met,Port.chan]
 |recv c z ok=>
  cases py with
  |recv c' z' ok'=>exact absurd rfl hd
  |send c' v' z'=>
   obtain rfl:c'=c:=hch
   have hrun:=crowd_recv_meets (sl:=sl) hx hst hc BF hy hp
   rw [show (Port.recv c' z ok).shape=.recv ok from rfl,show (Port.send c' v' z').shape=.send from rfl,finishComm_send,finishComm_recv] at hrun
   refine ⟨_,_,hrun,by simp,by simp [Ux,Port.gets], ?_,fun q h1 h2=>by simp [I_ (ru h1),I_ (ru h2)],gy.frame.fn,gy.frame.place,zr.frame.fn,zr.frame.place, ?_⟩
   ·rw [I_ (ru BF)];simp [Uw,Port.gets]
   ·rw [ofEvents_eq];simp [Port.out,met,Port.chan]
def pG (P:U') (C:cS) (b o:Nat) (ae Fin:O'->J'->Prop) (Post:M'->J'->Prop) (h k d:Nat) (pH:Port) (a₂:O') (ρ:Nat->aX) (n:Nat) (w:J'):Prop:=
 ∀bZ fT q' dH w₁ sl' mC i p home bp kk gs' w' t',aC P C b o ae Fin (some h) bZ fT q' dH w₁ mC->fT h=.self k d->dH.size=n->(∀j,vS (ρ j) (fT j))->Out (bS C) w w₁->i≠h->ρ i=.seat p home->fT i=.seat p home->p.chan=pH.chan->p.out≠pH.out->home bp w₁->
  w₁.heap[pH.chan]?=some (.chan 0 #[] false kk kk false)->Bx dH gs' w₁ w' mC t' h i pH p a₂ bp kk->Ends P Post (crowd gs' w' sl') t'
variable {pH:Port}
theorem pG.later {n:Nat} {fT:Nat->aX} (H:pG P C b o ae Fin Post h k d pH a₂ ρ n w) (ha:∀j,vS (ρ j) (fT j)) (hn:n'=n) (ho:Out (bS C) w w'):pG P C b o ae Fin Post h k d pH a₂ fT n' w':=by
 intro jE iX rR dH w₁ ib mC i p home bp kk pw lZ DY k1 k2 k3 k4 k5 k5' k6 k7 k8 k9 JU k11 k12
 exact H jE iX rR dH w₁ ib mC i p home bp kk pw lZ DY k1 k2 (k3.trans hn) (fun j=>(ha j).trans (k4 j)) (ho.trans k5) k5' ((mY (ha i)).2 k6) k7 k8 k9 JU k11 k12
theorem Cs (hA:∀g w,ae g w->g.status=.running) (uQ:∀g w,ae g w->∃m,Goes P true (RB C b o 0) (DW b o) (AtW1 P C b o ae Fin) m g w) (hc:h=0\/0<k)
 (T:aC P C b o ae Fin (some h) rel ρ q gs w t) (hr:ρ h=.self k d) (hi:gs[h]?=some (parked a₂ pH.cases pH.shape)) (hex:∃i p home,ρ i=.seat p home/\p.chan=pH.chan/\p.out≠pH.out)
 (J3:∀i p home,ρ i=.seat p home->p.chan=pH.chan->p.out≠pH.out->0<q i) (next:pG P C b o ae Fin Post h k d pH a₂ ρ gs.size w):Ends P Post (crowd gs w sl) t:=by
 generalize MZ:meas ρ q gs.size=μ
 induction sf.apply μ generalizing rel ρ q gs w sl t with
 |intro μ _ AM=>
  obtain ⟨aN,Hf,pY,sw,ua,Gi⟩:=id hex
  obtain ⟨kk,gv⟩:=T.chans aN Hf pY sw
  rw [ua] at gv
  have Ny:=T.pE hA (fun x y hx hy=>by
   obtain rfl:=eY T hx
   rw [hi] at hy
   obtain rfl:=some_inj hy
   exact awake_of (.inr (.inl rfl)))
  have QR:aN<gs.size:=by
   rcases Nat.lt_or_ge aN gs.size with h|h
   ·exact h
   ·rw [T.above aN h] at sw;cases sw
  obtain ⟨dN,OP⟩:∃dN,gs[aN]?=some dN:=⟨_,H_ QR⟩
  have M9:dN.status=.running:=by
   have hq:=J3 aN Hf pY sw ua Gi
   have aM:=T.eD aN dN OP
   rw [sw] at aM
   rcases aM.status hA rfl with h|h|⟨_,h,_⟩
   ·exact h
   ·rcases aM.2 with ⟨k',_,hg⟩|⟨h0,_⟩
    ·exact hg.running (fun _ _ x=>x.choose_spec.1.1) w (RB.refl aN w)
    ·omega
   ·omega
  obtain ⟨i,g,dr,sl',vH,hg,hst⟩:=crowd_pick (P:=P) (w:=w) (sl:=sl) Ny ⟨aN,dN,OP,M9⟩
  have Td:=T.at dr
  have ye:Out (bS C) w (w.at dr):=Out.at _ w dr
  have e:i≠h:=by
   rintro rfl
   rw [hi] at vH
   obtain rfl:=some_inj vH
   cases hg
  have lu:(ρ i).isSelf=false:=by
   cases hs:(ρ i).isSelf with
   |false=>rfl
   |true=>exact absurd (eY T hs) e
  have hS:bO ρ gs (w.at dr):=fun x y hx hy w' gC=>by
   obtain rfl:=eY T hx
   rw [hi] at hy
   obtain rfl:=some_inj hy
   exact wQ (gC _ _ gv rfl)
  have other:fp P C b o ae Fin (some h) rel ρ q gs (w.at dr) sl' t i->(∀p home,ρ i=.seat p home->p.chan=pH.chan->p.out≠pH.out->∀bp,¬gP P (i==0) p g bp)->Ends P Post (crowd gs w sl) t:=by
   rintro ⟨gs',w',ops,fT,q',who',bZ,k1,k2,k3,k4,k5,k6,k7,k8,k9,JU,_⟩ hno
   have FU:(ρ h).isSelf=true:=by rw [hr];rfl
   have oE:=k7 ⟨h,FU⟩
   subst oE
   refine Ends.step (hst.trans k1) ?_
   refine AM (meas fT q' gs'.size) (by rw [<-MZ,k2];exact k4) k3 (xY (k6 h) hr) (by rw [k8 h FU];exact hi) ⟨aN,Hf,pY,(mY (k6 aN)).1 sw,ua,Gi⟩ (fun j p home hj h1 h2=> ?_) (next.later k6 k2 (ye.trans k5)) rfl
   have EL:=(mY (k6 j)).2 hj
   by_cases ej:j=i
   ·subst ej
    rcases JU with JU|JU
    ·exact JU
    ·obtain ⟨g',bp,iJ,xH⟩:=JU p home EL
     rw [vH] at iJ
     obtain rfl:=some_inj iJ
     exact absurd xH (hno p home EL h1 h2 bp)
   ·rw [k9 j ej (by rw [EL];simp)]
    exact J3 j p home EL h1 h2
  by_cases hm:∃p home,ρ i=.seat p home/\p.chan=pH.chan/\p.out≠pH.out
  ·obtain ⟨p,home,wj,hch,hd⟩:=hm
   have aM:=Td.eD i g vH
   rw [wj] at aM
   rcases aM.2 with ⟨k',fS,hgo⟩|⟨h0,_⟩
   ·rcases hgo.cases with dR|⟨n',hn,YT⟩
    ·
     obtain ⟨bp,fH,hh⟩:=dR (w.at dr) (RB.refl i _)
     have hc':(w.at dr).heap[p.chan]?=some (.chan 0 #[] false kk kk false):=by rw [hch];exact gv
     obtain ⟨gs',ops,j1,j2,j3,j4,j5,fa,pa,fb,pb,j6⟩:=Az (sl:=sl') (py:=pH) vH fH (ru e) hi hc' hch.symm (ru hd) (fun z y rm uF hy=>by
      have hzs:(ρ z).isSelf=false:=by
       cases hs:(ρ z).isSelf with
       |false=>rfl
       |true=>exact absurd (eY T hs) uF
      exact T.Am hA hy hzs fun p' h' e' ec=>by rw [T.apart z i p' p h' home e' wj ec];cases p.out<;>simp)
     refine Ends.step (hst.trans j1) ?_
     refine next rel ρ q gs (w.at dr) sl' t i p home bp kk gs' _ _ Td hr rfl (fun j=>.rfl' _) ye e wj wj hch hd hh gv ⟨j2,j4,j3,fun x h1 h2=>j5 x h2 h1,⟨dr,by rw [hch];rfl⟩, ?_⟩
     cases ho:pH.out with
     |true=>
      have:p.out=false:=by cases hx:p.out<;>simp_all
      rw [this] at j6
      exact ⟨fa,pa,fb,pb,by rw [j6,hch];simp⟩
     |false=>
      have:p.out=true:=by cases hx:p.out<;>simp_all
      rw [this] at j6
      exact ⟨fa,pa,fb,pb,by rw [j6,hch];simp⟩
    ·obtain ⟨g',w',es,UX,hdr,iJ⟩:=YT (w.at dr) (RB.refl i _)
     refine other (Td.Mp hA hS (n':=n'+1) vH (by rw [wj];rfl) (by omega) UX hdr (by rw [wj];exact ⟨aM.1,.inl ⟨n',rfl,iJ⟩⟩) (.inl (Nat.succ_pos _))) fun p' pq sX _ _ bp fH=> ?_
     have:=fH.2.2.2.2 (w.at dr)
     rw [UX] at this
     cases this
   ·have:=J3 i p home wj hch hd;omega
  ·rcases Td.Dn (sl:=sl') hA uQ hS vH lu hg (fun p home hp x y hx hy=>by
    obtain rfl:=eY T hx
    rw [hi] at hy
    obtain rfl:=some_inj hy
    rw [jM,if_neg]
    rintro ⟨h1,h2⟩
    rcases hp with hp|hp
    ·exact hm ⟨p,home,hp,h1.symm,by rw [h2];cases p.out<;>simp⟩
    ·obtain ⟨k',fS⟩:=T.shuts i p home hp
     rw [<-h1,gv] at fS;cases fS) with Zd|⟨rfl,sk,_⟩
   ·exact other Zd fun p home h1 h2 h3=>absurd ⟨p,home,h1,h2,h3⟩ hm
   ·exact absurd sk (JF T hc hr hi)
theorem aC.MK (T:aC P C b o ae Fin (some h) rel ρ q gs w t) (hA:∀g w,ae g w->g.status=.running) (hr:ρ h=.self k d) (hi:gs[h]?=some a) (a':O'):
 ∃q',aC P C b o ae Fin (some h) rel ρ q' (gs.setIfInBounds h a') w t/\∀j,j≠h->ρ j≠.wait .w3->q' j=q j:=by
 have hu:=zU hr
 have vC:gs.map (woken P a (parked a #[] .send) w)=gs:=by
  have:woken P a (parked a #[] .send) w=id:=by funext y;simp [woken,parked]
  rw [this,Array.map_id]
 obtain ⟨q',T',_,h2⟩:=T.step hA (a:=a) (a':=parked a #[] .send) (g':=a') (r':=.self k d) (n':=0) (who':=some h) (bZ:=rel) (u:=#[]) hi (fun j _=>RB.refl j w) (C_ _) (fun r ob h _ _=>h) (T.mO h) (fun p h' e=>by cases e) (fun p h' e=>by cases e) (by rw [hu];exact T.one) (by rw [hu];exact T.holder) trivial
  (by rw [hu];simpa using T.tr) (by rw [hu];exact T.wg) (fun c=>by have:=T.off c h;rw [hr] at this;exact this) (fun HG=>absurd HG (T.fX (by rw [hr];simp))) (by rw [hu];exact T.few) (fun _ _ h=>.inl h) (fun _ e=>by cases e)
 rw [vC,hu] at T'
 exact ⟨q',by simpa using T',h2⟩
theorem qz {cs cs':Array CommCase} {sh sh':CommShape} (h:parked g cs sh=parked g' cs' sh') (v:M'):cs=cs'/\sh=sh'/\Go.Conc.served g v=Go.Conc.served g' v:=by
 obtain ⟨f,c,s,dd,o'⟩:=g
 obtain ⟨f',c',s',dd',o''⟩:=g'
 simp only [parked,Goroutine.mk.injEq,Option.some.injEq,Prod.mk.injEq,true_and] at h
 obtain ⟨rfl,rfl,rfl,rfl,rfl⟩:=h
 exact ⟨rfl,rfl,rfl⟩
variable {j:Nat}
theorem zi (T:aC P C b o ae Fin (some h) rel ρ q gs w t) (hA:∀g w,ae g w->g.status=.running) {c:Nat} {dir:Bool} {y:O'} (hj:j≠h) (hy:gs[j]?=some y) (hm:m∈offersAt y c dir):
 ∃p home bp,ρ j=.seat p home/\p.chan=c/\p.out=dir/\y=parked bp p.cases p.shape/\home bp w/\m=0:=by
 have lu:(ρ j).isSelf=false:=by
  cases hs:(ρ j).isSelf with
  |false=>rfl
  |true=>exact absurd (eY T hs) hj
 have aM:=T.eD j y hy
 rcases aM.status hA lu with h|h|⟨_,h0,⟨p,home,e⟩|e⟩
 ·rw [offersAt_of_not_blocked (by rw [h];simp)] at hm;cases hm
 ·rw [offersAt_of_not_blocked (by rw [h];simp)] at hm;cases hm
 ·rw [e] at aM
  rcases aM.2 with ⟨k',fS,_⟩|⟨_,dN,bp,rfl,fH,hh⟩
  ·omega
  ·rw [jM] at hm
   by_cases WJ:p.chan=c/\p.out=dir
   ·rw [if_pos WJ] at hm
    exact ⟨p,home,bp,e,WJ.1,WJ.2,rfl,hh,by simpa using hm⟩
   ·rw [if_neg WJ] at hm;cases hm
 ·rw [e] at aM
  rcases aM.2 with ⟨k',fS,_⟩|⟨_,dN,h1,rfl,_⟩
  ·omega
  ·simp [offersAt,h1.2.1] at hm
variable {kk:Nat}
theorem Er (T:aC P C b o ae Fin (some h) rel ρ q gs w t) (hA:∀g w,ae g w->g.status=.running) (hi:gs[h]?=some a) (fH:gP P (h==0) pH a a₂) (gv:w.heap[pH.chan]?=some (.chan 0 #[] false kk kk false))
 (hex:∃i p home bp,i≠h/\ρ i=.seat p home/\p.chan=pH.chan/\p.out≠pH.out/\gs[i]?=some (parked bp p.cases p.shape)):
 ∃i p home bp gs' w' ops,i≠h/\ρ i=.seat p home/\p.chan=pH.chan/\p.out≠pH.out/\home bp w/\runT P (crowd gs w sl) h=(.next (crowd gs' w' sl),ops)/\Bx gs gs' w w' t (t++ops) h i pH p a₂ bp kk:=by
 have hlt:h<gs.size:=(cI hi)
 have hst:=fH.2.2.2.2 w
 have Na:∀j m,(j,m)∈partners (gs.setIfInBounds h ph) pH.chan (!pH.out)->j≠h/\m=0/\∃p home bp,ρ j=.seat p home/\p.chan=pH.chan/\p.out≠pH.out/\gs[j]?=some (parked bp p.cases p.shape)/\home bp w:=by
  intro j m hm
  obtain ⟨y,hy,Zc⟩:=mem_partners.1 hm
  rcases getElem?_stand gs h j y hy with ⟨_,rfl⟩|⟨hj,pg⟩
  ·rw [offersAt_ph] at Zc;cases Zc
  ·obtain ⟨p,home,bp,e1,e2,e3,rfl,e5,e6⟩:=zi T hA hj pg Zc
   exact ⟨hj,e6,p,home,bp,e1,e2,by rw [e3];cases pH.out<;>simp,pg,e5⟩
 have hne:partners (gs.setIfInBounds h ph) pH.chan (!pH.out)≠[]:=by
  obtain ⟨i,p,home,bp,h1,h2,h3,h4,h5⟩:=hex
  have:(i,0)∈partners (gs.setIfInBounds h ph) pH.chan (!pH.out):=mem_partners.2 ⟨_,stand_get h1 h5,by
   rw [jM,if_pos ⟨h3,by cases hx:p.out<;>cases hy:pH.out<;>simp_all⟩];simp⟩
  intro he;rw [he] at this;cases this
 cases pH with
 |send c v z=>
  obtain ⟨j,gj,zj,X5,dd,KI,hj,hrun⟩:=crowd_send_meets_some (sl:=sl) hi hst gv hne (fun j m hm=>by
   obtain ⟨h1,h2,p,home,bp,h3,h4,h5,h6,h7⟩:=Na j m hm
   cases p with
   |send c' v' z'=>exact absurd rfl h5
   |recv c' z' ok'=>
    obtain rfl:c'=c:=h4
    exact ⟨h2,h1,bp,z',.recv ok',h6⟩)
  have yJ:(j,0)∈partners (gs.setIfInBounds h ph) c false:=mem_partners.2 ⟨_,stand_get KI hj,by rw [offersAt_parked_recv];simp⟩
  obtain ⟨_,_,p,home,bp,h3,h4,h5,h6,h7⟩:=Na j 0 yJ
  cases p with
  |send c' v' z'=>exact absurd rfl h5
  |recv c' z' ok'=>
   obtain rfl:c'=c:=h4
   rw [hj] at h6
   obtain ⟨e1,e2,e3⟩:=qz (some_inj h6) (recvd ok' v true)
   have e1':zj=z':=by simpa [Port.cases,rcase] using e1
   subst e1'
   have VK:X5=.recv ok':=e2
   subst VK
   have HB:j<gs.size:=(cI hj)
   rw [show (Port.send c' v z).shape=.send from rfl,finishComm_send,finishComm_recv] at hrun
   refine ⟨j,_,home,bp,_,_,_,KI,h3,rfl,h5,h7,hrun,⟨by simp,by simp [hlt,Port.gets], ?_,fun x h1 h2=>by simp [I_ (ru h1),I_ (ru h2)],⟨dd,rfl⟩,a₂.frame.fn,a₂.frame.place,gj.frame.fn,gj.frame.place, ?_⟩⟩
   ·rw [I_ (ru KI)]
    simp only [Port.gets,<-e3]
    simp [HB]
   ·rw [ofEvents_eq];simp [Port.out,met,Port.chan]
 |recv c z ok=>
  obtain ⟨j,gj,vj,zj,X5,dd,KI,hj,hrun⟩:=crowd_recv_meets_some (sl:=sl) hi hst gv hne (fun j m hm=>by
   obtain ⟨h1,h2,p,home,bp,h3,h4,h5,h6,h7⟩:=Na j m hm
   cases p with
   |recv c' z' ok'=>exact absurd rfl h5
   |send c' v' z'=>
    obtain rfl:c'=c:=h4
    exact ⟨h2,h1,bp,v',z',.send,h6⟩)
  have yJ:(j,0)∈partners (gs.setIfInBounds h ph) c true:=mem_partners.2 ⟨_,stand_get KI hj,by rw [offersAt_parked_send];simp⟩
  obtain ⟨_,_,p,home,bp,h3,h4,h5,h6,h7⟩:=Na j 0 yJ
  cases p with
  |recv c' z' ok'=>exact absurd rfl h5
  |send c' v' z'=>
   obtain rfl:c'=c:=h4
   rw [hj] at h6
   obtain ⟨e1,e2,e3⟩:=qz (some_inj h6) undef
   have e1':vj=v'/\zj=z':=by simpa [Port.cases,scase] using e1
   obtain ⟨rfl,rfl⟩:=e1'
   have VK:X5=.send:=e2
   subst VK
   have HB:j<gs.size:=(cI hj)
   rw [show (Port.recv c' z ok).shape=.recv ok from rfl,finishComm_send,finishComm_recv] at hrun
   refine ⟨j,_,home,bp,_,_,_,KI,h3,rfl,h5,h7,hrun,⟨by simp,by simp [hlt,Port.gets], ?_,fun x h1 h2=>by simp [I_ (ru h1),I_ (ru h2)],⟨dd,rfl⟩,gj.frame.fn,gj.frame.place,a₂.frame.fn,a₂.frame.place, ?_⟩⟩
   ·rw [I_ (ru KI)]
    simp only [Port.gets,<-e3]
    simp [HB]
   ·rw [ofEvents_eq];simp [Port.out,met,Port.chan]
theorem meet (hA:∀g w,ae g w->g.status=.running) (uQ:∀g w,ae g w->∃m,Goes P true (RB C b o 0) (DW b o) (AtW1 P C b o ae Fin) m g w) (hc:h=0\/0<k)
 (T:aC P C b o ae Fin (some h) rel ρ q gs w t) (hr:ρ h=.self k d) (hi:gs[h]?=some a) (fH:gP P (h==0) pH a a₂) (hex:∃i p home,ρ i=.seat p home/\p.chan=pH.chan/\p.out≠pH.out)
 (next:pG P C b o ae Fin Post h k d pH a₂ ρ gs.size w):Ends P Post (crowd gs w sl) t:=by
 generalize MZ:meas ρ q gs.size=μ
 induction sf.apply μ generalizing rel ρ q gs w sl t with
 |intro μ _ AM=>
  obtain ⟨aN,Hf,pY,sw,ua,Gi⟩:=id hex
  obtain ⟨kk,gv⟩:=T.chans aN Hf pY sw
  rw [ua] at gv
  have hrun:a.status=.running:=fH.1
  have Ny:=T.pE hA (fun x y hx hy=>by
   obtain rfl:=eY T hx
   rw [hi] at hy
   obtain rfl:=some_inj hy
   exact awake_of (.inl hrun))
  obtain ⟨i,g,dr,sl',vH,hg,hst⟩:=crowd_pick (P:=P) (w:=w) (sl:=sl) Ny ⟨h,a,hi,hrun⟩
  have Td:=T.at dr
  have ye:Out (bS C) w (w.at dr):=Out.at _ w dr
  by_cases e:i=h
  ·subst e
   rw [hi] at vH
   obtain rfl:=some_inj vH
   by_cases hp:∃j p home bp,j≠i/\ρ j=.seat p home/\p.chan=pH.chan/\p.out≠pH.out/\gs[j]?=some (parked bp p.cases p.shape)
   ·obtain ⟨j,p,home,bp,gs',w',ops,h1,h2,h3,h4,h5,h6,h7⟩:=Er (sl:=sl') Td hA hi fH gv hp
    exact Ends.step (hst.trans h6) (next rel ρ q gs (w.at dr) sl' t j p home bp kk gs' w' _ Td hr rfl (fun j=>.rfl' _) ye h1 h2 h2 h3 h4 h5 gv h7)
   ·
    have J3:∀j p home,ρ j=.seat p home->p.chan=pH.chan->p.out≠pH.out->0<q j:=by
     intro j p home hj h1 h2
     have SA:j≠i:=fun e=>by subst e;rw [hr] at hj;cases hj
     have HB:j<gs.size:=by
      rcases Nat.lt_or_ge j gs.size with h|h
      ·exact h
      ·rw [T.above j h] at hj;cases hj
     have aM:=T.eD j _ (H_ HB)
     rw [hj] at aM
     rcases aM.2 with ⟨k',fS,_⟩|⟨_,dN,bp,hgj,_⟩
     ·omega
     ·exact absurd ⟨j,p,home,bp,SA,hj,h1,h2,by rw [H_ HB,hgj]⟩ hp
    have hno:∀(x:Nat) (y:O'),(gs.setIfInBounds i ph)[x]?=some y->offersAt y pH.chan (!pH.out)=[]:=by
     intro x y hy
     rcases getElem?_stand gs i x y hy with ⟨_,rfl⟩|⟨hx,pg⟩
     ·exact offersAt_ph _ _
     ·rcases kE:offersAt y pH.chan (!pH.out) with _|⟨m,l⟩
      ·rfl
      ·obtain ⟨p,home,bp,e1,e2,e3,rfl,e5,e6⟩:=zi Td hA hx pg (m:=m) (c:=pH.chan) (dir:= !pH.out) (by rw [kE];simp)
       exact absurd ⟨x,p,home,bp,hx,e1,e2,by rw [e3];cases pH.out<;>simp,pg⟩ hp
    have hw:∀cc∈pH.cases,NoWays (w.at dr) (gs.setIfInBounds i ph) cc:=by
     intro cc hcc
     cases pH with
     |recv c z ok=>
      have:cc=rcase c z:=by simpa [Port.cases] using hcc
      subst this
      exact ways_recv_none gv (partners_nil hno)
     |send c v z=>
      have:cc=scase c v z:=by simpa [Port.cases] using hcc
      subst this
      exact ways_send_none gv (by simp) (partners_nil hno)
    obtain ⟨q',T',Sw⟩:=Td.MK hA hr hi (parked a₂ pH.cases pH.shape)
    have hlt:i<gs.size:=(cI hi)
    refine Ends.step (hst.trans (crowd_waits (sl:=sl') hi (fH.2.2.2.2 _) hw)) ?_
    rw [show cC i a.frame.fn a.frame.place #[]=#[] from by rw [ofEvents_eq];simp,Array.append_empty]
    refine Cs hA uQ hc T' hr (by simp [hlt]) hex (fun j p home hj h1 h2=> ?_) (next.later (fun j=>.rfl' _) (by simp) ye)
    rw [Sw j (fun e=>by subst e;rw [hr] at hj;cases hj) (by rw [hj];simp)]
    exact J3 j p home hj h1 h2
  ·have lu:(ρ i).isSelf=false:=by
    cases hs:(ρ i).isSelf with
    |false=>rfl
    |true=>exact absurd (eY T hs) e
   rcases Td.Dn (sl:=sl') hA uQ (l9 Td hi hrun) vH lu hg (fun p home _ x y hx hy=>by
    obtain rfl:=eY T hx
    rw [hi] at hy
    obtain rfl:=some_inj hy
    exact offersAt_of_not_blocked (by rw [hrun];simp) _ _) with hm|⟨rfl,sk,_⟩
   ·obtain ⟨gs',w',ops,fT,q',who',bZ,k1,k2,k3,k4,k5,k6,k7,k8,k9,JU,_⟩:=hm
    have FU:(ρ h).isSelf=true:=by rw [hr];rfl
    have oE:=k7 ⟨h,FU⟩
    subst oE
    refine Ends.step (hst.trans k1) ?_
    exact AM (meas fT q' gs'.size) (by rw [<-MZ,k2];exact k4) k3 (xY (k6 h) hr) (by rw [k8 h FU];exact hi) ⟨aN,Hf,pY,(mY (k6 aN)).1 sw,ua,Gi⟩ (next.later k6 k2 (ye.trans k5)) rfl
   ·exact absurd sk (JF T hc hr hi)
section
variable {ob:Obj}
theorem nY {c:Nat} (hc:w.heap[c]?=some ob) (ho:aR ob=false) (cap:Nat) (buf:Array M') (cl:Bool) (s r:Nat) (tm:Bool) (a:Addr):(w.setChan c cap buf cl s r tm).cell? a=w.cell? a/\(w.setChan c cap buf cl s r tm).frozen? a=w.frozen? a:=by
 have hlt:c<w.heap.size:=(cI hc)
 by_cases e:a.block=c
 ·have e1:(w.setChan c cap buf cl s r tm).heap[a.block]?=some (.chan cap buf cl s r tm):=by rw [e];simp [World.setChan,hlt]
  have e2:w.heap[a.block]?=some ob:=by rw [e];exact hc
  unfold World.cell? World.frozen?
  rw [e1,e2]
  cases ob<;>first|(cases ho;done)|exact ⟨rfl,rfl⟩
 ·have e1:(w.setChan c cap buf cl s r tm).heap[a.block]?=w.heap[a.block]?:=by simp [World.setChan,I_ (ru e)]
  unfold World.cell? World.frozen?
  rw [e1];exact ⟨rfl,rfl⟩
theorem heap_setChan {c:Nat} (hc:w.heap[c]?=some ob) (cap:Nat) (buf:Array M') (cl:Bool) (s r:Nat) (tm:Bool) (x:Nat):(w.setChan c cap buf cl s r tm).heap[x]?=if x=c then some (.chan cap buf cl s r tm) else w.heap[x]?:=by
 have hlt:c<w.heap.size:=(cI hc)
 by_cases e:x=c
 ·subst e;simp [World.setChan,hlt]
 ·simp [World.setChan,e,I_ (ru e)]
theorem vW {c:Nat} (hc:w.heap[c]?=some ob) (ho:aR ob=false) (hno:∀g,¬C.St g (.obj c)/\¬C.Pv g (.obj c)) (d cap:Nat) (buf:Array M') (cl:Bool) (s r:Nat) (tm:Bool) (j:Nat):
 RB C b o j w ((w.at d).setChan c cap buf cl s r tm)/\∀s' m',cx b o w s' m'->cx b o ((w.at d).setChan c cap buf cl s r tm) s' m':=by
 have hc':(w.at d).heap[c]?=some ob:=hc
 have hw:∀s' m',cx b o w s' m'->cx b o ((w.at d).setChan c cap buf cl s r tm) s' m':=fun s' m' h=>h.keep (nY hc' ho _ _ _ _ _ _ _) (nY hc' ho _ _ _ _ _ _ _)
 refine ⟨⟨fun _ ⟨s',m',h⟩=>⟨s',m',hw _ _ h⟩,fun x k _=>nY hc' ho _ _ _ _ _ _ _,fun x hx=> ?_⟩,hw⟩
 rw [heap_setChan hc',if_neg]
 ·rfl
 ·rintro rfl
  exact hx.elim (hno j).2 (hno j).1
section
variable {C':cS} (hP:∀l,C'.Pv i l↔C.Pv i l) (hS:∀l,C'.St i l↔C.St i l) (fI:C'.Sh=C.Sh) (b9:C'.on=C.on)
include hP hS b9 in
theorem Jn:RB C' b o i=RB C b o i:=by
 funext w w₁
 refine propext ⟨fun h=>⟨fun c=>h.live (b9▸c),fun x k hx=>h.cells x k (by rw [hP,hS];exact hx),fun r hx=>h.gz r (by rw [hP,hS];exact hx)⟩,fun h=>⟨fun c=>h.live (b9▸c),fun x k hx=>h.cells x k (by rw [<-hP,<-hS];exact hx),fun r hx=>h.gz r (by rw [<-hP,<-hS];exact hx)⟩⟩
include hP hS fI in
theorem Ll:DR C' i=DR C i:=by
 have e1:(fun x k=>C'.Pv i (.cell ⟨x,k,none⟩))=fun x k=>C.Pv i (.cell ⟨x,k,none⟩):=by funext x k;exact propext (hP _)
 have e2:NY C' i=NY C i:=by funext e;simp only [NY,hP,hS,fI]
 funext w w' es
 simp only [DR,e1,e2]
include hP hS fI b9 in
theorem sj (r:aX) (n:Nat) (g:O') (w:J'):fx P C' b o ae Fin i r n g w↔fx P C b o ae Fin i r n g w:=by
 have e1:=Jn (b:=b) (o:=o) hP hS b9
 have e2:=Ll hP hS fI
 have d3:AtD3 P C' b o i=AtD3 P C b o i:=by funext g w;simp only [AtD3,e1]
 have d2:AtD2 P C' b o i=AtD2 P C b o i:=by funext g w;simp only [AtD2,e1,d3]
 have d1:AtD1 P C' b o i=AtD1 P C b o i:=by funext g w;simp only [AtD1,e1,d2]
 have k1:AtK1 P C' b o i=AtK1 P C b o i:=by funext g w;simp only [AtK1,e1,d1]
 have r0:AtR0 P C' b o i=AtR0 P C b o i:=by funext g w;simp only [AtR0,e1,k1]
 cases r with
 |wait s=>
  by_cases hi:i=0
  ·subst hi
   have ke:AtKe P C' b o Fin=AtKe P C b o Fin:=by funext g w;simp only [AtKe,e1]
   have w4:AtW4 P C' b o Fin=AtW4 P C b o Fin:=by funext g w;simp only [AtW4,e1,ke]
   have w3:AtW3 P C' b o Fin=AtW3 P C b o Fin:=by funext g w;simp only [AtW3,e1,w4]
   have w2:∀v,AtW2 P C' b o ae Fin v=AtW2 P C b o ae Fin v:=fun v=>by funext g w;simp only [AtW2,e1,w3]
   have w1:AtW1 P C' b o ae Fin=AtW1 P C b o ae Fin:=by funext g w;simp only [AtW1,e1,ke,w2]
   have kd:AtKd P C' b o ae=AtKd P C b o ae:=by funext g w;simp only [AtKd,e1]
   cases s<;>simp only [fx,GA,e1,ke,w4,w3,w2,w1,kd]
  ·simp only [fx,hi,false_and]
 |_=>simp only [fx,Sits,e1,e2,d3,d2,d1,k1,r0]
end
theorem cS.NM {g:Nat} {l:Loc}:((C.drop i).St g l->C.St g l)/\((C.drop i).Pv g l->C.Pv g l):=⟨fun h=>h.2,fun h=>h.2⟩
theorem aC.Fi {D:cS} {p:Port} {home:O'->J'->Prop} (T:aC P C b o ae Fin (some h) rel ρ q gs w t) (hr:ρ h=.self k d) (hd:d=0) (hD:D=C\/D=C.drop i) (wj:ρ i=.seat p home) (CS:i≠h) (hlt:h<gs.size)
 (gv:w.heap[pH.chan]?=some (.chan 0 #[] false kk kk false)) (hno:∀g,¬C.St g (.obj pH.chan)/\¬C.Pv g (.obj pH.chan)) (M:Bx gs gs' w w' t t' h i pH p a₂ bp kk) {ri rh:aX} {ni nh:Nat}
 (hRi:fx P D b o ae Fin i ri ni (Go.Conc.served bp (p.gets pH)) w') (hRh:fx P D b o ae Fin h rh nh (Go.Conc.served a₂ (pH.gets p)) w')
 (hci:ri.count=1) (ir:rh.count=k) (hdi:ri.dd=0) (WG:rh.dd=0) (UB:ri.isLast=false) (Wx:rh.isLast=false) (YJ:∀s,ri≠.wait s) (Sq:∀s,rh≠.wait s)
 (Kf:∀p' h',ri=.seat p' h'\/rh=.seat p' h'->∃k',w.heap[p'.chan]?=some (.chan 0 #[] false k' k' false)) (uG:∀p' h',ri≠.shut p' h'/\rh≠.shut p' h')
 (Gp:∀j l p p' h₁ iN,upd (upd ρ i ri) h rh j=.seat p h₁->upd (upd ρ i ri) h rh l=.seat p' iN->p.chan=p'.chan->p.out=p'.out)
 (oE:(who'=some h/\ri.isSelf=false/\(h=0\/rh.isSelf=true\/rh=.done))\/(who'=some i/\rh.isSelf=false/\(i=0\/ri.isSelf=true\/ri=.done))):
 aC P D b o ae Fin who' rel (upd (upd ρ i ri) h rh) (upd (upd q i ni) h nh) gs' w' t':=by
 subst hd
 have b9:C.on:=T.jw (i:=i) (by rw [wj];exact id)
 have KW:D.Sh=C.Sh/\D.Gr=C.Gr/\D.Dd=C.Dd/\D.on=C.on/\D.ad=C.ad:=by rcases hD with rfl|rfl<;>exact ⟨rfl,rfl,rfl,rfl,rfl⟩
 have EY:∀g l,(D.St g l->C.St g l)/\(D.Pv g l->C.Pv g l):=fun g l=>by rcases hD with rfl|rfl;exact ⟨id,id⟩;exact cS.NM
 have hDo:∀j,j≠i->(∀l,D.Pv j l↔C.Pv j l)/\∀l,D.St j l↔C.St j l:=fun j hj=>by
  rcases hD with rfl|rfl
  ·exact ⟨fun _=>Iff.rfl,fun _=>Iff.rfl⟩
  ·exact ⟨fun _=>⟨fun h=>h.2,fun h=>⟨hj,h⟩⟩,fun _=>⟨fun h=>h.2,fun h=>⟨hj,h⟩⟩⟩
 obtain ⟨dd,gC⟩:=M.world
 have Vu:∀j,RB C b o j w w':=fun j=>by rw [gC];exact (vW (b:=b) (o:=o) gv rfl hno dd _ _ _ _ _ _ j).1
 have HO:∀s m,cx b o w s m->cx b o w' s m:=by rw [gC];exact (vW (b:=b) (o:=o) gv rfl hno dd _ _ _ _ _ _ 0).2
 have ot:∀s m,cx b o w' s m->cx b o w s m:=fun s m h=>by
  obtain ⟨S9,TI,h₀⟩:=(T.wg b9).live
  obtain ⟨rfl,rfl⟩:=(HO _ _ h₀).uniq h
  exact h₀
 have uM:∀x,w'.heap[x]?=if x=pH.chan then some (.chan 0 #[] false (kk+1) (kk+1) false) else w.heap[x]?:=fun x=>by
  rw [gC];exact heap_setChan (w:=w.at dd) gv _ _ _ _ _ _ x
 have Ko:∀(c k':Nat),w.heap[c]?=some (Obj.chan 0 #[] false k' k' false)->∃k'':Nat,w'.heap[c]?=some (Obj.chan 0 #[] false k'' k'' false):=fun c k' hc=>by
  rw [uM]
  by_cases e:c=pH.chan
  ·rw [if_pos e];exact ⟨_,rfl⟩
  ·rw [if_neg e];exact ⟨_,hc⟩
 have MY:∀j,j≠h->j≠i->upd (upd ρ i ri) h rh j=ρ j:=fun j h1 h2=>by rw [P_ _ _ h1,P_ _ _ h2]
 have vB:upd (upd ρ i ri) h rh i=ri:=by rw [P_ _ _ CS,O_]
 have EC:upd (upd ρ i ri) h rh h=rh:=O_ _ _ _
 have Sv:∀j,j=h\/j=i->(ρ j).dd=0:=by rintro j (rfl|rfl);rw [hr];rfl;rw [wj];rfl
 have Uy:i<gs.size:=by
  rcases Nat.lt_or_ge i gs.size with h|h
  ·exact h
  ·rw [T.above i h] at wj;cases wj
 have hsz:=M.size
 have AV:Tr D (fun j=>(upd (upd ρ i ri) h rh j).loose=true) rel gs.size (fun j=>(upd (upd ρ i ri) h rh j).dd) (Acc who' rel t') t':=by
  have hdd:(fun j=>(upd (upd ρ i ri) h rh j).dd)=fun j=>(ρ j).dd:=by
   funext j
   by_cases e1:j=h
   ·subst e1;rw [EC,WG,Sv _ (.inl rfl)]
   ·by_cases e2:j=i
    ·subst e2;rw [vB,hdi,Sv _ (.inr rfl)]
    ·rw [MY j e1 e2]
  rw [hdd]
  obtain ⟨fa,pa,fb,pb,ht⟩:=M.trace
  have key:∀x y,(x=h/\y=i\/x=i/\y=h)->t'=t++met x y fa pa fb pb pH.chan kk 0->Tr D (fun j=>(upd (upd ρ i ri) h rh j).loose=true) rel gs.size (fun j=>(ρ j).dd) (Acc who' rel t') t':=by
   intro x y BF M7
   subst M7
   have YH:=Sv x (BF.imp And.left And.left)
   have Wi:=Sv y (BF.elim (fun q=>.inr q.2) fun q=>.inl q.2)
   have Tm:=T.tr.meet (h:=x) (j:=y) (fun z hz=>by
    rcases BF with ⟨rfl,rfl⟩|⟨rfl,rfl⟩
    ·exact .inl hz
    ·exact .inr hz) YH Wi fa pa fb pb pH.chan kk
   have TD:Tr D (fun g=>(ρ g).loose=true/\g≠x/\g≠y) rel gs.size (fun j=>(ρ j).dd) (fun i=>Knows (t++met x y fa pa fb pb pH.chan kk 0) x i/\Knows (t++met x y fa pa fb pb pH.chan kk 0) y i) (t++met x y fa pa fb pb pH.chan kk 0):=by
    rcases hD with rfl|rfl
    ·exact Tm
    ·refine Tm.drop (fun hl=> ?_) (fun p z a _ _ hz ha=> ?_)
     ·rcases BF with ⟨rfl,rfl⟩|⟨rfl,rfl⟩
      ·exact hl.2.2 rfl
      ·exact hl.2.1 rfl
     ·obtain ⟨op,ho,QJ⟩:=touch_of ha
      rcases getElem?_append_cases ho with ⟨gJ,Y7⟩|⟨_,hu⟩
      ·rw [g?_old gJ] at hz
       refine T.tr.both YH Wi fa pa fb pb pH.chan kk z ?_
       rcases BF with ⟨rfl,rfl⟩|⟨rfl,rfl⟩
       ·exact .inr (fQ hz)
       ·exact .inl (fQ hz)
      ·rw [met_mute _ _ _ _ _ _ _ _ _ op hu] at QJ;cases QJ
   refine TD.n9 (fun p hp=>.inl hp) (fun z a ha hm hs _=>⟨fun hk=>.inl ?_,fun g hg hl=>.inr (hl.imp (fun hl=> ?_) id)⟩)
   ·rcases oE with ⟨rfl,_⟩|⟨rfl,_⟩<;>rcases BF with ⟨rfl,rfl⟩|⟨rfl,rfl⟩
    ·exact hk.1
    ·exact hk.2
    ·exact hk.2
    ·exact hk.1
   ·have h1:g≠h:=by rcases BF with ⟨rfl,rfl⟩|⟨rfl,rfl⟩;exact hl.2.1;exact hl.2.2
    have h2:g≠i:=by rcases BF with ⟨rfl,rfl⟩|⟨rfl,rfl⟩;exact hl.2.2;exact hl.2.1
    rw [MY g h1 h2];exact hl.1
  cases ho:pH.out with
  |true=>rw [ho,if_pos rfl] at ht;exact key h i (.inl ⟨rfl,rfl⟩) ht
  |false=>rw [ho,if_neg (by simp)] at ht;exact key i h (.inr ⟨rfl,rfl⟩) ht
 have h0i:i≠0\/∀s,ρ 0≠.wait s/\ri≠.wait s:=by
  by_cases e:i=0
  ·subst e;exact .inr fun s=>⟨by rw [wj];simp,YJ s⟩
  ·exact .inl e
 have h0h:h≠0\/∀s,upd ρ i ri 0≠.wait s/\rh≠.wait s:=by
  by_cases e:h=0
  ·subst e;exact .inr fun s=>⟨by rw [P_ _ _ (ru CS),hr];simp,Sq s⟩
  ·exact .inl e
 have Su:upd ρ i ri h=.self k 0:=by rw [P_ _ _ (ru CS),hr]
 have my:dy b o (upd (upd ρ i ri) h rh) gs.size w':=by
  have w1:dy b o (upd ρ i ri) gs.size w:=(T.wg b9).dG Uy h0i (by rw [hci,wj];rfl) (by rw [UB,wj];rfl) (.inr UB)
  have w2:dy b o (upd (upd ρ i ri) h rh) gs.size w:=w1.dG hlt h0h (by rw [ir,Su];rfl) (by rw [Wx,Su];rfl) (.inr Wx)
  exact w2.keep HO
 have jW:cnt (upd (upd ρ i ri) h rh) gs.size=cnt ρ gs.size:=by
  have e1:=js (ρ:=ρ) (r':=ri) Uy (by rw [hci,wj];rfl)
  have e2:=js (ρ:=upd ρ i ri) (r':=rh) hlt (by rw [ir,Su];rfl)
  omega
 refine ⟨⟨fun g g' l hp Iw=> ?_,fun g l hl=> ?_,fun l hl=> ?_⟩,KW.2.2.2.2.trans T.ad,fun l=>by rw [KW.1,KW.2.2.2.1];exact T.yk l,fun l hl=> ?_,fun g hg=> ?_,fun g l hl=>by rw [hsz];exact T.old g l (hl.imp (EY g l).1 (EY g l).2),fun g l hl=>T.plain g l (hl.imp (EY g l).1 (EY g l).2),fun g x k' hx=> ?_,fun g r hx=> ?_,by rw [hsz];exact AV,fun j y hy=> ?_,fun j hj=> ?_,fun j p' h' e=> ?_,Gp,fun j p' h' e=> ?_,fun j k' d' e=> ?_,fun x hx=> ?_,by rw [hsz,jW];exact T.few,by rw [hsz];exact fun _=>my,fun c=>absurd (KW.2.2.2.1▸b9) c,by rw [hsz];exact T.cX,fun h1 h2=> ?_⟩
 ·have:=T.ok.apart g g' l ((EY g l).2 hp) Iw
  exact ⟨fun q=>this.1 ((EY g' l).2 q),fun q=>this.2 ((EY g' l).1 q)⟩
 ·have:=T.ok.off g l (KW.1▸hl)
  exact ⟨fun q=>this.1 ((EY g l).2 q),fun q=>this.2 ((EY g l).1 q)⟩
 ·have:=T.ok.gr l (KW.2.1▸hl)
  exact ⟨KW.1▸this.1,fun g=>⟨fun q=>(this.2 g).1 ((EY g l).2 q),fun q=>(this.2 g).2 ((EY g l).1 q)⟩⟩
 ·have:w'.heap.size=w.heap.size:=by rw [gC];simp [World.setChan,World.at]
  rw [this];exact T.IB l (KW.2.1▸hl)
 ·obtain ⟨d,e⟩:=T.Ls g (KW.2.2.1▸hg)
  rw [MY g (by rintro rfl;rw [hr] at e;cases e) (by rintro rfl;rw [wj] at e;cases e)];exact ⟨d,e⟩
 ·have:w'.heap.size=w.heap.size:=by rw [gC];simp [World.setChan,World.at]
  rw [this];exact T.CG g x k' (hx.imp (EY g _).2 (EY g _).1)
 ·have yE:=hx.imp (EY g _).2 (EY g _).1
  obtain ⟨ob,h1,h2⟩:=T.mO g r yE
  exact ⟨ob,((Vu g).gz r yE).trans h1,h2⟩
 ·by_cases e1:j=h
  ·subst e1
   rw [M.one] at hy;obtain rfl:=some_inj hy
   rw [EC,O_];exact hRh
  ·by_cases e2:j=i
   ·subst e2
    rw [M.two] at hy;obtain rfl:=some_inj hy
    rw [vB,P_ _ _ e1,O_];exact hRi
   ·rw [M.rest j e1 e2] at hy
    rw [MY j e1 e2,P_ _ _ e1,P_ _ _ e2]
    exact (sj (hDo j e2).1 (hDo j e2).2 KW.1 KW.2.2.2.1 _ _ _ _).2 ((T.eD j y hy).rely (Vu j))
 ·rw [hsz] at hj
  rw [MY j (by omega) (by omega)];exact T.above j hj
 ·have hold:∃k',w.heap[p'.chan]?=some (.chan 0 #[] false k' k' false):=by
   by_cases e1:j=h
   ·subst e1;rw [EC] at e;exact Kf p' h' (.inr e)
   ·by_cases e2:j=i
    ·subst e2;rw [vB] at e;exact Kf p' h' (.inl e)
    ·rw [MY j e1 e2] at e;exact T.chans j p' h' e
  obtain ⟨k',fS⟩:=hold
  exact Ko _ _ fS
 ·have e1:j≠h:=by rintro rfl;rw [EC] at e;exact (uG p' h').2 e
  have e2:j≠i:=by rintro rfl;rw [vB] at e;exact (uG p' h').1 e
  rw [MY j e1 e2] at e
  obtain ⟨k',fS⟩:=T.shuts j p' h' e
  refine ⟨k', ?_⟩
  rw [uM,if_neg (fun ec=>by rw [ec,gv] at fS;cases fS)]
  exact fS
 ·by_cases e1:j=h
  ·subst e1
   rw [EC] at e
   rcases oE with ⟨h1,_⟩|⟨_,h2,_⟩
   ·exact h1
   ·rw [e] at h2;cases h2
  ·by_cases e2:j=i
   ·subst e2
    rw [vB] at e
    rcases oE with ⟨_,h2,_⟩|⟨h1,_⟩
    ·rw [e] at h2;cases h2
    ·exact h1
   ·rw [MY j e1 e2] at e
    exact absurd (some_inj (T.one j k' d' e)).symm e1
 ·rcases oE with ⟨rfl,_,h2⟩|⟨rfl,_,h2⟩
  ·obtain rfl:=some_inj hx
   rw [EC];exact h2
  ·obtain rfl:=some_inj hx
   rw [vB];exact h2
 ·have e1:(0:Nat)≠h:=by rintro rfl;rw [EC] at h1;exact Sq _ h1
  have e2:(0:Nat)≠i:=by rintro rfl;rw [vB] at h1;exact YJ _ h1
  rw [MY 0 e1 e2] at h1
  rw [P_ _ _ e1,P_ _ _ e2]
  exact T.awake h1 (ot _ _ h2)
end
def VZ (P:U') (Post:M'->J'->Prop) (gs:Array O') (w:J') (sl:Option (Nat × Nat)) (t:Trace) (h:Nat):Prop:=
 (∃m' ops,runT P (crowd gs w sl) h=(.next m',ops)/\Ends P Post m' (t++ops))\/(∃o w' ops,runT P (crowd gs w sl) h=(.ended o w',ops)/\∀wm sm,Good P Post (crowd gs wm sm) o w' (t++ops))
theorem turn (hA:∀g w,ae g w->g.status=.running) (uQ:∀g w,ae g w->∃m,Goes P true (RB C b o 0) (DW b o) (AtW1 P C b o ae Fin) m g w) (hc:h=0\/0<k) (T:aC P C b o ae Fin (some h) rel ρ q gs w t) (hr:ρ h=.self k d) (hi:gs[h]?=some a) (hrun:a.status=.running)
 (next:∀bZ fT q' dH w₁ sl' mC,aC P C b o ae Fin (some h) bZ fT q' dH w₁ mC->fT h=.self k d->dH.size=gs.size->dH[h]?=some a->(∀j,vS (ρ j) (fT j))->(sU ρ->bZ=rel/\sU fT)->Out (bS C) w w₁->VZ P Post dH w₁ sl' mC h):Ends P Post (crowd gs w sl) t:=by
 generalize MZ:meas ρ q gs.size=μ
 induction sf.apply μ generalizing rel ρ q gs w sl t with
 |intro μ _ AM=>
  have Ny:=T.pE hA (fun x y hx hy=>by
   obtain rfl:=eY T hx
   rw [hi] at hy
   obtain rfl:=some_inj hy
   exact awake_of (.inl hrun))
  obtain ⟨i,g,dr,sl',vH,hg,hst⟩:=crowd_pick (P:=P) (w:=w) (sl:=sl) Ny ⟨h,a,hi,hrun⟩
  have Td:=T.at dr
  have ye:Out (bS C) w (w.at dr):=Out.at _ w dr
  by_cases e:i=h
  ·subst e
   rcases next rel ρ q gs (w.at dr) sl' t Td hr rfl hi (fun j=>.rfl' _) (fun h=>⟨rfl,h⟩) ye with ⟨m',ops,h1,h2⟩|⟨o',w',ops,h1,h2⟩
   ·exact Ends.step (hst.trans h1) h2
   ·exact Ends.last (hst.trans h1) (h2 w sl)
  ·have lu:(ρ i).isSelf=false:=by
    cases hs:(ρ i).isSelf with
    |false=>rfl
    |true=>exact absurd (eY T hs) e
   rcases Td.Dn (sl:=sl') hA uQ (l9 Td hi hrun) vH lu hg (fun p home _ x y hx hy=>by
    obtain rfl:=eY T hx
    rw [hi] at hy
    obtain rfl:=some_inj hy
    exact offersAt_of_not_blocked (by rw [hrun];simp) _ _) with hm|⟨rfl,sk,_⟩
   ·obtain ⟨gs',w',ops,fT,q',who',bZ,k1,k2,k3,k4,k5,k6,k7,k8,k9,JU,kc⟩:=hm
    have FU:(ρ h).isSelf=true:=by rw [hr];rfl
    have oE:=k7 ⟨h,FU⟩
    subst oE
    refine Ends.step (hst.trans k1) ?_
    exact AM (meas fT q' gs'.size) (by rw [<-MZ,k2];exact k4) k3 (xY (k6 h) hr) (by rw [k8 h FU];exact hi) (fun r₁ iX rR dH w₁ ib mC j1 j2 j3 j4 j5 jc j6=>next r₁ iX rR dH w₁ ib mC j1 j2 (j3.trans k2) j4 (fun j=>(k6 j).trans (j5 j)) (fun h=>⟨(jc (kc h).2).1.trans (kc h).1,(jc (kc h).2).2⟩) ((ye.trans k5).trans j6)) rfl
   ·exact absurd sk (JF T hc hr hi)
def GD (w:J') (l:Loc):Prop:=(∃x j,l=.cell ⟨x,j,none⟩/\x<w.heap.size)\/∃r ob,l=.obj r/\w.heap[r]?=some ob/\aR ob=false
theorem aC.UK {n:Nat} {child:O'} {S Q:Loc->Prop} {r:aX} (T:aC P C b o ae Fin (some h) rel ρ q gs w t) (hr:ρ h=.self (k+1) 0) (hi:gs[h]?=some a)
 (hS:∀l,S l->GD w l/\¬C.Sh l/\¬C.Gr l/\∀g,¬C.Pv g l) (hQ:∀l,Q l->GD w l/\¬C.Sh l/\¬C.Gr l/\∀g,¬C.Pv g l/\¬C.St g l)
 (aM:fx P (C.hire gs.size S Q) b o ae Fin gs.size r n child w) (ZF:r.count=1) (hdd:r.dd=0) (UD:r.isLast=false) (su:r.isSelf=false) (QW:r.loose=true) (uG:∀p h',r≠.shut p h')
 (kD:∀p' h',r=.seat p' h'->(∃k',w.heap[p'.chan]?=some (.chan 0 #[] false k' k' false))/\∀j p SL,ρ j=.seat p SL->p.chan=p'.chan->p.out=p'.out) (fh:w_) (pos:String) (fc:w_):
 aC P (C.hire gs.size S Q) b o ae Fin (some h) rel (upd (upd ρ h (.self k 0)) gs.size r) (upd q gs.size n) ((gs.setIfInBounds h a').push child) w (t++#[{g:=h,fn:=fh,pos:=pos,act:=.go gs.size},{g:=gs.size,fn:=fc,pos:=pos,act:=.start}]):=by
 have hlt:h<gs.size:=(cI hi)
 have hne:h≠gs.size:=by omega
 have hsz:((gs.setIfInBounds h a').push child).size=gs.size+1:=by simp
 have om:ρ gs.size=.none:=T.above _ (C_ _)
 have Dx:gs.size≠0:=by have:=T.cX;omega
 have zN:upd (upd ρ h (.self k 0)) gs.size r h=.self k 0:=by rw [P_ _ _ hne,O_]
 have BC:upd (upd ρ h (.self k 0)) gs.size r gs.size=r:=O_ _ _ _
 have uW:∀j,j≠h->j≠gs.size->upd (upd ρ h (.self k 0)) gs.size r j=ρ j:=fun j h1 h2=>by rw [P_ _ _ h2,P_ _ _ h1]
 have sX:r≠.none:=by rintro rfl;exact aM
 have b9:C.on:=T.jw (i:=h) (by rw [hr];exact Nat.succ_ne_zero k)
 have mem:∀l,GD w l->l.isMemory=true:=by rintro l (⟨x,j,rfl,_⟩|⟨r,ob,rfl,_⟩)<;>rfl
 have AV:=T.tr.hire (h:=h) (S:=S) (Q:=Q) (K':=Knows (t++#[{g:=h,fn:=fh,pos:=pos,act:=.go gs.size},{g:=gs.size,fn:=fc,pos:=pos,act:=.start}]) h) (fun i hi=>hi) hlt (T.fX (by rw [hr];simp)) (by rw [hr];rfl) (by rw [om];rfl) (fun g l hg=>T.old g l hg) (fun l hl=>⟨mem l (hS l hl).1,(hS l hl).2⟩) (fun l hl=>⟨mem l (hQ l hl).1,(hQ l hl).2⟩) fh pos fc (fun _ h _=>h)
 have jW:cnt (upd (upd ρ h (.self k 0)) gs.size r) (gs.size+1)=cnt ρ gs.size:=by
  have e1:=kL (ρ:=ρ) (.self k 0) hlt
  rw [hr] at e1
  have e2:cnt (upd (upd ρ h (.self k 0)) gs.size r) (gs.size+1)=cnt (upd ρ h (.self k 0)) gs.size+r.count:=by
   show sumTo gs.size _+_=_
   simp only [BC]
   congr 1
   exact sumTo_congr fun j hj=>by rw [P_ _ _ (by omega)]
  simp only [aX.count] at e1
  omega
 have e0:∀s,ρ 0=.wait s->upd (upd ρ h (.self k 0)) gs.size r 0=.wait s:=fun s hs=>by
  rw [uW 0 (by rintro rfl;rw [hr] at hs;cases hs) (ru Dx)];exact hs
 have xD:∀j,(upd (upd ρ h (.self k 0)) gs.size r j).isLast=(ρ j).isLast:=fun j=>by
  by_cases e1:j=h
  ·subst e1;rw [zN,hr];rfl
  ·by_cases e2:j=gs.size
   ·subst e2;rw [BC,UD,om];rfl
   ·rw [uW j e1 e2]
 have my:dy b o (upd (upd ρ h (.self k 0)) gs.size r) (gs.size+1) w:=by
  have hw:=T.wg b9
  unfold dy at hw ⊢
  by_cases M1:∃s,ρ 0=.wait s
  ·obtain ⟨s,hs⟩:=M1
   rw [e0 s hs]
   rw [hs] at hw
   cases s with
   |w3=>
    simp only [jW,xD] at hw ⊢
    rcases hw with hw|⟨cf,i,wh,CK⟩
    ·exact .inl hw
    ·refine .inr ⟨cf,i,wh, ?_⟩
     have ml:(ρ i).isLast=true:=by rcases CK with ⟨h|h,_⟩|⟨h,_⟩<;>rw [h]<;>rfl
     have i1:i≠h:=by rintro rfl;rw [hr] at ml;cases ml
     have i2:i≠gs.size:=by rintro rfl;rw [om] at ml;cases ml
     rw [uW i i1 i2];exact CK
   |_=>simp only [jW,xD] at hw ⊢;exact hw
  ·have n1:∀s,ρ 0≠.wait s:=fun s hs=>M1 ⟨s,hs⟩
   have n2:∀s,upd (upd ρ h (.self k 0)) gs.size r 0≠.wait s:=fun s hs=>by
    by_cases e1:(0:Nat)=h
    ·subst e1;rw [zN] at hs;cases hs
    ·rw [uW 0 e1 (ru Dx)] at hs;exact n1 s hs
   have gC:(∀j,(ρ j).isLast=false)/\cx b o w (cnt ρ gs.size * KK) 0:=by
    cases hz:ρ 0 with
    |wait s=>exact absurd hz (n1 s)
    |_=>rw [hz] at hw;exact hw
   cases hz:upd (upd ρ h (.self k 0)) gs.size r 0 with
   |wait s=>exact absurd hz (n2 s)
   |_=>simp only [jW,xD];exact gC
 refine ⟨⟨fun g g' l hp Iw=> ?_,fun g l hs=> ?_,fun l hl=> ?_⟩,T.ad,T.yk,T.IB,fun g hg=> ?_,fun g l hg=> ?_,fun g l hg=> ?_,fun g x j hg=> ?_,fun g x hg=> ?_, ?_,fun j y hy=> ?_,fun j hj=> ?_,fun j p' h' e=> ?_,fun j l p p' h₁ iN e1 e2 hch=> ?_,fun j p' h' e=> ?_,fun j k' d' e=> ?_,fun x hx=> ?_,by rw [hsz,jW];exact T.few,by rw [hsz];exact fun _=>my,fun c=>absurd b9 c,by rw [hsz];omega,fun h1 h2=> ?_⟩
 ·rcases hp with hp|⟨rfl,hp⟩
  ·refine ⟨?_, ?_⟩
   ·rintro (h1|⟨rfl,h1⟩)
    ·exact (T.ok.apart g g' l hp Iw).1 h1
    ·exact ((hQ l h1).2.2.2 g).1 hp
   ·rintro (h1|⟨rfl,h1⟩)
    ·exact (T.ok.apart g g' l hp Iw).2 h1
    ·exact (hS l h1).2.2.2 g hp
  ·refine ⟨?_, ?_⟩
   ·rintro (h1|⟨rfl,_⟩)
    ·exact ((hQ l hp).2.2.2 g').1 h1
    ·exact Iw rfl
   ·rintro (h1|⟨rfl,_⟩)
    ·exact ((hQ l hp).2.2.2 g').2 h1
    ·exact Iw rfl
 ·refine ⟨?_, ?_⟩
  ·rintro (h1|⟨_,h1⟩)
   ·exact (T.ok.off g l hs).1 h1
   ·exact (hQ l h1).2.1 hs
  ·rintro (h1|⟨_,h1⟩)
   ·exact (T.ok.off g l hs).2 h1
   ·exact (hS l h1).2.1 hs
 ·refine ⟨(T.ok.gr l hl).1,fun g=>⟨?_, ?_⟩⟩
  ·rintro (h1|⟨_,h1⟩)
   ·exact ((T.ok.gr l hl).2 g).1 h1
   ·exact (hQ l h1).2.2.1 hl
  ·rintro (h1|⟨_,h1⟩)
   ·exact ((T.ok.gr l hl).2 g).2 h1
   ·exact (hS l h1).2.2.1 hl
 ·obtain ⟨d,e⟩:=T.Ls g hg
  rw [uW g (by rintro rfl;rw [hr] at e;cases e) (by rintro rfl;rw [om] at e;cases e)];exact ⟨d,e⟩
 ·rw [hsz]
  rcases hg with (hg|⟨rfl,_⟩)|(hg|⟨rfl,_⟩)
  ·have:=T.old g l (.inl hg);omega
  ·omega
  ·have:=T.old g l (.inr hg);omega
  ·omega
 ·rcases hg with (hg|⟨_,hg⟩)|(hg|⟨_,hg⟩)
  ·exact T.plain g l (.inl hg)
  ·rcases (hS l hg).1 with ⟨x,j,e,_⟩|⟨r,ob,e,_⟩
   ·exact .inl ⟨x,j,e⟩
   ·exact .inr ⟨r,e⟩
  ·exact T.plain g l (.inr hg)
  ·rcases (hQ l hg).1 with ⟨x,j,e,_⟩|⟨r,ob,e,_⟩
   ·exact .inl ⟨x,j,e⟩
   ·exact .inr ⟨r,e⟩
 ·rcases hg with (hg|⟨_,hg⟩)|(hg|⟨_,hg⟩)
  ·exact T.CG g x j (.inl hg)
  ·rcases (hQ _ hg).1 with ⟨x',j',e,h1⟩|⟨r,ob,e,_⟩
   ·injection e with e;injection e with e;subst e;exact h1
   ·cases e
  ·exact T.CG g x j (.inr hg)
  ·rcases (hS _ hg).1 with ⟨x',j',e,h1⟩|⟨r,ob,e,_⟩
   ·injection e with e;injection e with e;subst e;exact h1
   ·cases e
 ·rcases hg with (hg|⟨_,hg⟩)|(hg|⟨_,hg⟩)
  ·exact T.mO g x (.inl hg)
  ·rcases (hQ _ hg).1 with ⟨x',j',e,_⟩|⟨r,ob,e,h1,h2⟩
   ·cases e
   ·injection e with e;subst e;exact ⟨ob,h1,h2⟩
  ·exact T.mO g x (.inr hg)
  ·rcases (hS _ hg).1 with ⟨x',j',e,_⟩|⟨r,ob,e,h1,h2⟩
   ·cases e
   ·injection e with e;subst e;exact ⟨ob,h1,h2⟩
 ·rw [hsz]
  have e1:(fun j=>(upd (upd ρ h (.self k 0)) gs.size r j).dd)=fun j=>(ρ j).dd:=by
   funext j
   by_cases e1:j=h
   ·subst e1;rw [zN,hr];rfl
   ·by_cases e2:j=gs.size
    ·subst e2;rw [BC,hdd,om];rfl
    ·rw [uW j e1 e2]
  rw [e1]
  refine AV.n9 (fun p hp=>.inl hp) (fun z a ha hm hs _=>⟨fun hk=>.inl hk,fun g hg hl=>.inr (hl.imp (fun hl'=> ?_) id)⟩)
  clear hl hg
  rcases hl' with zp|WB
  ·have h1:g≠h:=fun e=>by rw [e,hr] at zp;cases zp
   have h2:g≠gs.size:=fun e=>by rw [e,om] at zp;cases zp
   rw [uW g h1 h2];exact zp
  ·rw [WB,BC];exact QW
 ·by_cases e2:j=gs.size
  ·subst e2
   have:((gs.setIfInBounds h a').push child)[gs.size]?=some child:=by
    rw [show gs.size=(gs.setIfInBounds h a').size by simp];exact Array.getElem?_push_size
   rw [this] at hy
   obtain rfl:=some_inj hy
   rw [BC,O_];exact aM
  ·rw [Array.getElem?_push,if_neg (by simpa using e2)] at hy
   by_cases e1:j=h
   ·subst e1;rw [zN];trivial
   ·rw [I_ (ru e1)] at hy
    rw [uW j e1 e2,P_ _ _ e2]
    refine (sj (C:=C) (C':=C.hire gs.size S Q) (fun l=> ?_) (fun l=> ?_) rfl rfl _ _ _ _).2 (T.eD j y hy)
    ·exact ⟨fun h=>h.elim id fun h=>absurd h.1 e2,.inl⟩
    ·exact ⟨fun h=>h.elim id fun h=>absurd h.1 e2,.inl⟩
 ·rw [hsz] at hj
  rw [uW j (by omega) (by omega)];exact T.above j (by omega)
 ·by_cases e1:j=h
  ·subst e1;rw [zN] at e;cases e
  ·by_cases e2:j=gs.size
   ·subst e2;rw [BC] at e;exact (kD p' h' e).1
   ·rw [uW j e1 e2] at e;exact T.chans j p' h' e
 ·have of:∀j p h₁,upd (upd ρ h (.self k 0)) gs.size r j=.seat p h₁->(j=gs.size/\r=.seat p h₁)\/ρ j=.seat p h₁:=fun j p h₁ e=>by
   by_cases e1:j=h
   ·subst e1;rw [zN] at e;cases e
   ·by_cases e2:j=gs.size
    ·subst e2;rw [BC] at e;exact .inl ⟨rfl,e⟩
    ·rw [uW j e1 e2] at e;exact .inr e
  rcases of j p h₁ e1 with ⟨_,a1⟩|a1<;>rcases of l p' iN e2 with ⟨_,a2⟩|a2
  ·rw [a1] at a2;injection a2 with a2;rw [a2]
  ·exact ((kD p h₁ a1).2 l p' iN a2 hch.symm).symm
  ·exact (kD p' iN a2).2 j p h₁ a1 hch
  ·exact T.apart j l p p' h₁ iN a1 a2 hch
 ·by_cases e1:j=h
  ·subst e1;rw [zN] at e;cases e
  ·by_cases e2:j=gs.size
   ·subst e2;rw [BC] at e;exact absurd e (uG p' h')
   ·rw [uW j e1 e2] at e;exact T.shuts j p' h' e
 ·by_cases e1:j=h
  ·subst e1;rfl
  ·by_cases e2:j=gs.size
   ·subst e2;rw [BC] at e;rw [e] at su;cases su
   ·rw [uW j e1 e2] at e;exact T.one j _ _ e
 ·obtain rfl:=some_inj hx
  rw [zN];exact .inr (.inl rfl)
 ·have e1:(0:Nat)≠h:=by rintro rfl;rw [zN] at h1;cases h1
  rw [uW 0 e1 (ru Dx)] at h1
  rw [P_ _ _ (ru Dx)]
  exact T.awake h1 h2
theorem uz {n:Nat} (hc:cnt ρ n=0) (hj:j<n):(ρ j).count=0:=by
 have:=le_sumTo (f:=fun i=>(ρ i).count) hj
 unfold cnt at hc
 omega
theorem aC.LF (T:aC P C b o ae Fin who rel ρ q gs w t) (hA:∀g w,ae g w->g.status=.running) (lu:∀x,(ρ x).isSelf=false) (hr:ρ 0=.wait .w6) (hi:gs[0]?=some a) (hgo:stepG P true a w=.go a' w #[mh (.acquire ⟨b,o,none⟩)]):
 ∃q',aC P C b o ae Fin (some 0) (fun _=>False) (upd ρ 0 (.self 0 0)) q' ((gs.map (woken P a a' w)).setIfInBounds 0 a') w (t++cC 0 a.frame.fn a.frame.place #[mh (.acquire ⟨b,o,none⟩)])/\∀j,j≠0->q' j=q j:=by
 have hlt:=T.cX
 have b9:C.on:=T.jw (i:=0) (by rw [hr];exact id)
 have hw:=T.wg b9
 unfold dy at hw
 rw [hr] at hw
 obtain ⟨hl,hc,hw⟩:=hw
 have jW:cnt (upd ρ 0 (.self 0 0)) gs.size=cnt ρ gs.size:=js hlt (by rw [hr];rfl)
 have OM:∀j,ρ j≠.wait .w3:=fun j e=>by
  by_cases hj:j<gs.size
  ·have aM:=T.eD j _ (H_ hj)
   rw [e] at aM
   obtain ⟨rfl,_⟩:=aM
   rw [hr] at e;cases e
  ·rw [T.above j (by omega)] at e;cases e
 obtain ⟨q',T',_,h2⟩:=T.step hA (a:=a) (a':=a') (g':=a') (r':=.self 0 0) (n':=0) (who':=some 0) (bZ:=fun _=>False) (u:=cC 0 a.frame.fn a.frame.place #[mh (.acquire ⟨b,o,none⟩)]) hi (fun j _=>RB.refl j w) (C_ _) (fun r ob h _ _=>h) (T.mO 0) (fun p h' e=>by cases e) (fun p h' e=>by cases e)
  (fun j k' d' e=>by
   by_cases e1:j=0
   ·subst e1;rfl
   ·rw [P_ _ _ e1] at e
    have:=lu j
    rw [e] at this;cases this) (fun x hx=>.inl (some_inj hx).symm) trivial
  (by
   have e1:(fun j=>(upd ρ 0 (.self 0 0) j).dd)=fun j=>(ρ j).dd:=by
    funext j
    by_cases e:j=0
    ·subst e;rw [O_,hr];rfl
    ·rw [P_ _ _ e]
   rw [pN (by rw [hr];rfl),e1]
   refine T.tr.acquire (fun i hi=> ?_) (by rw [hr];rfl) a.frame.fn a.frame.place (by rw [ofEvents_one,T.ad];rfl)
   cases Sq:who with
   |none=>rw [Sq] at hi;exact .inr hi
   |some x=>
    rw [Sq] at hi
    rcases T.holder x Sq with rfl|h1|h1
    ·exact .inl hi
    ·rw [lu x] at h1;cases h1
    ·by_cases hx:x<gs.size
     ·have:=uz hc hx
      rw [h1] at this;cases this
     ·rw [T.above x (by omega)] at h1;cases h1)
  (by
   intro _
   unfold dy
   rw [O_]
   exact ⟨rW hl rfl,by rw [jW,hc];simpa using hw⟩) (fun _=>rfl) (fun hd=>absurd hd (T.fX (by rw [hr];simp))) (by rw [jW];exact T.few) (fun h=>absurd rfl h) (fun _ e=>by cases e)
 exact ⟨q',T',fun j hj=>h2 j hj (OM j)⟩
theorem join (hA:∀g w,ae g w->g.status=.running) (uQ:∀g w,ae g w->∃m,Goes P true (RB C b o 0) (DW b o) (AtW1 P C b o ae Fin) m g w) (T:aC P C b o ae Fin who rel ρ q gs w t) {s:Tag} (hr:ρ 0=.wait s) (hl:∀j,j≠0->(ρ j).leaving=true\/ρ j=.none)
 (next:∀fT q' gs' a' w' sl' t',aC P C b o ae Fin (some 0) (fun _=>False) fT q' gs' w' t'->fT 0=.self 0 0->gs'.size=gs.size->gs'[0]?=some a'->Fin a' w'->Out (bS C) w w'->(∀j,j≠0->(∃d,fT j=.quit d)\/fT j=.none)->Ends P Post (crowd gs' w' sl') t'):Ends P Post (crowd gs w sl) t:=by
 generalize MZ:meas ρ q gs.size=μ
 induction sf.apply μ generalizing who rel ρ q gs w sl t s with
 |intro μ _ AM=>
  have lu:∀x,(ρ x).isSelf=false:=fun x=>by
   by_cases e:x=0
   ·subst e;rw [hr];rfl
   ·rcases hl x e with h|h
    ·cases hx:ρ x<;>rw [hx] at h<;>first|rfl|(cases h;done)
    ·rw [h];rfl
  have Ny:=T.pE hA (fun x y hx _=>by rw [lu x] at hx;cases hx)
  have hsome:∃(i:Nat) (g:O'),gs[i]?=some g/\g.status=.running:=by
   by_cases hq:∃j,j≠0/\(ρ j).leaving=true/\∀d,ρ j≠.quit d
   ·obtain ⟨j,Nn,hj,hjq⟩:=hq
    have Nl:j<gs.size:=by
     rcases Nat.lt_or_ge j gs.size with h|h
     ·exact h
     ·rw [T.above j h] at hj;cases hj
    refine ⟨j,_,H_ Nl, ?_⟩
    have aM:=T.eD j _ (H_ Nl)
    cases hx:ρ j with
    |quit d=>exact absurd hx (hjq d)
    |self k d=>rw [hx] at hj;cases hj
    |seat p home=>rw [hx] at hj;cases hj
    |wait s=>rw [hx] at hj;cases hj
    |none=>rw [hx] at hj;cases hj
    |shut p home=>rw [hx] at aM;exact aM.2.2.2.running (fun _ _ x=>x.choose_spec.1.1) w (RB.refl j w)
    |done=>rw [hx] at aM;exact aM.2.running (fun _ _ x=>x.1) w (RB.refl j w)
    |rel=>rw [hx] at aM;exact aM.2.running (fun _ _ x=>x.1) w (RB.refl j w)
    |deaf=>rw [hx] at aM;exact aM.2.running (fun _ _ x=>x.1) w (RB.refl j w)
    |ky=>rw [hx] at aM;exact aM.2.running (fun _ _ x=>x.1) w (RB.refl j w)
    |kx=>rw [hx] at aM;exact aM.2.running (fun _ _ x=>x.1) w (RB.refl j w)
    |ku=>rw [hx] at aM;exact aM.2.running (fun _ _ x=>x.1) w (RB.refl j w)
   ·have Sw:∀j,j≠0->(∃d,ρ j=.quit d)\/ρ j=.none:=fun j hj=>by
     rcases hl j hj with h|h
     ·left
      cases hx:ρ j with
      |quit d=>exact ⟨d,rfl⟩
      |_=>exact absurd ⟨j,hj,h,fun d=>by rw [hx];simp⟩ hq
     ·exact .inr h
    obtain ⟨y,hy⟩:∃y,gs[0]?=some y:=⟨_,H_ T.cX⟩
    refine ⟨0,y,hy, ?_⟩
    have aM:=T.eD 0 y hy
    rw [hr] at aM
    rcases aM.status hA rfl with h|h|⟨_,h0,h⟩
    ·exact h
    ·exfalso
     cases s with
     |w3=>
      rcases aM.2 with ⟨k',_,hg⟩|⟨_,dN,_,rfl,_⟩
      ·have:=hg.running (fun _ _ x=>x.1) w (RB.refl 0 w);rw [h] at this;cases this
      ·cases h
     |IQ=>have:=Goes.running hA w (RB.refl 0 w) aM.2;rw [h] at this;cases this
     |w2 v=>have:=Goes.running (fun _ _ x=>x.1) w (RB.refl 0 w) aM.2.2;rw [h] at this;cases this
     |w0=>have:=Goes.running (fun _ _ x=>x.1) w (RB.refl 0 w) aM.2;rw [h] at this;cases this
     |w1=>have:=Goes.running (fun _ _ x=>x.1) w (RB.refl 0 w) aM.2;rw [h] at this;cases this
     |w4=>have:=Goes.running (fun _ _ x=>x.1) w (RB.refl 0 w) aM.2;rw [h] at this;cases this
     |w5=>have:=Goes.running (fun _ _ x=>x.1) w (RB.refl 0 w) aM.2;rw [h] at this;cases this
     |w6=>have:=Goes.running (fun _ _ x=>x.1) w (RB.refl 0 w) aM.2;rw [h] at this;cases this
    ·rcases h with ⟨p,home,h⟩|h
     ·cases h
     ·injection h with h
      subst h
      have WI:cnt ρ gs.size=0:=by
       have:∀n,cnt ρ n=0:=fun n=>by
        induction n with
        |zero=>rfl
        |succ n ih=>
         show cnt ρ n+_=0
         rw [ih];show 0+(ρ n).count=0
         by_cases e:n=0
         ·subst e;rw [hr];rfl
         ·rcases Sw n e with ⟨d,h⟩|h<;>rw [h]<;>rfl
       exact this _
      have hw:=T.wg (T.jw (i:=0) (by rw [hr];exact id))
      unfold dy at hw
      rw [hr] at hw
      rcases hw with ⟨_,⟨h1,_⟩|⟨_,h1⟩⟩|⟨_,i,_,h1⟩
      ·omega
      ·have:=T.awake hr h1;omega
      ·have ml:(ρ i).isLast=true:=by rcases h1 with ⟨h|h,_⟩|⟨h,_⟩<;>rw [h]<;>rfl
       by_cases e:i=0
       ·subst e;rw [hr] at ml;cases ml
       ·rcases Sw i e with ⟨d,h⟩|h<;>rw [h] at ml<;>cases ml
  obtain ⟨i,g,dr,sl',vH,hg,hst⟩:=crowd_pick (P:=P) (w:=w) (sl:=sl) Ny hsome
  have Td:=T.at dr
  have ye:Out (bS C) w (w.at dr):=Out.at _ w dr
  rcases Td.Dn (sl:=sl') hA uQ (fun x y hx _=>by rw [lu x] at hx;cases hx) vH (lu i) hg (fun p home _ x y hx _=>by rw [lu x] at hx;cases hx) with hm|⟨rfl,sk,fH⟩
  ·obtain ⟨gs',w',ops,fT,q',who',bZ,k1,k2,k3,k4,k5,k6,k7,k8,k9,JU,_⟩:=hm
   refine Ends.step (hst.trans k1) ?_
   obtain ⟨s',sX⟩:∃s',fT 0=.wait s':=by
    rcases k6 0 with h|⟨h,_⟩|⟨_,s',_,h⟩
    ·exact ⟨s,h.trans hr⟩
    ·rw [hr] at h;cases h
    ·exact ⟨s',h⟩
   refine AM (meas fT q' gs'.size) (by rw [<-MZ,k2];exact k4) k3 sX (fun j hj=> ?_) (fun iX rR dH a₁ w₁ ib mC j1 j2 j3 j4 j5 j6 j7=>next iX rR dH a₁ w₁ ib mC j1 j2 (j3.trans k2) j4 j5 ((ye.trans k5).trans j6) j7) rfl
   rcases k6 j with h|⟨_,h⟩|⟨aDp,aDo,h,_⟩
   ·rw [h];exact hl j hj
   ·exact .inl h
   ·rcases hl j hj with h'|h'<;>rw [h] at h'<;>cases h'
  ·obtain ⟨_,a',hgo,lI⟩:=fH
   obtain ⟨q',T',_⟩:=Td.LF hA lu sk vH hgo
   have hw:=T.wg (T.jw (i:=0) (by rw [sk];exact id))
   unfold dy at hw
   rw [sk] at hw
   obtain ⟨rp,WI,_⟩:=hw
   refine Ends.step (hst.trans (runT_crowd_go (sl:=sl') vH hgo)) ?_
   refine next _ q' _ a' _ sl' _ T' (O_ _ _ _) (by simp) (by simp [T.cX]) lI ye (fun j hj=> ?_)
   rw [P_ _ _ hj]
   rcases hl j hj with h|h
   ·left
    have Nl:j<gs.size:=by
     rcases Nat.lt_or_ge j gs.size with h'|h'
     ·exact h'
     ·rw [T.above j h'] at h;cases h
    have KE:=uz WI Nl
    have uK:=rp j
    cases hx:ρ j with
    |quit d=>exact ⟨d,rfl⟩
    |_=>first|(rw [hx] at h;cases h;done)|(rw [hx] at KE;cases KE;done)|(rw [hx] at uK;cases uK;done)
   ·exact .inr h
theorem aC.good (T:aC P C b o ae Fin (some 0) (fun _=>False) ρ q gs w t) (hr:ρ 0=.self k 0) (hq:∀j,j≠0->(∃d,ρ j=.quit d)\/ρ j=.none) {v:M'} (fn:w_) (pos:String) (hes:∀e∈es,EvM (bS C) (fy C) w.heap.size e)
 (heo:∀e∈es,∀r,e.loc=.obj r->∀g,¬C.Pv g (.obj r)/\(C.St g (.obj r)->e.write=false)) (xz:Post v w) (wm:J') (sm:Option (Nat × Nat)):Good P Post (crowd gs wm sm) (.done v) w (t++cC 0 fn pos es):=by
 have hu:=zU hr
 have AV:=T.jS (i:=0) (r':=.self k 0) (es:=es) (H:=True) fn pos (by rw [hr]) (by rw [hr];exact deafBehind_still (fun e he=>Dc (hes e he)) _) (fun j e he=>AA T (hes e (l_ he)) (heo e (l_ he)) _ _ _) (fun _=>rfl)
 rw [hu] at AV
 have rp:∀g,¬(ρ g).loose=true:=fun g hg=>by
  by_cases e:g=0
  ·subst e;rw [hr] at hg;cases hg
  ·rcases hq g e with ⟨d,h⟩|h<;>rw [h] at hg<;>cases hg
 have FX:∀i g,gs[i]?=some g->i≠0->∃n d,ρ i=.quit d/\QuitsD P n d g:=fun i g hg hi=>by
  have aM:=T.eD i g hg
  rcases hq i hi with ⟨d,h⟩|h
  ·rw [h] at aM;exact ⟨_,d,h,aM.2⟩
  ·rw [h] at aM;exact aM.elim
 refine ⟨v,rfl,xz,AV.clean,AV.handed T.cX (T.fX (by rw [hr];simp)) rp (fun _ h=>h),⟨fun g hg=> ?_,rfl⟩,fun i g hg hi=> ?_⟩
 ·obtain ⟨j,hj⟩:=List.mem_iff_getElem?.1 hg
  rw [List.getElem?_drop] at hj
  obtain ⟨n,d,_,h⟩:=FX (1+j) g (by simpa [crowd] using hj) (by omega)
  exact ⟨n,h.leaves⟩
 ·obtain ⟨n,d,h1,h⟩:=FX i g hg hi
  refine ⟨n, ?_⟩
  have:=AV.deaf i
  rw [h1] at this
  rw [show (t++cC 0 fn pos es).deaf i (t++cC 0 fn pos es).size=d from this]
  exact h.hears _
end
end Go.aC
