/-
  The steps through Done that count: the release, the word of deafness, the atomic add, the waking; an
-/
import Derived.Conc.Token
import Derived.Conc.WgGenN
import Derived.Conc.CrowdMono
import Derived.Conc.WgGenWait
import Derived.Conc.CompanyDraw
import Derived.Conc.MuWords
import Derived.Conc.CrowdStepC
import Derived.Test.YtnjkbffmmgckeaaGreatDoorQaa
set_option linter.all false
set_option maxRecDepth 100000
set_option maxHeartbeats 32000000
open Go renaming undef->I',World->J',Value->M',Goroutine->O',Program->U',execOp->V',Frame->Y',FuncId->w_,Item->x_,Oper->y_
open Option renaming getD_some->A_
open Nat renaming le_refl->C_,le_trans->D_,zero_le->nz
open Array renaming replicate->F_,getElem?_eq_getElem->H_,getElem?_setIfInBounds_ne->I_,size_setIfInBounds->X_,getElem?_setIfInBounds->Y_,mem_of_getElem?->l_,getD_eq_getD_getElem?->r_
open Go.ConcN renaming upd_same->O_,upd_ne->P_
open List renaming mem_cons->R_
open Bool renaming and_eq_true->T_,false_eq_true->qp
open Go.Region renaming wanted->U_
open Option.some renaming injEq->n_
open Go.MemOp renaming ofEvents->cC
open Ne renaming symm->ru
namespace Go.aC
section
open Go Go.Conc
open Go.ConcN (sumTo upd sumTo_upd upd_ne upd_same sumTo_congr le_sumTo)
variable {P:U'} {C:cS} {b o:Nat} {ae Fin:O'->J'->Prop} {who who':Option Nat} {rel bZ:Nat->Prop} {ρ:Nat->aX} {q:Nat->Nat} {gs:Array O'} {w w':J'} {t u:Trace} {sl:Option (Nat × Nat)}
theorem cx.uniq {s m s' m':Int} (h:cx b o w s m) (k:cx b o w s' m'):s=s'/\m=m':=by
 have e1:=h.st.symm.trans k.st
 have e2:=h.sm.symm.trans k.sm
 simp only [n_,Value.int.injEq,true_and] at e1 e2
 exact ⟨e1,e2⟩
variable {i:Nat}
theorem Fj {t:Trace} {g:Nat} {y:MemOp} (h:Knows t g i) (hg:y.g=g):Before (t++#[y]) i t.size:=.inr (h.hb_new (C_ _) (by simp) hg)
theorem ofEvents_one (i:Nat) (fn:w_) (pos:String) (e:Event):cC i fn pos #[e]=#[{g:=i,fn,pos,act:=.ofEvent e}]:=by rw [ofEvents_eq];simp
variable {k:Nat}
theorem zc (T:aC P C b o ae Fin who rel ρ q gs w t) (b9:C.on) (hk:k=o\/k=o+1):∀x j,(x=b/\j=k)->bS C x j:=fun x j ⟨h1,h2⟩=>.inl ((T.yk _).2 ⟨b9,by subst h1 h2;exact hk.imp (fun e=>by rw [e]) (fun e=>by rw [e])⟩)
theorem aC.Lm (T:aC P C b o ae Fin who rel ρ q gs w t) (hA:∀g w,ae g w->g.status=.running) (hS:bO ρ gs w) {g:O'} (hi:gs[i]?=some g) (hr:ρ i=.done) (iq:0<i) (h:AtR0 P C b o i g w):fp P C b o ae Fin who rel ρ q gs w sl t i:=by
 have hlt:i<gs.size:=(cI hi)
 have b9:C.on:=T.jw (i:=i) (by rw [hr];exact id)
 have nT:∀d,ρ i≠.quit d:=by rw [hr];simp
 obtain ⟨_,g',hgo,m,iJ⟩:=h
 have hu:cC i g.frame.fn g.frame.place #[mh (.releaseMerge ⟨b,o,none⟩)]=#[{g:=i,fn:=g.frame.fn,pos:=g.frame.place,act:=.mark (.releaseMerge C.ad)}]:=by rw [ofEvents_one,T.ad];rfl
 have hl:(fun x=>(ρ x).loose=true/\x≠i)=fun j=>(upd ρ i .rel j).loose=true:=by
  funext x
  by_cases e:x=i
  ·subst e;rw [O_];simp [aX.loose]
  ·rw [P_ _ _ e];simp [e]
 have hd:(fun x=>(ρ x).dd)=fun j=>(upd ρ i .rel j).dd:=by
  funext x
  by_cases e:x=i
  ·subst e;rw [O_,hr];rfl
  ·rw [P_ _ _ e]
 have key:∀who',((who'=who/\who≠some i)\/(who'=none/\who=some i))->(∀x,Acc who rel t x->Acc who' (fun p=>rel p\/p=t.size) (t++cC i g.frame.fn g.frame.place #[mh (.releaseMerge ⟨b,o,none⟩)]) x)->fp P C b o ae Fin who rel ρ q gs w sl t i:=by
  intro who' oE hK
  refine T.moves hA hS (w':=w) (r':=.rel) (n':=m) (who':=who') (bZ:=fun p=>rel p\/p=t.size) hi (by rw [hr];rfl) (by rw [dh iq];exact hgo) (Out.refl _ _) (fun j _=>RB.refl j w) (fun p h e=>by cases e) (fun p h e=>by cases e) rfl (oE.imp And.left id) (fun _=>.inr (oE.elim (fun h=>.inr h.2) fun h=>.inl h.1)) ⟨iq,iJ⟩ ?_ (.inr ⟨b9,nT⟩) ?_ (by rw [hr];exact C_ _) (.inr (by rw [hr];exact fun p h e=>by cases e)) (by rw [hr];exact .inr (.inl ⟨rfl,rfl⟩)) (fun _ _ h=>.inl h) (fun e=>by omega) (fun q' h1 h2=>jG hlt (by rw [hr];simp [aX.fW]))
  ·have:=(T.tr.release (u:=cC i g.frame.fn g.frame.place #[mh (.releaseMerge ⟨b,o,none⟩)]) (g:=i) hK (by rw [hr];rfl) g.frame.fn g.frame.place hu).1
   rw [hl,hd] at this
   exact this
  ·exact fun c=>(T.wg c).dG hlt (.inl (by omega)) (by rw [hr];rfl) (by rw [hr];rfl) (.inr rfl)
 by_cases hw:who=some i
 ·refine key none (.inr ⟨rfl,hw⟩) fun x hx=> ?_
  rw [hw] at hx
  refine ⟨t.size,.inr rfl, ?_⟩
  rw [hu]
  exact Fj hx rfl
 ·exact key who (.inl ⟨rfl,hw⟩) fun x hx=>Acc.app (fun p hp=>.inl hp) hx
theorem aC.MC (T:aC P C b o ae Fin who rel ρ q gs w t) (hA:∀g w,ae g w->g.status=.running) (hS:bO ρ gs w) {g:O'} (hi:gs[i]?=some g) (hr:ρ i=.rel) (iq:0<i) (h:AtK1 P C b o i g w):fp P C b o ae Fin who rel ρ q gs w sl t i:=by
 have hlt:i<gs.size:=(cI hi)
 have b9:C.on:=T.jw (i:=i) (by rw [hr];exact id)
 have nT:∀d,ρ i≠.quit d:=by rw [hr];simp
 obtain ⟨_,g',hgo,m,iJ⟩:=h
 refine T.moves hA hS (w':=w) (r':=.deaf) (n':=m) (who':=who) (bZ:=rel) hi (by rw [hr];rfl) (by rw [dh iq];exact hgo) (Out.refl _ _) (fun j _=>RB.refl j w) (fun p h e=>by cases e) (fun p h e=>by cases e) rfl (.inl rfl) (by rw [hr];exact fun e=>by cases e) ⟨iq,iJ⟩ ?_ (.inr ⟨b9,nT⟩) ?_ (by rw [hr];simp [aX.count]) (.inr (by rw [hr];exact fun p h e=>by cases e)) (by rw [hr];exact .inr (.inl ⟨rfl,rfl⟩)) (fun _ _ h=>.inl h) (fun e=>by omega) (fun q' h1 h2=>jG hlt (by rw [hr];simp [aX.fW]))
 ·refine T.jS (H:=False) _ _ (by rw [hr];rfl) (by rw [hr];rfl) (fun k e he=> ?_) (fun h=>h.elim)
  obtain rfl:e=mh .disable:=by simpa using l_ he
  exact ⟨.mute rfl,by simp [mh]⟩
 ·exact fun c=>(T.wg c).dG hlt (.inl (by omega)) (by rw [hr];rfl) (by rw [hr];rfl) (.inr rfl)
variable {d:Nat}
theorem aC.Jp (T:aC P C b o ae Fin who rel ρ q gs w t) (hA:∀g w,ae g w->g.status=.running) (hS:bO ρ gs w) {g:O'} (hi:gs[i]?=some g) (hr:ρ i=.quit d) (hrun:g.status=.running):fp P C b o ae Fin who rel ρ q gs w sl t i:=by
 have hlt:i<gs.size:=(cI hi)
 have aM:=T.eD i g hi
 rw [hr] at aM
 obtain ⟨iq,hq⟩:=aM
 cases hn:q i with
 |zero=>rw [hn] at hq;rw [hq.1] at hrun;cases hrun
 |succ k=>
  rw [hn] at hq
  rcases hq with ⟨hf,_⟩|⟨_,g',es,hm,hst,Sw⟩
  ·rw [hf] at hrun;cases hrun
  refine T.moves hA hS (w':=w) (r':=.quit (deafBehind d es)) (n':=k) (who':=who) (bZ:=rel) hi (by rw [hr];rfl) (by rw [dh iq];exact hst w) (Out.refl _ _) (fun j _=>RB.refl j w) (fun p h e=>by cases e) (fun p h e=>by cases e) rfl (.inl rfl) (by rw [hr];exact fun e=>by cases e) ⟨iq,Sw⟩ ?_ (.inl ⟨⟨d,hr⟩,⟨_,rfl⟩,rfl⟩) ?_ (by rw [hr];simp [aX.count]) (.inr (by rw [hr];exact fun p h e=>by cases e)) (by rw [hr];exact .inr (.inl ⟨rfl,rfl⟩)) (fun _ _ h=>.inl h) (fun e=>by omega) (fun q' h1 h2=>AH hlt (by rw [hr];rfl) (by simp [aX.fW]) (by omega) h2)
  ·refine T.jS (H:=False) _ _ (by rw [hr];rfl) (by rw [hr];rfl) (fun j e he=> ?_) (fun h=>h.elim)
   have:=hm e (l_ he)
   refine ⟨.mute (touch_mute this),fun x hl=> ?_⟩
   obtain ⟨loc,wr,sy⟩:=e
   simp only at hl
   subst hl
   simp [Event.mute] at this
  ·exact fun c=>(T.wg c).dG hlt (.inl (by omega)) (by rw [hr];rfl) (by rw [hr];rfl) (.inr rfl)
variable {r':aX}
theorem rW (h:∀j,(ρ j).isLast=false) (hr:r'.isLast=false):∀j,(upd ρ i r' j).isLast=false:=fun j=>by
 by_cases e:j=i
 ·subst e;rw [O_];exact hr
 ·rw [P_ _ _ e];exact h j
theorem aC.Lq (T:aC P C b o ae Fin who rel ρ q gs w t) (hA:∀g w,ae g w->g.status=.running) (hS:bO ρ gs w) {g:O'} (hi:gs[i]?=some g) (hr:ρ i=.deaf) (iq:0<i) (h:AtD1 P C b o i g w):fp P C b o ae Fin who rel ρ q gs w sl t i:=by
 have hlt:i<gs.size:=(cI hi)
 have b9:C.on:=T.jw (i:=i) (by rw [hr];exact id)
 have nT:∀d,ρ i≠.quit d:=by rw [hr];simp
 have hc:0<cnt ρ gs.size:=Bn hlt (by rw [hr];exact Nat.one_pos)
 obtain ⟨v,hv⟩:∃v,cnt ρ gs.size=v+1:=⟨cnt ρ gs.size - 1,by omega⟩
 have U3:=T.few
 have h0:(0:Nat)≠i:=by omega
 have my:(ρ 0=.wait .w3/\(∀j,(ρ j).isLast=false)/\cx b o w ((v+1:Nat) * KK+(1:Nat)) 0)\/((∀s,ρ 0=.wait s->s≠.w3/\s≠.w4/\s≠.w5/\s≠.w6)/\(∀j,(ρ j).isLast=false)/\cx b o w ((v+1:Nat) * KK+(0:Nat)) 0):=by
  have hw:=T.wg b9
  unfold dy at hw
  split at hw<;>rename_i e
  ·rcases hw with ⟨h1,⟨h2,h3⟩|⟨h2,_⟩⟩|⟨h2,_⟩
   ·refine .inl ⟨e,h1, ?_⟩
    rw [hv] at h3
    simpa using h3
   ·omega
   ·omega
  ·omega
  ·omega
  ·omega
  ·rename_i e1 e2 e3
   refine .inr ⟨fun s hs=>⟨?_, ?_, ?_, ?_⟩,hw.1, ?_⟩
   ·rintro rfl;exact e1 hs
   ·rintro rfl;exact e2 hs
   ·rintro rfl;exact e3 hs
   ·rintro rfl;exact e hs
   ·have:=hw.2
    rw [hv] at this
    simpa using this
 have jW:∀r':aX,r'.count=0->cnt (upd ρ i r') gs.size=v:=fun r' sX=>by
  have:=kL (ρ:=ρ) r' hlt
  rw [hr] at this
  simp only [show aX.deaf.count=1 from rfl,sX] at this
  omega
 have AV:∀r':aX,r'.loose=false->r'.dd=1->Tr C (fun j=>(upd ρ i r' j).loose=true) rel gs.size (fun j=>(upd ρ i r' j).dd) (Acc who rel (t++cC i g.frame.fn g.frame.place #[mF ⟨b,o,none⟩,vT ⟨b,o,none⟩])) (t++cC i g.frame.fn g.frame.place #[mF ⟨b,o,none⟩,vT ⟨b,o,none⟩]):=fun r' h1 h2=>by
  refine T.jS (H:=False) _ _ (by rw [hr,h1];rfl) (by rw [hr,h2];simp [deafBehind,aX.dd,mF,vT]) (fun k e he=> ?_) (fun h=>h.elim)
  match k,he with
  |0,he=>
   obtain rfl:mF ⟨b,o,none⟩=e:=by simpa using he
   exact ⟨ji T b9 (T.fX nT) hi (.inl rfl) false (.inr (mG T (by simp) (by rw [hr];simp [deafBehind,aX.dd]))) _ _ _,by simp [mF]⟩
  |1,he=>
   obtain rfl:vT ⟨b,o,none⟩=e:=by simpa using he
   exact ⟨ji T b9 (T.fX nT) hi (.inl rfl) true (.inr (mG T (by simp) (by rw [hr];simp [deafBehind,aX.dd,mF]))) _ _ _,by simp [vT]⟩
  |k+2,he=>simp at he
 obtain ⟨_,hD⟩:=h
 have go:∀(wt:Nat) (r':aX) (n':Nat) (g':O'),stepG P false g w=.go g' (w.setCell ⟨b,o,none⟩ (.int .u64 (v * KK+wt))) #[mF ⟨b,o,none⟩,vT ⟨b,o,none⟩]->cx b o w ((v+1:Nat) * KK+wt) 0->r'.loose=false->r'.dd=1->r'.count=0->r'.isSelf=false->r'.leaving=true->r'.fW<5->
  fx P C b o ae Fin i r' n' g' (w.setCell ⟨b,o,none⟩ (.int .u64 (v * KK+wt)))->dy b o (upd ρ i r') gs.size (w.setCell ⟨b,o,none⟩ (.int .u64 (v * KK+wt)))->fp P C b o ae Fin who rel ρ q gs w sl t i:=by
  intro wt r' n' g' hgo hw h1 h2 h3 h4 h5 h6 aM cK
  have gC:=hw.setSt (v * KK+wt)
  refine T.moves hA hS (r':=r') (n':=n') (who':=who) (bZ:=rel) hi (by rw [hr];rfl) (by rw [dh iq];exact hgo) ((gH w b o _).mono (zc T b9 (.inl rfl))) (fun j _=>T.tq b9 (.inl rfl) ⟨_,_,gC⟩ j) (fun p h e=>by rw [e] at h1;cases h1) (fun p h e=>by rw [e] at h1;cases h1) h4 (.inl rfl) (by rw [hr];exact fun e=>by cases e) aM (AV r' h1 h2) (.inr ⟨b9,nT⟩) (fun _=>cK) (by rw [h3];exact nz _) (.inr (by rw [hr];exact fun p h e=>by cases e)) (by rw [hr];exact .inr (.inl ⟨rfl,h5⟩)) (fun _ _ h=> ?_) (fun e=>by omega) (fun q' _ _=>jG hlt (by rw [hr];exact h6))
  have:=(gC.uniq h).2
  omega
 rcases my with ⟨e3,rp,hw⟩|⟨lu,rp,hw⟩
 ·obtain ⟨g',hgo,hy,hn⟩:=hD v 1 (by omega) (by omega) hw
  by_cases BG:v=0
  ·obtain ⟨m,hm⟩:=hy ⟨BG,rfl⟩
   refine go 1 .ky m g' hgo hw rfl rfl rfl rfl rfl (by simp [aX.fW]) ⟨iq,hm⟩ ?_
   have gC:=hw.setSt (v * KK+(1:Nat))
   unfold dy
   rw [P_ _ _ h0,e3]
   refine .inr ⟨by rw [jW _ rfl];exact BG,i,fun j hj=> ?_,.inl ⟨.inl (O_ _ _ _), ?_⟩⟩
   ·by_cases e:j=i
    ·exact e
    ·rw [P_ _ _ e,rp j] at hj;cases hj
   ·subst BG;simpa using gC
  ·obtain ⟨m,hm⟩:=hn (fun h=>BG h.1)
   refine go 1 (.quit 1) m g' hgo hw rfl rfl rfl rfl rfl (by simp [aX.fW]) ⟨iq,hm⟩ ?_
   have gC:=hw.setSt (v * KK+(1:Nat))
   unfold dy
   rw [P_ _ _ h0,e3]
   refine .inl ⟨rW rp rfl,.inl ⟨by rw [jW _ rfl];omega, ?_⟩⟩
   rw [jW _ rfl];simpa using gC
 ·obtain ⟨g',hgo,_,hn⟩:=hD v 0 (by omega) (by omega) hw
  obtain ⟨m,hm⟩:=hn (fun h=>by omega)
  refine go 0 (.quit 1) m g' hgo hw rfl rfl rfl rfl rfl (by simp [aX.fW]) ⟨iq,hm⟩ ?_
  have gC:=hw.setSt (v * KK+(0:Nat))
  unfold dy
  rw [P_ _ _ h0]
  split<;>rename_i e
  ·exact absurd rfl (lu _ e).1
  ·exact absurd rfl (lu _ e).2.1
  ·exact absurd rfl (lu _ e).2.2.1
  ·exact absurd rfl (lu _ e).2.2.2
  ·refine ⟨rW rp rfl, ?_⟩
   rw [jW _ rfl];simpa using gC
theorem aC.Ew (T:aC P C b o ae Fin who rel ρ q gs w t) (hl:(ρ i).isLast=true):ρ 0=.wait .w3/\cnt ρ gs.size=0/\(∀j,(ρ j).isLast=true->j=i)/\((ρ i=.ky\/ρ i=.kx)/\cx b o w 1 0\/ρ i=.ku/\cx b o w 0 0):=by
 have b9:C.on:=T.jw (i:=i) (fun h=>by cases hx:ρ i<;>rw [hx] at hl h<;>first|(cases hl;done)|exact h)
 have hw:=T.wg b9
 unfold dy at hw
 split at hw<;>rename_i e
 ·rcases hw with ⟨h1,_⟩|⟨h2,j,h3,h4⟩
  ·rw [h1 i] at hl;cases hl
  ·have:=h3 i hl
   subst this
   exact ⟨e,h2,h3,h4⟩
 ·rw [hw.1 i] at hl;cases hl
 ·rw [hw.1 i] at hl;cases hl
 ·rw [hw.1 i] at hl;cases hl
 ·rw [hw.1 i] at hl;cases hl
theorem js {n:Nat} (hlt:i<n) (h:r'.count=(ρ i).count):cnt (upd ρ i r') n=cnt ρ n:=by
 have:=kL (ρ:=ρ) r' hlt
 rw [h] at this;omega
theorem aC.Hv (T:aC P C b o ae Fin who rel ρ q gs w t) (hA:∀g w,ae g w->g.status=.running) (hS:bO ρ gs w) {g:O'} (hi:gs[i]?=some g) (hr:ρ i=.ky) (iq:0<i) (h:AtD2 P C b o i g w):fp P C b o ae Fin who rel ρ q gs w sl t i:=by
 have hlt:i<gs.size:=(cI hi)
 have b9:C.on:=T.jw (i:=i) (by rw [hr];exact id)
 have nT:∀d,ρ i≠.quit d:=by rw [hr];simp
 obtain ⟨h3,hc,hu,pv⟩:=T.Ew (i:=i) (by rw [hr];rfl)
 have hw:cx b o w 1 0:=by
  rcases pv with ⟨_,h⟩|⟨h,_⟩
  ·exact h
  ·rw [hr] at h;cases h
 obtain ⟨_,hD⟩:=h
 obtain ⟨g',hgo,m,hm⟩:=hD hw
 refine T.moves hA hS (w':=w) (r':=.kx) (n':=m) (who':=who) (bZ:=rel) hi (by rw [hr];rfl) (by rw [dh iq];exact hgo) (Out.refl _ _) (fun j _=>RB.refl j w) (fun p h e=>by cases e) (fun p h e=>by cases e) rfl (.inl rfl) (by rw [hr];exact fun e=>by cases e) ⟨iq,hm⟩ ?_ (.inr ⟨b9,nT⟩) ?_ (by rw [hr];simp [aX.count]) (.inr (by rw [hr];exact fun p h e=>by cases e)) (by rw [hr];exact .inr (.inl ⟨rfl,rfl⟩)) (fun _ _ h=>.inl h) (fun e=>by omega) (fun q' _ _=>jG hlt (by rw [hr];simp [aX.fW]))
 ·refine T.jS (H:=False) _ _ (by rw [hr];rfl) (by rw [hr];simp [deafBehind,aX.dd,mF]) (fun k e he=> ?_) (fun h=>h.elim)
  match k,he with
  |0,he=>
   obtain rfl:mF ⟨b,o,none⟩=e:=by simpa using he
   exact ⟨ji T b9 (T.fX nT) hi (.inl rfl) false (.inr (mG T (by simp) (by rw [hr];simp [deafBehind,aX.dd]))) _ _ _,by simp [mF]⟩
  |k+1,he=>simp at he
 ·intro _
  unfold dy
  rw [P_ _ _ (by omega),h3]
  refine .inr ⟨(js hlt (by rw [hr];rfl)).trans hc,i,fun j hj=> ?_,.inl ⟨.inr (O_ _ _ _),hw⟩⟩
  by_cases e:j=i
  ·exact e
  ·rw [P_ _ _ e] at hj;exact hu j hj
theorem aC.Hu (T:aC P C b o ae Fin who rel ρ q gs w t) (hA:∀g w,ae g w->g.status=.running) (hS:bO ρ gs w) {g:O'} (hi:gs[i]?=some g) (hr:ρ i=.kx) (iq:0<i) (h:AtD3 P C b o i g w):fp P C b o ae Fin who rel ρ q gs w sl t i:=by
 have hlt:i<gs.size:=(cI hi)
 have b9:C.on:=T.jw (i:=i) (by rw [hr];exact id)
 have nT:∀d,ρ i≠.quit d:=by rw [hr];simp
 obtain ⟨h3,hc,hu,pv⟩:=T.Ew (i:=i) (by rw [hr];rfl)
 have hw:cx b o w 1 0:=by
  rcases pv with ⟨_,h⟩|⟨h,_⟩
  ·exact h
  ·rw [hr] at h;cases h
 obtain ⟨_,hD⟩:=h
 obtain ⟨g',hgo,m,hm⟩:=hD hw
 have gC:=hw.setSt 0
 refine T.moves hA hS (r':=.ku) (n':=m) (who':=who) (bZ:=rel) hi (by rw [hr];rfl) (by rw [dh iq];exact hgo) ((gH w b o _).mono (zc T b9 (.inl rfl))) (fun j _=>T.tq b9 (.inl rfl) ⟨_,_,gC⟩ j) (fun p h e=>by cases e) (fun p h e=>by cases e) rfl (.inl rfl) (by rw [hr];exact fun e=>by cases e) ⟨iq,hm⟩ ?_ (.inr ⟨b9,nT⟩) ?_ (by rw [hr];simp [aX.count]) (.inr (by rw [hr];exact fun p h e=>by cases e)) (by rw [hr];exact .inr (.inl ⟨rfl,rfl⟩)) (fun _ _ h=>by have:=(gC.uniq h).2;omega) (fun e=>by omega) (fun q' _ _=>jG hlt (by rw [hr];simp [aX.fW]))
 ·refine T.jS (H:=False) _ _ (by rw [hr];rfl) (by rw [hr];simp [deafBehind,aX.dd,vT]) (fun k e he=> ?_) (fun h=>h.elim)
  match k,he with
  |0,he=>
   obtain rfl:vT ⟨b,o,none⟩=e:=by simpa using he
   exact ⟨ji T b9 (T.fX nT) hi (.inl rfl) true (.inr (mG T (by simp) (by rw [hr];simp [deafBehind,aX.dd]))) _ _ _,by simp [vT]⟩
  |k+1,he=>simp at he
 ·intro _
  unfold dy
  rw [P_ _ _ (by omega),h3]
  refine .inr ⟨(js hlt (by rw [hr];rfl)).trans hc,i,fun j hj=> ?_,.inr ⟨O_ _ _ _,gC⟩⟩
  by_cases e:j=i
  ·exact e
  ·rw [P_ _ _ e] at hj;exact hu j hj
theorem FD (T:aC P C b o ae Fin who rel ρ q gs w t) (b9:C.on) (nT:∀d,ρ i≠.quit d) {g:O'} (hi:gs[i]?=some g) (hd:(ρ i).dd=1) (fn:w_) (pos:String) (k:Nat) (e:Event) (he:(semEvents ⟨b,o+1,none⟩)[k]?=some e):
 qP C (fun j=>(ρ j).loose=true) gs.size i False ((t++cC i fn pos (semEvents ⟨b,o+1,none⟩)).heard (t.size+k)) {g:=i,fn,pos,act:=.ofEvent e}/\∀x,e.loc≠.mark (.release x):=by
 match k,he with
 |0,he=>obtain rfl:mh .disable=e:=by simpa [semEvents,mh] using he
        exact ⟨.mute rfl,by simp [mh]⟩
 |1,he=>obtain rfl:mF ⟨b,o+1,none⟩=e:=by simpa [semEvents,mF] using he
        exact ⟨ji T b9 (T.fX nT) hi (.inr rfl) false (.inr (mG T (by simp [semEvents]) (by rw [hd];simp [deafBehind,semEvents]))) _ _ _,by simp [mF]⟩
 |2,he=>obtain rfl:vT ⟨b,o+1,none⟩=e:=by simpa [semEvents,vT] using he
        exact ⟨ji T b9 (T.fX nT) hi (.inr rfl) true (.inr (mG T (by simp [semEvents]) (by rw [hd];simp [deafBehind,semEvents]))) _ _ _,by simp [vT]⟩
 |3,he=>obtain rfl:mh .enable=e:=by simpa [semEvents,mh] using he
        exact ⟨.mute rfl,by simp [mh]⟩
 |k+4,he=>simp [semEvents] at he
theorem aC.Ht (T:aC P C b o ae Fin who rel ρ q gs w t) (hA:∀g w,ae g w->g.status=.running) (hS:bO ρ gs w) {g:O'} (hi:gs[i]?=some g) (hr:ρ i=.ku) (iq:0<i) (h:AtD4 P b o g w):fp P C b o ae Fin who rel ρ q gs w sl t i:=by
 have hlt:i<gs.size:=(cI hi)
 have b9:C.on:=T.jw (i:=i) (by rw [hr];exact id)
 have nT:∀d,ρ i≠.quit d:=by rw [hr];simp
 obtain ⟨h3,hc,hu,pv⟩:=T.Ew (i:=i) (by rw [hr];rfl)
 have hw:cx b o w 0 0:=by
  rcases pv with ⟨h,_⟩|⟨_,h⟩
  ·rw [hr] at h;rcases h with h|h<;>cases h
  ·exact h
 obtain ⟨_,QP,hD⟩:=h
 obtain ⟨g',xw,hgo,m,hm⟩:=hD hw
 have gC:=hw.setSm 1
 refine T.moves hA hS (r':=.quit 1) (n':=m) (who':=who) (bZ:=rel) hi (by rw [hr];rfl) (by rw [dh iq];exact hgo) ((gH w b (o+1) _).mono (zc T b9 (.inr rfl))) (fun j _=>T.tq b9 (.inr rfl) ⟨_,_,gC⟩ j) (fun p h e=>by cases e) (fun p h e=>by cases e) rfl (.inl rfl) (by rw [hr];exact fun e=>by cases e) ⟨iq,hm⟩ ?_ (.inr ⟨b9,nT⟩) ?_ (by rw [hr];simp [aX.count]) (.inr (by rw [hr];exact fun p h e=>by cases e)) (by rw [hr];exact .inr (.inl ⟨rfl,rfl⟩)) (fun _ _ _=>.inr ⟨QP,xw⟩) (fun e=>by omega) (fun q' _ _=>jG hlt (by rw [hr];simp [aX.fW]))
 ·exact T.jS (H:=False) _ _ (by rw [hr];rfl) (by rw [hr];simp [deafBehind,aX.dd,semEvents]) (FD T b9 nT hi (by rw [hr];rfl) _ _) (fun h=>h.elim)
 ·intro _
  unfold dy
  rw [P_ _ _ (by omega),h3]
  refine .inl ⟨fun j=> ?_,.inr ⟨(js hlt (by rw [hr];rfl)).trans hc,gC⟩⟩
  by_cases e:j=i
  ·subst e;rw [O_];rfl
  ·rw [P_ _ _ e]
   cases hj:(ρ j).isLast with
   |false=>rfl
   |true=>exact absurd (hu j hj) e
variable {bp:O'}
theorem aC.I6 (T:aC P C b o ae Fin who rel ρ q gs w t) (hA:∀g w,ae g w->g.status=.running) (hS:bO ρ gs w) {g:O'} {p:Port} {home:O'->J'->Prop} (hi:gs[i]?=some g) (hr:ρ i=.shut p home) (fH:gP P false p g bp) (hh:home bp w) (yH:∀(x:Nat) (y:O'),(ρ x).isSelf=true->gs[x]?=some y->offersAt y p.chan (!p.out)=[]):fp P C b o ae Fin who rel ρ q gs w sl t i:=by
 have hlt:i<gs.size:=(cI hi)
 have aM:=T.eD i g hi
 rw [hr] at aM
 obtain ⟨iq,_,⟨c,z,ok,rfl,Uq⟩,_⟩:=aM
 obtain ⟨k,hc⟩:=T.shuts i _ home hr
 obtain ⟨m,hm⟩:=Uq bp w hh
 have hst:stepG P (i==0) g w=.comm bp #[rcase c z] true (.recv ok) w #[]:=by rw [dh iq];exact fH.2.2.2.2 w
 have hno:∀(x:Nat) (y:O'),(gs.setIfInBounds i ph)[x]?=some y->offersAt y c true=[]:=by
  intro x y hy
  rcases getElem?_stand gs i x y hy with ⟨_,rfl⟩|⟨hx,pg⟩
  ·exact offersAt_ph _ _
  ·cases hs:(ρ x).isSelf with
   |true=>exact yH x y hs pg
   |false=>
    refine T.Am hA pg hs fun p' h' e ec=> ?_
    obtain ⟨k',hc'⟩:=T.chans x p' h' e
    rw [ec] at hc'
    rw [show (Port.recv c z ok).chan=c from rfl,hc'] at hc
    cases hc
 have hrun:=crowd_recv_closed (sl:=sl) (blocking:=true) hi hst hc (partners_nil hno)
 rw [finishComm_recv] at hrun
 generalize hu:(cC i g.frame.fn g.frame.place #[]++#[({g:=i,fn:=bp.frame.fn,pos:=bp.frame.place,act:=.recvClosed c}:MemOp)]:Array MemOp)=u at hrun
 have OD:u=#[{g:=i,fn:=bp.frame.fn,pos:=bp.frame.place,act:=.recvClosed c}]:=by rw [<-hu,ofEvents_eq];simp
 have hq:∀j,∀op∈u,∀d,deafStep j d op=d:=by
  intro j op hop d
  subst OD
  simp only [List.mem_toArray,R_,List.not_mem_nil,or_false] at hop
  subst hop;rfl
 have hmu:∀op∈u,op.act.touch?=none/\∀x,op.act≠.mark (.release x):=by
  intro op hop
  subst OD
  simp only [List.mem_toArray,R_,List.not_mem_nil,or_false] at hop
  subst hop;exact ⟨rfl,by simp⟩
 have vC:gs.map (woken P g (parked g #[] .send) w)=gs:=by
  have:woken P g (parked g #[] .send) w=id:=by funext y;simp [woken,parked]
  rw [this,Array.map_id]
 have hdd:(fun j=>(upd ρ i .done j).dd)=fun j=>(ρ j).dd:=by
  funext j
  by_cases e:j=i
  ·subst e;rw [O_,hr];rfl
  ·rw [P_ _ _ e]
 have hcn:cnt (upd ρ i .done) gs.size=cnt ρ gs.size:=by
  have:=kL (ρ:=ρ) .done hlt
  rw [hr] at this
  simpa [aX.count] using this
 obtain ⟨q',T',h1,h2⟩:=T.step hA (a:=g) (a':=parked g #[] .send) (g':=Go.Conc.served bp (recvd ok z false)) (r':=.done) (n':=m) (who':=who) (bZ:=rel) (u:=u) hi (fun j _=>RB.refl j w) (C_ _) (fun r ob h _ _=>h) (T.mO i)
  (fun p' h' e=>by cases e) (fun p' h' e=>by cases e) (fun j k d hj=>by
   by_cases e:j=i
   ·subst e;rw [O_] at hj;cases hj
   ·rw [P_ _ _ e] at hj;exact T.one j k d hj) (fun x hx=>by
   by_cases e:x=i
   ·subst e;rw [O_];exact .inr (.inr rfl)
   ·rw [P_ _ _ e];exact T.holder x hx) ⟨iq,hm⟩
  (by
   rw [pN (by rw [hr];rfl),hdd]
   exact T.tr.mute (fun op h=>(hmu op h).1) (fun i hi=>Acc.app (fun _ h=>h) hi) (fun j=>(Deaf_quiet (hq j)).trans (T.tr.deaf j)) (fun op h=>(hmu op h).2))
  (fun c=>(T.wg c).dG hlt (.inl (by omega)) (by rw [hr];rfl) (by rw [hr];rfl) (.inr rfl)) (fun c=>absurd (T.jw (i:=i) (by rw [hr];exact id)) c) (fun hd=>absurd hd (T.fX (by rw [hr];simp))) (by rw [hcn];exact T.few) (fun _ _ h=>.inl h) (fun e=>by omega)
 rw [vC] at T'
 refine ⟨_,w,_,upd ρ i .done,q',who,rel,hrun,by simp,T',jG hlt (by rw [hr];simp [aX.fW]),Out.refl _ _,Bu (by rw [hr];exact .inr (.inl ⟨rfl,rfl⟩)),fun _=>rfl,fun x hx=> ?_,h2,.inr fun p' h' e=>(by rw [hr] at e;cases e),fun hc=>by
  rcases hc i with h|⟨d,h⟩|h<;>rw [hr] at h<;>cases h⟩
 have TS:x≠i:=fun e=>by subst e;rw [hr] at hx;cases hx
 rw [I_ (ru TS)]
theorem aC.VQ (T:aC P C b o ae Fin who rel ρ q gs w t) (hA:∀g w,ae g w->g.status=.running) (hS:bO ρ gs w) {g:O'} (hi:gs[i]?=some g) (lu:(ρ i).isSelf=false) (OM:∀s,ρ i≠.wait s) (hrun:g.status=.running)
 (yH:∀p home,(ρ i=.seat p home\/ρ i=.shut p home)->∀(x:Nat) (y:O'),(ρ x).isSelf=true->gs[x]?=some y->offersAt y p.chan (!p.out)=[]):fp P C b o ae Fin who rel ρ q gs w sl t i:=by
 have aM:=T.eD i g hi
 cases hr:ρ i with
 |self k d=>rw [hr] at lu;cases lu
 |seat p home=>exact T.RV hA hS hi hr hrun (yH p home (.inl hr))
 |none=>rw [hr] at aM;exact aM.elim
 |wait s=>exact absurd hr (OM s)
 |quit d=>exact T.Jp hA hS hi hr hrun
 |done=>
  rw [hr] at aM
  rcases aM.2.cases with dR|⟨n',hn,hst⟩
  ·exact T.Lm hA hS hi hr aM.1 (dR w (RB.refl i w))
  ·obtain ⟨g',w',es,hgo,hd,iJ⟩:=hst w (RB.refl i w)
   exact T.Mp hA hS (n':=n') hi (by rw [hr];rfl) (by omega) (by rw [dh aM.1];exact hgo) hd (by rw [hr];exact ⟨aM.1,iJ⟩) (.inr (by rw [hr];exact fun p h e=>by cases e))
 |shut p home=>
  rw [hr] at aM
  rcases aM.2.2.2.cases with dR|⟨n',hn,hst⟩
  ·obtain ⟨bp,fH,hh⟩:=dR w (RB.refl i w)
   exact T.I6 hA hS hi hr fH hh (yH p home (.inr hr))
  ·obtain ⟨g',w',es,hgo,hd,iJ⟩:=hst w (RB.refl i w)
   exact T.Mp hA hS (n':=n') hi (by rw [hr];rfl) (by omega) (by rw [dh aM.1];exact hgo) hd (by rw [hr];exact ⟨aM.1,aM.2.1,aM.2.2.1,iJ⟩) (.inr (by rw [hr];exact fun p h e=>by cases e))
 |rel=>
  rw [hr] at aM
  rcases aM.2.cases with dR|⟨n',hn,hst⟩
  ·exact T.MC hA hS hi hr aM.1 (dR w (RB.refl i w))
  ·obtain ⟨g',w',es,hgo,⟨rfl,rfl⟩,iJ⟩:=hst w (RB.refl i w)
   exact T.IM hA hS (n':=n') hi hr aM.1 (by simp [aX.fW]) rfl (fun _ _=>⟨(fun e=>by cases e),(fun e=>by cases e)⟩) (fun e=>by cases e) id (by omega) hgo ⟨aM.1,iJ⟩
 |deaf=>
  rw [hr] at aM
  rcases aM.2.cases with dR|⟨n',hn,hst⟩
  ·exact T.Lq hA hS hi hr aM.1 (dR w (RB.refl i w))
  ·obtain ⟨g',w',es,hgo,⟨rfl,rfl⟩,iJ⟩:=hst w (RB.refl i w)
   exact T.IM hA hS (n':=n') hi hr aM.1 (by simp [aX.fW]) rfl (fun _ _=>⟨(fun e=>by cases e),(fun e=>by cases e)⟩) (fun e=>by cases e) id (by omega) hgo ⟨aM.1,iJ⟩
 |ky=>
  rw [hr] at aM
  rcases aM.2.cases with dR|⟨n',hn,hst⟩
  ·exact T.Hv hA hS hi hr aM.1 (dR w (RB.refl i w))
  ·obtain ⟨g',w',es,hgo,⟨rfl,rfl⟩,iJ⟩:=hst w (RB.refl i w)
   exact T.IM hA hS (n':=n') hi hr aM.1 (by simp [aX.fW]) rfl (fun _ _=>⟨(fun e=>by cases e),(fun e=>by cases e)⟩) (fun e=>by cases e) id (by omega) hgo ⟨aM.1,iJ⟩
 |kx=>
  rw [hr] at aM
  rcases aM.2.cases with dR|⟨n',hn,hst⟩
  ·exact T.Hu hA hS hi hr aM.1 (dR w (RB.refl i w))
  ·obtain ⟨g',w',es,hgo,⟨rfl,rfl⟩,iJ⟩:=hst w (RB.refl i w)
   exact T.IM hA hS (n':=n') hi hr aM.1 (by simp [aX.fW]) rfl (fun _ _=>⟨(fun e=>by cases e),(fun e=>by cases e)⟩) (fun e=>by cases e) id (by omega) hgo ⟨aM.1,iJ⟩
 |ku=>
  rw [hr] at aM
  rcases aM.2.cases with dR|⟨n',hn,hst⟩
  ·exact T.Ht hA hS hi hr aM.1 (dR w (RB.refl i w))
  ·obtain ⟨g',w',es,hgo,⟨rfl,rfl⟩,iJ⟩:=hst w (RB.refl i w)
   exact T.IM hA hS (n':=n') hi hr aM.1 (by simp [aX.fW]) rfl (fun _ _=>⟨(fun e=>by cases e),(fun e=>by cases e)⟩) (fun e=>by cases e) id (by omega) hgo ⟨aM.1,iJ⟩
variable {α:Type}
theorem lex_trans {β:Type} {r:α->α->Prop} {s:β->β->Prop} (hr:∀a b c,r a b->r b c->r a c) (hs:∀a b c,s a b->s b c->s a c):∀a b c,Prod.Lex r s a b->Prod.Lex r s b c->Prod.Lex r s a c:=by
 rintro _ _ _ (⟨b1,b2,h1⟩|⟨a1,h1⟩) h
 ·cases h with
  |left _ _ h2=>exact .left _ _ (hr _ _ _ h1 h2)
  |right _ h2=>exact .left _ _ h1
 ·cases h with
  |left _ _ h2=>exact .left _ _ h2
  |right _ h2=>exact .right _ (hs _ _ _ h1 h2)
theorem Eu:∀a b c,Bz a b->Bz b c->Bz a c:=
 lex_trans (fun _ _ _=>Nat.lt_trans) (lex_trans (fun _ _ _=>Nat.lt_trans) (lex_trans (fun _ _ _=>Nat.lt_trans) (fun _ _ _=>Nat.lt_trans)))
def Tag.pre:Tag->Bool
 | .w0| .IQ| .w1| .w2 _=>true
 |_=>false
theorem rL {s:Tag} {n:Nat} (h0:ρ 0=.wait s) (hs:s.pre=true):dy b o ρ n w↔((∀j,(ρ j).isLast=false)/\cx b o w (cnt ρ n * KK) 0):=by
 unfold dy
 rw [h0]
 cases s<;>first|(cases hs;done)|exact Iff.rfl
variable {s':Tag} {n':Nat}
theorem AG {s:Tag} {q':Nat->Nat} {n:Nat} (hlt:0<n) (h0:ρ 0=.wait s) (h:jB (upd ρ 0 (.wait s')) n<jB ρ n\/(jB (upd ρ 0 (.wait s')) n=jB ρ n/\n'<q 0)) (h1:q' 0=n') (h2:∀j,j≠0->ρ j≠.wait .w3->q' j=q j):
 Bz (meas (upd ρ 0 (.wait s')) q' n) (meas ρ q n):=by
 have eA:wP (upd ρ 0 (.wait s')) n=wP ρ n:=by
  have:=tu (ρ:=ρ) (.wait s') hlt
  rw [h0] at this
  simpa [aX.fW] using this
 have eB:uw (upd ρ 0 (.wait s')) q' n=uw ρ q n:=sumTo_congr fun i _=>by
  by_cases e:i=0
  ·subst e;simp [O_,h0,aX.fW]
  ·rw [P_ _ _ e]
   by_cases hw:ρ i=.wait .w3
   ·simp [hw,aX.fW]
   ·rw [h2 i e hw]
 unfold meas
 rw [eA,eB]
 refine .right _ (.right _ ?_)
 rcases h with h|⟨h,hq⟩
 ·exact .left _ _ h
 ·rw [h]
  refine .right _ ?_
  simp only [Ob,O_,h0,h1]
  exact hq
variable {g':O'} {es:Array Event}
theorem aC.oP (T:aC P C b o ae Fin who rel ρ q gs w t) (hA:∀g w,ae g w->g.status=.running) (hS:bO ρ gs w) {g:O'} {s:Tag} (hi:gs[0]?=some g) (hr:ρ 0=.wait s) (hgo:stepG P true g w=.go g' w es)
 (hd:deafBehind (aX.wait s).dd es=(aX.wait s').dd)
 (hm:∀(k:Nat) e,es[k]?=some e->(∀x,e.loc≠.mark (.release x))/\((MemAct.ofEvent e).touch?=none\/(e=mF ⟨b,o,none⟩)\/e=⟨.mark (.write ⟨b,o+1,none⟩),false,true⟩))
 (aM:GA P C b o ae Fin s' n' g' w) (my:C.on->dy b o (upd ρ 0 (.wait s')) gs.size w) (ES:s'=.w3->cx b o w 0 1->0<n')
 (Kt:jB (upd ρ 0 (.wait s')) gs.size<jB ρ gs.size\/(jB (upd ρ 0 (.wait s')) gs.size=jB ρ gs.size/\n'<q 0)):fp P C b o ae Fin who rel ρ q gs w sl t 0:=by
 have hlt:0<gs.size:=T.cX
 have b9:C.on:=T.jw (i:=0) (by rw [hr];exact id)
 have nT:∀d,ρ 0≠.quit d:=by rw [hr];simp
 refine T.moves hA hS (w':=w) (r':=.wait s') (n':=n') (who':=who) (bZ:=rel) hi (by rw [hr];rfl) hgo (Out.refl _ _) (fun j _=>RB.refl j w) (fun p h e=>by cases e) (fun p h e=>by cases e) rfl (.inl rfl) (by rw [hr];exact fun e=>by cases e) ⟨rfl,aM⟩ ?_ (.inr ⟨b9,nT⟩) my (nz _) (.inr (by rw [hr];exact fun p h e=>by cases e)) (by rw [hr];exact .inr (.inr ⟨_,_,rfl,rfl⟩)) (fun _ _ h=>.inl h) (fun _ e h=>by injection e with e;exact ES e h) (fun q' h1 h2=>AG hlt hr Kt h1 h2)
 refine T.jS (H:=False) _ _ (by rw [hr];rfl) (by rw [hr];exact hd) (fun k e he=> ?_) (fun h=>h.elim)
 obtain ⟨h1,h2⟩:=hm k e he
 refine ⟨?_,h1⟩
 rcases h2 with h2|rfl|rfl
 ·exact .mute h2
 ·exact ji T b9 (T.fX nT) hi (.inl rfl) false (.inl rfl) _ _ _
 ·exact .book (b:=⟨.cell ⟨b,o+1,none⟩,true,.said⟩) rfl hlt (T.fX nT) ((T.yk _).2 ⟨b9,.inr rfl⟩) (.inr ⟨rfl,rfl⟩)
theorem aC.kH (T:aC P C b o ae Fin who rel ρ q gs w t) (hA:∀g w,ae g w->g.status=.running) (hS:bO ρ gs w) {g:O'} {s:Tag} (hi:gs[0]?=some g) (hr:ρ 0=.wait s) (hgo:stepG P true g w=.go g' w es)
 (hes:∀e∈es,e=⟨.mark (.write ⟨b,o+1,none⟩),false,true⟩) (aM:GA P C b o ae Fin s n' g' w) (hn:n'<q 0) (ES:s=.w3->0<n'):fp P C b o ae Fin who rel ρ q gs w sl t 0:=by
 have hu:upd ρ 0 (.wait s)=ρ:=by
  funext j
  by_cases e:j=0
  ·subst e;rw [O_,hr]
  ·rw [P_ _ _ e]
 refine T.oP hA hS hi hr hgo (deafBehind_still (fun e he=>by rw [hes e he];exact ⟨by simp,by simp⟩) _) (fun k e he=> ?_) aM (by rw [hu];exact T.wg) (fun h _=>ES h) (.inr ⟨by rw [hu],hn⟩)
 have:=hes e (l_ he)
 subst this
 exact ⟨by simp,.inr (.inr rfl)⟩
theorem sN {n:Nat} {s:Tag} (hlt:0<n) (h0:ρ 0=.wait s):cnt (upd ρ 0 (.wait s')) n=cnt ρ n:=by
 have:=kL (ρ:=ρ) (.wait s') hlt
 rw [h0] at this
 simpa [aX.count] using this
theorem tP {s:Tag} (h0:ρ 0=.wait s) (h:∀j,(ρ j).isLast=false):∀j,(upd ρ 0 (.wait s') j).isLast=false:=rW h rfl
theorem vX {n:Nat} {s:Tag} (hlt:0<n) (h0:ρ 0=.wait s) (hs:s.pre=true) (xv:s'.pre=true) (h:dy b o ρ n w):dy b o (upd ρ 0 (.wait s')) n w:=by
 obtain ⟨h1,h2⟩:=(rL h0 hs).1 h
 exact (rL (O_ _ _ _) xv).2 ⟨tP h0 h1,by rw [sN hlt h0];exact h2⟩
theorem aC.PI (T:aC P C b o ae Fin who rel ρ q gs w t) (hA:∀g w,ae g w->g.status=.running) (hS:bO ρ gs w) {g:O'} (hi:gs[0]?=some g) (hr:ρ 0=.wait .w0) (h:AtKd P C b o ae g w):fp P C b o ae Fin who rel ρ q gs w sl t 0:=by
 obtain ⟨_,g',hgo,m,hm⟩:=h
 refine T.oP hA hS (s':=.IQ) (n':=m) hi hr hgo rfl (fun k e he=> ?_) hm (fun c=>vX T.cX hr rfl rfl (T.wg c)) (fun e=>by cases e) (.inl (by simp only [jB,O_,hr];omega))
 obtain rfl:e=mh .disable:=by simpa using l_ he
 exact ⟨by simp [mh],.inl rfl⟩
theorem aC.IU (T:aC P C b o ae Fin who rel ρ q gs w t) (hA:∀g w,ae g w->g.status=.running) (hS:bO ρ gs w) {g:O'} (hi:gs[0]?=some g) (hr:ρ 0=.wait .w1) (h:AtW1 P C b o ae Fin g w):fp P C b o ae Fin who rel ρ q gs w sl t 0:=by
 have b9:C.on:=T.jw (i:=0) (by rw [hr];exact id)
 have nT:∀d,ρ 0≠.quit d:=by rw [hr];simp
 obtain ⟨h1,h2⟩:=(rL hr rfl).1 (T.wg b9)
 have hf:=T.few
 obtain ⟨g',hgo,hz,Y8⟩:=h.2 (cnt ρ gs.size) (by omega) h2
 have uO:∀(k:Nat) e,(#[mF ⟨b,o,none⟩]:Array Event)[k]?=some e->(∀x,e.loc≠.mark (.release x))/\((MemAct.ofEvent e).touch?=none\/(e=mF ⟨b,o,none⟩)\/e=⟨.mark (.write ⟨b,o+1,none⟩),false,true⟩):=fun k e he=>by
  obtain rfl:e=mF ⟨b,o,none⟩:=by simpa using l_ he
  exact ⟨by simp [mF],.inr (.inl rfl)⟩
 by_cases hc:cnt ρ gs.size=0
 ·obtain ⟨m,hm⟩:=hz hc
  refine T.oP hA hS (s':=.w5) (n':=m) hi hr hgo (by simp [deafBehind,mF,aX.dd]) uO hm ?_ (fun e=>by cases e) (.inl (by simp only [jB,O_,hr];omega))
  intro _
  unfold dy
  rw [O_]
  rw [hc] at h2
  exact ⟨tP hr h1,(sN T.cX hr).trans hc,by simpa using h2⟩
 ·obtain ⟨m,hm⟩:=Y8 hc
  refine T.oP hA hS (s':=.w2 (cnt ρ gs.size)) (n':=m) hi hr hgo (by simp [deafBehind,mF,aX.dd]) uO ⟨by omega,hm⟩ (fun c=>vX T.cX hr rfl rfl (T.wg c)) (fun e=>by cases e) (.inl ?_)
  simp only [jB,O_,hr,sN T.cX hr,if_true]
  omega
theorem aC.PH (T:aC P C b o ae Fin who rel ρ q gs w t) (hA:∀g w,ae g w->g.status=.running) (hS:bO ρ gs w) {g:O'} {vs:Nat} (hi:gs[0]?=some g) (hr:ρ 0=.wait (.w2 vs)) (hvs:0<vs) (h:AtW2 P C b o ae Fin vs g w):fp P C b o ae Fin who rel ρ q gs w sl t 0:=by
 have b9:C.on:=T.jw (i:=0) (by rw [hr];exact id)
 have nT:∀d,ρ 0≠.quit d:=by rw [hr];simp
 obtain ⟨h1,h2⟩:=(rL hr rfl).1 (T.wg b9)
 have hf:=T.few
 obtain ⟨hy,hn⟩:=h.2 (cnt ρ gs.size) (by omega) h2
 by_cases hc:cnt ρ gs.size=vs
 ·obtain ⟨g',hgo,m,hm⟩:=hy hc
  have gC:=h2.setSt (cnt ρ gs.size * KK+1)
  refine T.moves hA hS (r':=.wait .w3) (n':=m+1) (who':=who) (bZ:=rel) hi (by rw [hr];rfl) hgo ((gH w b o _).mono (zc T b9 (.inl rfl))) (fun j _=>T.tq b9 (.inl rfl) ⟨_,_,gC⟩ j) (fun p h e=>by cases e) (fun p h e=>by cases e) rfl (.inl rfl) (by rw [hr];exact fun e=>by cases e) ⟨rfl,.inl ⟨m,rfl,hm⟩⟩ ?_ (.inr ⟨b9,nT⟩) ?_ (nz _) (.inr (by rw [hr];exact fun p h e=>by cases e)) (by rw [hr];exact .inr (.inr ⟨_,_,rfl,rfl⟩)) (fun h=>absurd rfl h) (fun _ _ _=>by omega) (fun q' h1 h2=>AG T.cX hr (.inl ?_) h1 h2)
  ·refine T.jS (H:=False) _ _ (by rw [hr];rfl) (by rw [hr];simp [deafBehind,aX.dd,mF,vT]) (fun k e he=> ?_) (fun h=>h.elim)
   match k,he with
   |0,he=>
    obtain rfl:mF ⟨b,o,none⟩=e:=by simpa using he
    exact ⟨ji T b9 (T.fX nT) hi (.inl rfl) false (.inl rfl) _ _ _,by simp [mF]⟩
   |1,he=>
    obtain rfl:vT ⟨b,o,none⟩=e:=by simpa using he
    exact ⟨ji T b9 (T.fX nT) hi (.inl rfl) true (.inl rfl) _ _ _,by simp [vT]⟩
   |k+2,he=>simp at he
  ·intro _
   unfold dy
   rw [O_]
   exact .inl ⟨tP hr h1,.inl ⟨by rw [sN T.cX hr];omega,by rw [sN T.cX hr];exact gC⟩⟩
  ·simp only [jB,O_,hr,hc,if_true];omega
 ·obtain ⟨g',hgo,m,hm⟩:=hn hc
  refine T.oP hA hS (s':=.IQ) (n':=m) hi hr hgo (by simp [deafBehind,mF,aX.dd]) (fun k e he=> ?_) hm (fun c=>vX T.cX hr rfl rfl (T.wg c)) (fun e=>by cases e) (.inl ?_)
  ·obtain rfl:e=mF ⟨b,o,none⟩:=by simpa using l_ he
   exact ⟨by simp [mF],.inr (.inl rfl)⟩
  ·simp only [jB,O_,hr,if_neg (ru hc)];omega
theorem aC.PG (T:aC P C b o ae Fin who rel ρ q gs w t) (hA:∀g w,ae g w->g.status=.running) (hS:bO ρ gs w) {g:O'} (hi:gs[0]?=some g) (hr:ρ 0=.wait .w3) (hq:0<q 0) (h:∀w₁,RB C b o 0 w w₁->AtW3 P C b o Fin g w₁):fp P C b o ae Fin who rel ρ q gs w sl t 0:=by
 have fH:=h w (RB.refl 0 w)
 have b9:C.on:=T.jw (i:=0) (by rw [hr];exact id)
 have nT:∀d,ρ 0≠.quit d:=by rw [hr];simp
 have hu:upd ρ 0 (.wait .w3)=ρ:=by
  funext j
  by_cases e:j=0
  ·subst e;rw [O_,hr]
  ·rw [P_ _ _ e]
 have jm:∀s,cx b o w s 0->fp P C b o ae Fin who rel ρ q gs w sl t 0:=fun s hw=>by
  refine T.oP hA hS (s':=.w3) (n':=0) hi hr (fH.2.2.1 ⟨s,hw⟩) rfl (fun k e he=>by simp at he) (.inr ⟨rfl,g,fH,rfl,h⟩) (by rw [hu];exact T.wg) (fun _ h01=> ?_) (.inr ⟨by rw [hu],hq⟩)
  have:=(hw.uniq h01).2
  omega
 have hw:=T.wg b9
 unfold dy at hw
 rw [hr] at hw
 rcases hw with ⟨hl,⟨_,hw⟩|⟨hc,hw⟩⟩|⟨_,i,_,⟨_,hw⟩|⟨_,hw⟩⟩
 ·exact jm _ hw
 ·obtain ⟨g',hgo,m,hm⟩:=fH.2.2.2 hw
  have gC:=hw.setSm 0
  refine T.moves hA hS (r':=.wait .w4) (n':=m) (who':=who) (bZ:=rel) hi (by rw [hr];rfl) hgo ((gH w b (o+1) _).mono (zc T b9 (.inr rfl))) (fun j _=>T.tq b9 (.inr rfl) ⟨_,_,gC⟩ j) (fun p h e=>by cases e) (fun p h e=>by cases e) rfl (.inl rfl) (by rw [hr];exact fun e=>by cases e) ⟨rfl,hm⟩ ?_ (.inr ⟨b9,nT⟩) ?_ (nz _) (.inr (by rw [hr];exact fun p h e=>by cases e)) (by rw [hr];exact .inr (.inr ⟨_,_,rfl,rfl⟩)) (fun h=>absurd rfl h) (fun _ e=>by cases e) (fun q' h1 h2=>AG T.cX hr (.inl ?_) h1 h2)
  ·exact T.jS (H:=False) _ _ (by rw [hr];rfl) (by rw [hr];simp [deafBehind,aX.dd,semEvents]) (FD T b9 nT hi (by rw [hr];rfl) _ _) (fun h=>h.elim)
  ·intro _
   unfold dy
   rw [O_]
   exact ⟨tP hr hl,(sN T.cX hr).trans hc,gC⟩
  ·simp only [jB,O_,hr];omega
 ·exact jm _ hw
 ·exact jm _ hw
theorem aC.PF (T:aC P C b o ae Fin who rel ρ q gs w t) (hA:∀g w,ae g w->g.status=.running) (hS:bO ρ gs w) {g:O'} (hi:gs[0]?=some g) (hr:ρ 0=.wait .w4) (h:AtW4 P C b o Fin g w):fp P C b o ae Fin who rel ρ q gs w sl t 0:=by
 have b9:C.on:=T.jw (i:=0) (by rw [hr];exact id)
 have nT:∀d,ρ 0≠.quit d:=by rw [hr];simp
 have hw:=T.wg b9
 unfold dy at hw
 rw [hr] at hw
 obtain ⟨g',hgo,m,hm⟩:=h.2 hw.2.2
 refine T.oP hA hS (s':=.w5) (n':=m) hi hr hgo (by simp [deafBehind,mF,aX.dd]) (fun k e he=> ?_) hm ?_ (fun e=>by cases e) (.inl (by simp only [jB,O_,hr];omega))
 ·obtain rfl:e=mF ⟨b,o,none⟩:=by simpa using l_ he
  exact ⟨by simp [mF],.inr (.inl rfl)⟩
 ·intro _
  unfold dy
  rw [O_]
  exact ⟨tP hr hw.1,(sN T.cX hr).trans hw.2.1,hw.2.2⟩
theorem aC.PE (T:aC P C b o ae Fin who rel ρ q gs w t) (hA:∀g w,ae g w->g.status=.running) (hS:bO ρ gs w) {g:O'} (hi:gs[0]?=some g) (hr:ρ 0=.wait .w5) (h:AtKe P C b o Fin g w):fp P C b o ae Fin who rel ρ q gs w sl t 0:=by
 have b9:C.on:=T.jw (i:=0) (by rw [hr];exact id)
 have nT:∀d,ρ 0≠.quit d:=by rw [hr];simp
 have hw:=T.wg b9
 unfold dy at hw
 rw [hr] at hw
 obtain ⟨_,g',hgo,m,hm⟩:=h
 refine T.oP hA hS (s':=.w6) (n':=m) hi hr hgo rfl (fun k e he=> ?_) hm ?_ (fun e=>by cases e) (.inl (by simp only [jB,O_,hr];omega))
 ·obtain rfl:e=mh .enable:=by simpa using l_ he
  exact ⟨by simp [mh],.inl rfl⟩
 ·intro _
  unfold dy
  rw [O_]
  exact ⟨tP hr hw.1,(sN T.cX hr).trans hw.2.1,hw.2.2⟩
variable {m:Nat}
theorem aC.Tn (T:aC P C b o ae Fin who rel ρ q gs w t) {g:O'} (hi:gs[0]?=some g) (hr:ρ 0=.wait .IQ) (hm:Goes P true (RB C b o 0) (DW b o) (AtW1 P C b o ae Fin) m g w):aC P C b o ae Fin who rel (upd ρ 0 (.wait .w1)) (upd q 0 m) gs w t:=by
 have hlt:=T.cX
 refine ⟨T.ok,T.ad,T.yk,T.IB,fun j hj=> ?_,T.old,T.plain,T.CG,T.mO, ?_,fun i y hy=> ?_,fun i lE=> ?_,fun i p home e=> ?_,fun i j p p' h h' e e'=> ?_,fun i p home e=> ?_,fun i k d e=> ?_,fun x hx=> ?_,by rw [sN hlt hr];exact T.few,fun c=>vX hlt hr rfl rfl (T.wg c),fun c=>absurd (T.jw (i:=0) (by rw [hr];exact id)) c,hlt,fun e=>by rw [O_] at e;cases e⟩
 ·rw [P_ _ _ (fun e=>by subst e;obtain ⟨d,e⟩:=T.Ls _ hj;rw [hr] at e;cases e)]
  exact T.Ls j hj
 ·rw [pN (by rw [hr];rfl)]
  have:(fun j=>(upd ρ 0 (.wait .w1) j).dd)=fun j=>(ρ j).dd:=by
   funext j
   by_cases e:j=0
   ·subst e;rw [O_,hr];rfl
   ·rw [P_ _ _ e]
  rw [this];exact T.tr
 ·by_cases e:i=0
  ·subst e
   rw [hi] at hy;obtain rfl:=some_inj hy
   rw [O_,O_]
   exact ⟨rfl,hm⟩
  ·rw [P_ _ _ e,P_ _ _ e];exact T.eD i y hy
 ·rw [P_ _ _ (by omega)];exact T.above i lE
 ·by_cases e':i=0
  ·subst e';rw [O_] at e;cases e
  ·rw [P_ _ _ e'] at e;exact T.chans i p home e
 ·have h1:i≠0:=fun x=>by subst x;rw [O_] at e;cases e
  have h2:j≠0:=fun x=>by subst x;rw [O_] at e';cases e'
  rw [P_ _ _ h1] at e
  rw [P_ _ _ h2] at e'
  exact T.apart i j p p' h h' e e'
 ·have h1:i≠0:=fun x=>by subst x;rw [O_] at e;cases e
  rw [P_ _ _ h1] at e
  exact T.shuts i p home e
 ·have h1:i≠0:=fun x=>by subst x;rw [O_] at e;cases e
  rw [P_ _ _ h1] at e
  exact T.one i k d e
 ·by_cases e:x=0
  ·exact .inl e
  ·rw [P_ _ _ e];exact T.holder x hx
theorem aC.RU (T:aC P C b o ae Fin who rel ρ q gs w t) (hA:∀g w,ae g w->g.status=.running) (uQ:∀g w,ae g w->∃m,Goes P true (RB C b o 0) (DW b o) (AtW1 P C b o ae Fin) m g w) (hS:bO ρ gs w) {g:O'} {s:Tag} (hi:gs[0]?=some g) (hr:ρ 0=.wait s) (hrun:g.status=.running):
 fp P C b o ae Fin who rel ρ q gs w sl t 0\/(s=.w6/\AtAcq P b o Fin g w):=by
 have aM:=T.eD 0 g hi
 rw [hr] at aM
 have hW:=aM.2
 cases s with
 |w0=>
  left
  rcases Goes.cases (show Goes _ _ _ _ _ _ _ _ from hW) with dR|⟨n',hn,hst⟩
  ·exact T.PI hA hS hi hr (dR w (RB.refl 0 w))
  ·obtain ⟨g',w',es,hgo,⟨rfl,hes⟩,iJ⟩:=hst w (RB.refl 0 w)
   exact T.kH hA hS (n':=n') hi hr hgo hes iJ (by omega) (fun e=>by cases e)
 |IQ=>
  left
  rcases Goes.cases (show Goes _ _ _ _ _ _ _ _ from hW) with dR|⟨n',hn,hst⟩
  ·obtain ⟨m,hm⟩:=uQ g w (dR w (RB.refl 0 w))
   have T':=T.Tn hi hr hm
   have uh:bO (upd ρ 0 (.wait .w1)) gs w:=fun x y hx hy=>hS x y (by
    by_cases e:x=0
    ·subst e;rw [O_] at hx;cases hx
    ·rw [P_ _ _ e] at hx;exact hx) hy
   have key:fp P C b o ae Fin who rel (upd ρ 0 (.wait .w1)) (upd q 0 m) gs w sl t 0:=by
    rcases hm.cases with QA|⟨n',hn,hst⟩
    ·exact T'.IU hA uh hi (O_ _ _ _) (QA w (RB.refl 0 w))
    ·obtain ⟨g',w',es,hgo,⟨rfl,hes⟩,iJ⟩:=hst w (RB.refl 0 w)
     exact T'.kH hA uh (n':=n') hi (O_ _ _ _) hgo hes iJ (by rw [O_];omega) (fun e=>by cases e)
   obtain ⟨gs',w',ops,fT,q',who',bZ,k1,k2,k3,k4,k5,k6,k7,k8,k9,JU⟩:=key
   refine ⟨gs',w',ops,fT,q',who',bZ,k1,k2,k3,Eu _ _ _ k4 (AG T.cX hr (.inl ?_) (O_ _ _ _) (fun j hj _=>P_ _ _ hj)),k5,fun j=> ?_,fun ⟨x,hx⟩=>k7 ⟨x, ?_⟩,fun x hx=>k8 x ?_,fun j hj hw=>(k9 j hj (by rw [P_ _ _ hj];exact hw)).trans (P_ _ _ hj),.inr fun p home e=>(by rw [hr] at e;cases e),fun hc=>by
    rcases hc 0 with h|⟨d,h⟩|h<;>rw [hr] at h<;>cases h⟩
   ·simp only [jB,O_,hr];omega
   ·exact (Bu (ρ:=ρ) (i:=0) (r':=.wait .w1) (by rw [hr];exact .inr (.inr ⟨_,_,rfl,rfl⟩)) j).trans (k6 j)
   ·rw [P_ _ _ (fun e=>by subst e;rw [hr] at hx;cases hx)];exact hx
   ·rw [P_ _ _ (fun e=>by subst e;rw [hr] at hx;cases hx)];exact hx
  ·obtain ⟨g',w',es,hgo,⟨rfl,hes⟩,iJ⟩:=hst w (RB.refl 0 w)
   exact T.kH hA hS (n':=n') hi hr hgo hes iJ (by omega) (fun e=>by cases e)
 |w1=>
  left
  rcases Goes.cases (show Goes _ _ _ _ _ _ _ _ from hW) with dR|⟨n',hn,hst⟩
  ·exact T.IU hA hS hi hr (dR w (RB.refl 0 w))
  ·obtain ⟨g',w',es,hgo,⟨rfl,hes⟩,iJ⟩:=hst w (RB.refl 0 w)
   exact T.kH hA hS (n':=n') hi hr hgo hes iJ (by omega) (fun e=>by cases e)
 |w2 v=>
  left
  rcases Goes.cases hW.2 with dR|⟨n',hn,hst⟩
  ·exact T.PH hA hS hi hr hW.1 (dR w (RB.refl 0 w))
  ·obtain ⟨g',w',es,hgo,⟨rfl,hes⟩,iJ⟩:=hst w (RB.refl 0 w)
   exact T.kH hA hS (n':=n') hi hr hgo hes ⟨hW.1,iJ⟩ (by omega) (fun e=>by cases e)
 |w3=>
  left
  rcases hW with ⟨k,hk,hg⟩|⟨_,dN,_,rfl,_⟩
  ·rcases hg.cases with dR|⟨n',hn,hst⟩
   ·exact T.PG hA hS hi hr (by omega) dR
   ·obtain ⟨g',w',es,hgo,⟨rfl,hes⟩,iJ⟩:=hst w (RB.refl 0 w)
    exact T.kH hA hS (n':=n'+1) hi hr hgo hes (.inl ⟨n',rfl,iJ⟩) (by omega) (fun e=>by omega)
  ·cases hrun
 |w4=>
  left
  rcases Goes.cases (show Goes _ _ _ _ _ _ _ _ from hW) with dR|⟨n',hn,hst⟩
  ·exact T.PF hA hS hi hr (dR w (RB.refl 0 w))
  ·obtain ⟨g',w',es,hgo,⟨rfl,hes⟩,iJ⟩:=hst w (RB.refl 0 w)
   exact T.kH hA hS (n':=n') hi hr hgo hes iJ (by omega) (fun e=>by cases e)
 |w5=>
  left
  rcases Goes.cases (show Goes _ _ _ _ _ _ _ _ from hW) with dR|⟨n',hn,hst⟩
  ·exact T.PE hA hS hi hr (dR w (RB.refl 0 w))
  ·obtain ⟨g',w',es,hgo,⟨rfl,hes⟩,iJ⟩:=hst w (RB.refl 0 w)
   exact T.kH hA hS (n':=n') hi hr hgo hes iJ (by omega) (fun e=>by cases e)
 |w6=>
  rcases Goes.cases (show Goes _ _ _ _ _ _ _ _ from hW) with dR|⟨n',hn,hst⟩
  ·exact .inr ⟨rfl,dR w (RB.refl 0 w)⟩
  ·left
   obtain ⟨g',w',es,hgo,⟨rfl,hes⟩,iJ⟩:=hst w (RB.refl 0 w)
   exact T.kH hA hS (n':=n') hi hr hgo hes iJ (by omega) (fun e=>by cases e)
def Ends (P:U') (Post:M'->J'->Prop) (m:Machine) (t:Trace):Prop:=
 ∃N last o w' t',runNT P (N+1) m t=(.ended o w',t')/\runN P N m=.next last/\step P last=.ended o w'/\Good P Post last o w' t'
variable {Post:M'->J'->Prop}
theorem Ends.step {m m':Machine} {t ops:Trace} (h:stepT P m=(.next m',ops)) (k:Ends P Post m' (t++ops)):Ends P Post m t:=by
 obtain ⟨N,last,o,w',t',h1,h2,h3,h4⟩:=k
 refine ⟨N+1,last,o,w',t', ?_, ?_,h3,h4⟩
 ·rw [runNT];simp only [h];exact h1
 ·rw [runN];simp only [Go.step,h];exact h2
theorem Ends.last {m:Machine} {o:Outcome} {t ops:Trace} (h:stepT P m=(.ended o w',ops)) (k:Good P Post m o w' (t++ops)):Ends P Post m t:=
 ⟨0,m,o,w',t++ops,by simp only [runNT,h],rfl,by simp only [Go.step,h],k⟩
variable {R:J'->J'->Prop}
theorem Walk.mono {main:Bool} {D D':J'->J'->Array Event->Prop} {Stop:O'->J'->Prop} (hD:∀w w' es,D w w' es->D' w w' es) {g:O'} (h:Walk P main R D Stop g w):Walk P main R D' Stop g w:=by
 induction h with
 |stop h=>exact .stop h
 |step ng nw ne hr h1 h2 ih=>exact .step ng nw ne hr (fun w₁ h₁=>⟨(h1 w₁ h₁).1,hD _ _ _ (h1 w₁ h₁).2⟩) ih
theorem Walk.vZ {P:U'} {main:Bool} {R:J'->J'->Prop} {D:J'->J'->Array Event->Prop} {Stop:O'->J'->Prop}:∀{n:Nat} {g:O'} {w:J'},Goes P main R D Stop n g w->Walk P main R D Stop g w
 |0,_,_,h=>.stop h
 |_+1,_,_,h=>h.elim .stop fun ⟨hs,h⟩=>Walk.gU hs fun w₁ h₁=>by
  obtain ⟨g',w',es,e,hd,hg⟩:=goes_elim (h w₁ h₁)
  exact ⟨g',w',es,e,hd,Walk.vZ hg⟩
structure DH (C:cS) (w w':J') (es:Array Event):Prop where
 Qe:Sd (bS C) (fy C) w w' es
 gz:∀r,(∃g,C.Pv g (.obj r)\/C.St g (.obj r))->w'.heap[r]?=w.heap[r]?
 WU:∀e∈es,∀r,e.loc=.obj r->∀g,¬C.Pv g (.obj r)/\(C.St g (.obj r)->e.write=false)
theorem zC (hno:∀g r,¬C.Pv g (.obj r)/\¬C.St g (.obj r)) (h:Sd (bS C) (fy C) w w' es):DH C w w' es:=
 ⟨h,fun r ⟨g,hg⟩=>(hg.elim (fun x=>absurd x (hno g r).1) fun x=>absurd x (hno g r).2),fun _ _ r _ g=>⟨(hno g r).1,fun x=>absurd x (hno g r).2⟩⟩
theorem zU {r:aX} (h:ρ i=r):upd ρ i r=ρ:=by
 funext j
 by_cases e:j=i
 ·subst e;rw [O_,h]
 ·rw [P_ _ _ e]
variable {h:Nat}
theorem AA (T:aC P C b o ae Fin who rel ρ q gs w t) {e:Event} {top:Nat} (he:EvM (bS C) (fy C) top e) (ho:∀r,e.loc=.obj r->∀g,¬C.Pv g (.obj r)/\(C.St g (.obj r)->e.write=false)) (heard:Prop) (fn:w_) (pos:String):
 qP C (fun j=>(ρ j).loose=true) gs.size h True heard {g:=h,fn,pos,act:=.ofEvent e}/\∀x,e.loc≠.mark (.release x):=by
 obtain ⟨loc,wr,sy⟩:=e
 unfold EvM at he
 cases loc with
 |cell a=>
  obtain ⟨h1,h2,h3,h4⟩:=he
  simp only at h1 h2 h3 h4
  subst h2
  have sp:∀g,C.Pv g (.cell a)\/C.St g (.cell a)->∃x k,a=⟨x,k,none⟩:=fun g hg=>by
   rcases T.plain g _ hg.symm with ⟨x,k,e⟩|⟨r,e⟩
   ·injection e with e;exact ⟨x,k,e⟩
   ·cases e
  refine ⟨.hold (b:=⟨.cell a,wr,.plain⟩) (by cases wr<;>rfl) trivial (fun hs=> ?_) (fun hs=> ?_) (fun g hg=> ?_) (fun g hg=> ?_),by simp⟩
  ·have xv:C.Sh (.cell a):=hs
   rcases ((T.yk _).1 xv).2 with e|e<;>injection e with e<;>subst e
   ·exact h3 (.inl xv)
   ·exact h3 (.inl xv)
  ·obtain ⟨x,k,e,_⟩:=T.IB _ (show C.Gr (.cell a) from hs)
   injection e with e;subst e
   exact h3 (.inr (.inl hs))
  ·obtain ⟨x,k,rfl⟩:=sp g (.inl hg)
   exact h3 (.inr (.inr ⟨g,hg⟩))
  ·obtain ⟨x,k,rfl⟩:=sp g (.inr hg)
   cases wr with
   |false=>rfl
   |true=>exact absurd ⟨g,hg⟩ (h4 rfl)
 |obj r=>
  obtain ⟨_,h2⟩:=he
  simp only at h2
  have Y7:=ho r rfl
  refine ⟨.hold (b:=⟨.obj r,wr,if sy then .atomic else .plain⟩) ?_ trivial (fun hs=> ?_) (fun hs=> ?_) (fun g=>(Y7 g).1) (fun g=>(Y7 g).2),by simp⟩
  ·cases wr with
   |false=>cases sy<;>rfl
   |true=>cases sy with
    |false=>rfl
    |true=>exact absurd (h2 rfl) (by simp)
  ·rcases ((T.yk _).1 hs).2 with e|e<;>cases e
  ·obtain ⟨x,k,e,_⟩:=T.IB _ hs;cases e
 |mark m=>
  cases m<;>first|exact he.elim|exact ⟨.mute rfl,by simp⟩
 |output=>exact he.elim
 |goroutines=>exact he.elim
theorem Dc {e:Event} {top:Nat} {hid gd:Nat->Nat->Prop} (he:EvM hid gd top e):e.loc≠.mark .disable/\e.loc≠.mark .enable:=by
 obtain ⟨loc,wr,sy⟩:=e
 unfold EvM at he
 cases loc with
 |mark m=>cases m<;>first|exact he.elim|simp
 |_=>simp
variable {a':O'}
theorem aC.own (T:aC P C b o ae Fin (some h) rel ρ q gs w t) (hA:∀g w,ae g w->g.status=.running) (hr:ρ h=.self k d) {a:O'} (hi:gs[h]?=some a) (hd:DH C w w' es):
 ∃q',aC P C b o ae Fin (some h) rel ρ q' ((gs.map (woken P a a' w')).setIfInBounds h a') w' (t++cC h a.frame.fn a.frame.place es):=by
 have hlt:h<gs.size:=(cI hi)
 have dS:C.on->∀s m,cx b o w s m↔cx b o w' s m:=fun c s m=>by
  obtain ⟨S9,TI,h₀⟩:=(T.wg c).live
  have e0:=hd.Qe.cell (.inl (.inl ((T.yk _).2 ⟨c,.inl rfl⟩))) (lC h₀.st)
  have e1:=hd.Qe.cell (.inl (.inl ((T.yk _).2 ⟨c,.inr rfl⟩))) (lC h₀.sm)
  exact ⟨fun h=>h.keep e0 e1,fun h=>h.keep ⟨e0.1.symm,e0.2.symm⟩ ⟨e1.1.symm,e1.2.symm⟩⟩
 have po:∀j,RB C b o j w w':=fun j=>⟨fun c ⟨s,m,h⟩=>⟨s,m,(dS c s m).1 h⟩,fun x k hx=>hd.Qe.cell (hx.elim (fun h=>.inl (.inr (.inr ⟨j,h⟩))) fun h=>.inr ⟨j,h⟩) (T.CG j x k hx),fun r hx=>hd.gz r ⟨j,hx⟩⟩
 have hu:=zU hr
 obtain ⟨q',T',_⟩:=T.step hA (a:=a) (a':=a') (g':=a') (r':=.self k d) (n':=0) (who':=some h) (bZ:=rel) (u:=cC h a.frame.fn a.frame.place es) hi (fun j _=>po j) hd.Qe.size (fun r ob h1 h2 h3=>hd.Qe.chan r ob h1 h3)
  (fun r hr=>by obtain ⟨ob,h1,h2⟩:=T.mO h r hr;exact ⟨ob,((po h).gz r hr).trans h1,h2⟩) (fun p h' e=>by cases e) (fun p h' e=>by cases e) (by rw [hu];exact T.one) (by rw [hu];exact T.holder) trivial
  (by
   refine T.jS (H:=True) _ _ (by rw [hr]) (by rw [hr];exact deafBehind_still (fun e he=>Dc (hd.Qe.evs e he)) _) (fun j e he=> ?_) (fun _=>rfl)
   have:=l_ he
   exact AA T (hd.Qe.evs e this) (hd.WU e this) _ _ _)
  (by rw [hu];exact fun c=>(T.wg c).keep fun s m h=>(dS c s m).1 h) (fun c=>by have:=T.off c h;rw [hr] at this;exact this) (fun HG=>absurd HG (T.fX (by rw [hr];simp))) (by rw [hu];exact T.few) (fun _ h3 h=>.inl ((dS (T.jw (i:=0) (by rw [h3];exact id)) 0 1).2 h)) (fun _ e=>by cases e)
 rw [hu] at T'
 exact ⟨q',T'⟩
theorem aC.Dn (T:aC P C b o ae Fin who rel ρ q gs w t) (hA:∀g w,ae g w->g.status=.running) (uQ:∀g w,ae g w->∃m,Goes P true (RB C b o 0) (DW b o) (AtW1 P C b o ae Fin) m g w) (hS:bO ρ gs w) {g:O'} (hi:gs[i]?=some g) (lu:(ρ i).isSelf=false) (hrun:g.status=.running)
 (yH:∀p home,(ρ i=.seat p home\/ρ i=.shut p home)->∀(x:Nat) (y:O'),(ρ x).isSelf=true->gs[x]?=some y->offersAt y p.chan (!p.out)=[]):fp P C b o ae Fin who rel ρ q gs w sl t i\/(i=0/\ρ 0=.wait .w6/\AtAcq P b o Fin g w):=by
 by_cases hw:∃s,ρ i=.wait s
 ·obtain ⟨s,hs⟩:=hw
  have aM:=T.eD i g hi
  rw [hs] at aM
  obtain ⟨rfl,_⟩:=aM
  rcases T.RU (sl:=sl) hA uQ hS hi hs hrun with h|⟨rfl,h⟩
  ·exact .inl h
  ·exact .inr ⟨rfl,hs,h⟩
 ·exact .inl (T.VQ hA hS hi lu (fun s h=>hw ⟨s,h⟩) hrun yH)
theorem aC.pE (T:aC P C b o ae Fin who rel ρ q gs w t) (hA:∀g w,ae g w->g.status=.running) (hs:∀x y,(ρ x).isSelf=true->gs[x]?=some y->Go.Conc.awake y):∀g∈gs,Go.Conc.awake g:=by
 intro g hg
 obtain ⟨i,hi⟩:=Array.mem_iff_getElem?.1 hg
 cases FU:(ρ i).isSelf with
 |true=>exact hs i g FU hi
 |false=>
  rcases (T.eD i g hi).status hA FU with h|h|⟨h,_⟩
  ·exact awake_of (.inl h)
  ·exact awake_of (.inr (.inr h))
  ·exact awake_of (.inr (.inl h))
theorem l9 (T:aC P C b o ae Fin (some h) rel ρ q gs w t) {a:O'} (hi:gs[h]?=some a) (hrun:a.status=.running):bO ρ gs w:=by
 intro x y hx hy w' _
 cases hr:ρ x<;>rw [hr] at hx<;>try (cases hx;done)
 have:=T.one x _ _ hr
 obtain rfl:=some_inj this
 rw [hi] at hy
 obtain rfl:=some_inj hy
 exact again_running _ (.inl hrun)
theorem hold (hA:∀g w,ae g w->g.status=.running) (uQ:∀g w,ae g w->∃m,Goes P true (RB C b o 0) (DW b o) (AtW1 P C b o ae Fin) m g w) {Stop:O'->J'->Prop} (hc:h=0\/0<k) {a:O'} {Mm:J'}
 (hW:Walk P (h==0) (Out (bS C)) (DH C) Stop a Mm):
 ∀{rel:Nat->Prop} {ρ:Nat->aX} {q:Nat->Nat} {gs:Array O'} {w:J'} {sl:Option (Nat × Nat)} {t:Trace},aC P C b o ae Fin (some h) rel ρ q gs w t->ρ h=.self k d->gs[h]?=some a->Out (bS C) Mm w->
  (∀bZ fT q' gs' a' w' sl' t',aC P C b o ae Fin (some h) bZ fT q' gs' w' t'->fT h=.self k d->gs'.size=gs.size->gs'[h]?=some a'->Stop a' w'->(∀j,vS (ρ j) (fT j))->(sU ρ->bZ=rel/\sU fT)->Ends P Post (crowd gs' w' sl') t')->Ends P Post (crowd gs w sl) t:=by
 induction hW with
 |stop hst=>exact fun T hr hi ho next=>next _ _ _ _ _ _ _ _ T hr rfl hi (hst _ ho) (fun j=>.rfl' _) (fun h=>⟨rfl,h⟩)
 |@step a Mm ng nw ne hrun h1 h2 ih=>
  intro rel ρ q gs w sl t T hr hi ho next
  generalize MZ:meas ρ q gs.size=μ
  induction sf.apply μ generalizing rel ρ q gs w sl t with
  |intro μ _ AM=>
   have Ny:=T.pE hA (fun x y hx hy=>by
    cases sX:ρ x<;>rw [sX] at hx<;>try (cases hx;done)
    obtain rfl:=some_inj (T.one x _ _ sX)
    rw [hi] at hy
    obtain rfl:=some_inj hy
    exact awake_of (.inl hrun))
   obtain ⟨i,g,dr,sl',vH,hg,hst⟩:=crowd_pick (P:=P) (w:=w) (sl:=sl) Ny ⟨h,a,hi,hrun⟩
   have Td:=T.at dr
   have ye:Out (bS C) Mm (w.at dr):=ho.trans (Out.at _ w dr)
   by_cases e:i=h
   ·subst e
    rw [hi] at vH
    obtain rfl:=some_inj vH
    obtain ⟨hgo,hd⟩:=h1 _ ye
    obtain ⟨q',T'⟩:=Td.own hA hr (a':=ng (w.at dr)) hi hd
    have hlt:i<gs.size:=(cI hi)
    refine Ends.step (hst.trans (runT_crowd_go (sl:=sl') hi hgo)) ?_
    refine ih _ ye T' hr (by simp [hlt]) (Out.refl _ _) fun bZ fT q' gs' a' w' sl' t' k1 k2 k3 k4 k5 k6 k7=>next bZ fT q' gs' a' w' sl' t' k1 k2 (by simpa using k3) k4 k5 k6 k7
   ·have lu:(ρ i).isSelf=false:=by
     cases sX:ρ i<;>try rfl
     exact absurd (some_inj (T.one i _ _ sX)).symm e
    rcases Td.Dn (sl:=sl') hA uQ (l9 Td hi hrun) vH lu hg (fun p home _ x y hx hy=>by
     cases sX:ρ x<;>rw [sX] at hx<;>try (cases hx;done)
     obtain rfl:=some_inj (T.one x _ _ sX)
     rw [hi] at hy
     obtain rfl:=some_inj hy
     exact offersAt_of_not_blocked (by rw [hrun];simp) _ _) with hm|⟨rfl,sk,_⟩
    ·obtain ⟨gs',w',ops,fT,q',who',bZ,k1,k2,k3,k4,k5,k6,k7,k8,_,_,kc⟩:=hm
     have FU:(ρ h).isSelf=true:=by rw [hr];rfl
     have oE:=k7 ⟨h,FU⟩
     subst oE
     have sX:fT h=.self k d:=by
      rcases k6 h with x|⟨x,_⟩|⟨s,s',x,_⟩
      ·rw [x,hr]
      ·rw [hr] at x;cases x
      ·rw [hr] at x;cases x
     refine Ends.step (hst.trans k1) ?_
     refine AM (meas fT q' gs'.size) (by rw [<-MZ,k2];exact k4) k3 sX (by rw [k8 h FU];exact hi) (ye.trans k5) (fun Te Xi q'' aCu a'' SW X4 t'' j1 j2 j3 j4 j5 j6 j7=>next Te Xi q'' aCu a'' SW X4 t'' j1 j2 (by rw [j3,k2]) j4 j5 (fun j=>(k6 j).trans (j6 j)) fun h=>⟨(j7 (kc h).2).1.trans (kc h).1,(j7 (kc h).2).2⟩) rfl
    ·exfalso
     have my:=T.wg (T.jw (i:=0) (by rw [sk];exact id))
     unfold dy at my
     rw [sk] at my
     rcases hc with rfl|hc
     ·rw [hr] at sk;cases sk
     ·have:=Bn (ρ:=ρ) (cI hi) (by rw [hr];exact hc)
      omega
def Port.gets:Port->Port->M'
 | .recv _ _ ok,.send _ v _=>recvd ok v true
 |_,_=>I'
structure Bx (gs gs':Array O') (w w':J') (t t':Trace) (h i:Nat) (ph pi:Port) (a₂ bp:O') (k:Nat):Prop where
 size:gs'.size=gs.size
 one:gs'[h]?=some (Go.Conc.served a₂ (ph.gets pi))
 two:gs'[i]?=some (Go.Conc.served bp (pi.gets ph))
 rest:∀x,x≠h->x≠i->gs'[x]?=gs[x]?
 world:∃d,w'=(w.at d).setChan ph.chan 0 #[] false (k+1) (k+1) false
 trace:∃fa pa fb pb,t'=t++(if ph.out then met h i fa pa fb pb ph.chan k 0 else met i h fa pa fb pb ph.chan k 0)
variable {gs':Array O'} {t':Trace}
theorem JF (T:aC P C b o ae Fin (some h) rel ρ q gs w t) (hc:h=0\/0<k) (hr:ρ h=.self k d) {a:O'} (hi:gs[h]?=some a):ρ 0≠.wait .w6:=by
 intro sk
 have my:=T.wg (T.jw (i:=0) (by rw [sk];exact id))
 unfold dy at my
 rw [sk] at my
 rcases hc with rfl|hc
 ·rw [hr] at sk;cases sk
 ·have:=Bn (ρ:=ρ) (cI hi) (by rw [hr];exact hc)
  omega
theorem eY (T:aC P C b o ae Fin (some h) rel ρ q gs w t) {x:Nat} (hx:(ρ x).isSelf=true):x=h:=by
 cases hr:ρ x<;>rw [hr] at hx<;>try (cases hx;done)
 exact (some_inj (T.one x _ _ hr)).symm
theorem mY {r:aX} {p:Port} {home:O'->J'->Prop} (h:vS r r'):r=.seat p home↔r'=.seat p home:=by
 rcases h with rfl|⟨h1,h2⟩|⟨s,s',rfl,rfl⟩
 ·exact Iff.rfl
 ·constructor
  ·rintro rfl;cases h1
  ·rintro rfl;cases h2
 ·constructor<;>intro h<;>cases h
theorem xY {r:aX} (h:vS r r') (hr:r=.self k d):r'=.self k d:=by
 subst hr
 rcases h with rfl|⟨h1,h2⟩|⟨s,s',h1,rfl⟩
 ·rfl
 ·cases h1
 ·cases h1
variable {a₂:O'} {ph:Port}
theorem jM {c:Nat} {dir:Bool}:offersAt (parked a₂ ph.cases ph.shape) c dir=if ph.chan=c/\ph.out=dir then [0] else []:=by
 cases ph with
 |recv c' z ok=>
  cases dir with
  |true=>simp [Port.out,Port.cases,offersAt_parked_recv']
  |false=>simp [Port.cases,Port.chan,Port.out,offersAt_parked_recv]
 |send c' v z=>
  cases dir with
  |false=>simp [Port.out,Port.cases,offersAt_parked_send']
  |true=>simp [Port.cases,Port.chan,Port.out,offersAt_parked_send]
theorem wQ (hc:w.heap[ph.chan]?=some (.chan 0 #[] false k k false)):(parked a₂ ph.cases ph.shape).again w=parked a₂ ph.cases ph.shape:=by
 cases ph with
 |recv c z ok=>exact again_recv_open hc
 |send c v z=>exact again_send_open hc
theorem Az {x y:Nat} {px py:Port} {gx zr gy:O'} (hx:gs[x]?=some gx) (fH:gP P (x==0) px gx zr) (BF:y≠x) (hy:gs[y]?=some (parked gy py.cases py.shape)) (hc:w.heap[px.chan]?=some (.chan 0 #[] false k k false)) (hch:py.chan=px.chan) (hd:py.out≠px.out)
 (ho:∀(z:Nat) (g:O'),z≠x->z≠y->gs[z]?=some g->offersAt g px.chan (!px.out)=[]):
 ∃gs' ops,runT P (crowd gs w sl) x=(.next (crowd gs' (w.setChan px.chan 0 #[] false (k+1) (k+1) false) sl),ops)/\gs'.size=gs.size/\gs'[x]?=some (Go.Conc.served zr (px.gets py))/\gs'[y]?=some (Go.Conc.served gy (py.gets px))/\(∀z,z≠x->z≠y->gs'[z]?=gs[z]?)/\
  ∃fa pa fb pb,ops=if px.out then met x y fa pa fb pb px.chan k 0 else met y x fa pa fb pb px.chan k 0:=by
 have Ux:x<gs.size:=(cI hx)
 have Uw:y<gs.size:=(cI hy)
 have hp:partners (gs.setIfInBounds x ph) px.chan (!px.out)=[(y,0)]:=by
  rw [partners_one (stand_get BF hy) (fun z g hz hg=> ?_),jM,if_pos ⟨hch,by cases h1:px.out<;>cases h2:py.out<;>simp_all⟩]
  ·rfl
  ·rcases getElem?_stand gs x z g hg with ⟨_,rfl⟩|⟨hzx,iJ⟩
   ·exact offersAt_ph _ _
   ·exact ho z g hzx hz iJ
 have hst:=fH.2.2.2.2 w
 cases px with
 |send c v z=>
  cases py with
  |send c' v' z'=>exact absurd rfl hd
  |recv c' z' ok'=>
   obtain rfl:c'=c:=hch
   have hrun:=crowd_send_meets (sl:=sl) hx hst hc BF hy hp
   rw [show (Port.send c' v z).shape=.send from rfl,show (Port.recv c' z' ok').shape=.recv ok' from rfl,finishComm_send,finishComm_recv] at hrun
   refine ⟨_,_,hrun,by simp,by simp [Ux,Port.gets], ?_,fun q h1 h2=>by simp [I_ (ru h1),I_ (ru h2)],zr.frame.fn,zr.frame.place,gy.frame.fn,gy.frame.place, ?_⟩
   ·rw [I_ (ru BF)];simp [Uw,Port.gets]
   ·rw [ofEvents_eq];simp [Port.out,met,Port.chan]
 |recv c z ok=>
  cases py with
  |recv c' z' ok'=>exact absurd rfl hd
  |send c' v' z'=>
   obtain rfl:c'=c:=hch
   have hrun:=crowd_recv_meets (sl:=sl) hx hst hc BF hy hp
   rw [show (Port.recv c' z ok).shape=.recv ok from rfl,show (Port.send c' v' z').shape=.send from rfl,finishComm_send,finishComm_recv] at hrun
   refine ⟨_,_,hrun,by simp,by simp [Ux,Port.gets], ?_,fun q h1 h2=>by simp [I_ (ru h1),I_ (ru h2)],gy.frame.fn,gy.frame.place,zr.frame.fn,zr.frame.place, ?_⟩
   ·rw [I_ (ru BF)];simp [Uw,Port.gets]
   ·rw [ofEvents_eq];simp [Port.out,met,Port.chan]
def pG (P:U') (C:cS) (b o:Nat) (ae Fin:O'->J'->Prop) (Post:M'->J'->Prop) (h k d:Nat) (pH:Port) (a₂:O') (ρ:Nat->aX) (n:Nat) (w:J'):Prop:=
 ∀bZ fT q' dH w₁ sl' mC i p home bp kk gs' w' t',aC P C b o ae Fin (some h) bZ fT q' dH w₁ mC->fT h=.self k d->dH.size=n->(∀j,vS (ρ j) (fT j))->Out (bS C) w w₁->i≠h->ρ i=.seat p home->fT i=.seat p home->p.chan=pH.chan->p.out≠pH.out->home bp w₁->
  w₁.heap[pH.chan]?=some (.chan 0 #[] false kk kk false)->Bx dH gs' w₁ w' mC t' h i pH p a₂ bp kk->Ends P Post (crowd gs' w' sl') t'
variable {pH:Port} {fT:Nat->aX}
theorem pG.later {n:Nat} (H:pG P C b o ae Fin Post h k d pH a₂ ρ n w) (ha:∀j,vS (ρ j) (fT j)) (hn:n'=n) (ho:Out (bS C) w w'):pG P C b o ae Fin Post h k d pH a₂ fT n' w':=by
 intro jE iX rR dH w₁ ib mC i p home bp kk pw lZ DY k1 k2 k3 k4 k5 k5' k6 k7 k8 k9 JU k11 k12
 exact H jE iX rR dH w₁ ib mC i p home bp kk pw lZ DY k1 k2 (k3.trans hn) (fun j=>(ha j).trans (k4 j)) (ho.trans k5) k5' ((mY (ha i)).2 k6) k7 k8 k9 JU k11 k12
variable {a:O'}
theorem Cs (hA:∀g w,ae g w->g.status=.running) (uQ:∀g w,ae g w->∃m,Goes P true (RB C b o 0) (DW b o) (AtW1 P C b o ae Fin) m g w) (hc:h=0\/0<k)
 (T:aC P C b o ae Fin (some h) rel ρ q gs w t) (hr:ρ h=.self k d) (hi:gs[h]?=some (parked a₂ pH.cases pH.shape)) (hex:∃i p home,ρ i=.seat p home/\p.chan=pH.chan/\p.out≠pH.out)
 (J3:∀i p home,ρ i=.seat p home->p.chan=pH.chan->p.out≠pH.out->0<q i) (next:pG P C b o ae Fin Post h k d pH a₂ ρ gs.size w):Ends P Post (crowd gs w sl) t:=by
 generalize MZ:meas ρ q gs.size=μ
 induction sf.apply μ generalizing rel ρ q gs w sl t with
 |intro μ _ AM=>
  obtain ⟨aN,Hf,pY,sw,ua,Gi⟩:=id hex
  obtain ⟨kk,gv⟩:=T.chans aN Hf pY sw
  rw [ua] at gv
  have Ny:=T.pE hA (fun x y hx hy=>by
   obtain rfl:=eY T hx
   rw [hi] at hy
   obtain rfl:=some_inj hy
   exact awake_of (.inr (.inl rfl)))
  have QR:aN<gs.size:=by
   rcases Nat.lt_or_ge aN gs.size with h|h
   ·exact h
   ·rw [T.above aN h] at sw;cases sw
  obtain ⟨dN,OP⟩:∃dN,gs[aN]?=some dN:=⟨_,H_ QR⟩
  have M9:dN.status=.running:=by
   have hq:=J3 aN Hf pY sw ua Gi
   have aM:=T.eD aN dN OP
   rw [sw] at aM
   rcases aM.status hA rfl with h|h|⟨_,h,_⟩
   ·exact h
   ·rcases aM.2 with ⟨k',_,hg⟩|⟨h0,_⟩
    ·exact hg.running (fun _ _ x=>x.choose_spec.1.1) w (RB.refl aN w)
    ·omega
   ·omega
  obtain ⟨i,g,dr,sl',vH,hg,hst⟩:=crowd_pick (P:=P) (w:=w) (sl:=sl) Ny ⟨aN,dN,OP,M9⟩
  have Td:=T.at dr
  have ye:Out (bS C) w (w.at dr):=Out.at _ w dr
  have e:i≠h:=by
   rintro rfl
   rw [hi] at vH
   obtain rfl:=some_inj vH
   cases hg
  have lu:(ρ i).isSelf=false:=by
   cases hs:(ρ i).isSelf with
   |false=>rfl
   |true=>exact absurd (eY T hs) e
  have hS:bO ρ gs (w.at dr):=fun x y hx hy w' gC=>by
   obtain rfl:=eY T hx
   rw [hi] at hy
   obtain rfl:=some_inj hy
   exact wQ (gC _ _ gv rfl)
  have other:fp P C b o ae Fin (some h) rel ρ q gs (w.at dr) sl' t i->(∀p home,ρ i=.seat p home->p.chan=pH.chan->p.out≠pH.out->∀bp,¬gP P (i==0) p g bp)->Ends P Post (crowd gs w sl) t:=by
   rintro ⟨gs',w',ops,fT,q',who',bZ,k1,k2,k3,k4,k5,k6,k7,k8,k9,JU,_⟩ hno
   have FU:(ρ h).isSelf=true:=by rw [hr];rfl
   have oE:=k7 ⟨h,FU⟩
   subst oE
   refine Ends.step (hst.trans k1) ?_
   refine AM (meas fT q' gs'.size) (by rw [<-MZ,k2];exact k4) k3 (xY (k6 h) hr) (by rw [k8 h FU];exact hi) ⟨aN,Hf,pY,(mY (k6 aN)).1 sw,ua,Gi⟩ (fun j p home hj h1 h2=> ?_) (next.later k6 k2 (ye.trans k5)) rfl
   have EL:=(mY (k6 j)).2 hj
   by_cases ej:j=i
   ·subst ej
    rcases JU with JU|JU
    ·exact JU
    ·obtain ⟨g',bp,iJ,xH⟩:=JU p home EL
     rw [vH] at iJ
     obtain rfl:=some_inj iJ
     exact absurd xH (hno p home EL h1 h2 bp)
   ·rw [k9 j ej (by rw [EL];simp)]
    exact J3 j p home EL h1 h2
  by_cases hm:∃p home,ρ i=.seat p home/\p.chan=pH.chan/\p.out≠pH.out
  ·obtain ⟨p,home,wj,hch,hd⟩:=hm
   have aM:=Td.eD i g vH
   rw [wj] at aM
   rcases aM.2 with ⟨k',fS,hgo⟩|⟨h0,_⟩
   ·rcases hgo.cases with dR|⟨n',hn,YT⟩
    ·
     obtain ⟨bp,fH,hh⟩:=dR (w.at dr) (RB.refl i _)
     have hc':(w.at dr).heap[p.chan]?=some (.chan 0 #[] false kk kk false):=by rw [hch];exact gv
     obtain ⟨gs',ops,j1,j2,j3,j4,j5,fa,pa,fb,pb,j6⟩:=Az (sl:=sl') (py:=pH) vH fH (ru e) hi hc' hch.symm (ru hd) (fun z y rm uF hy=>by
      have hzs:(ρ z).isSelf=false:=by
       cases hs:(ρ z).isSelf with
       |false=>rfl
       |true=>exact absurd (eY T hs) uF
      exact T.Am hA hy hzs fun p' h' e' ec=>by rw [T.apart z i p' p h' home e' wj ec];cases p.out<;>simp)
     refine Ends.step (hst.trans j1) ?_
     refine next rel ρ q gs (w.at dr) sl' t i p home bp kk gs' _ _ Td hr rfl (fun j=>.rfl' _) ye e wj wj hch hd hh gv ⟨j2,j4,j3,fun x h1 h2=>j5 x h2 h1,⟨dr,by rw [hch];rfl⟩, ?_⟩
     cases ho:pH.out with
     |true=>
      have:p.out=false:=by cases hx:p.out<;>simp_all
      rw [this] at j6
      exact ⟨fa,pa,fb,pb,by rw [j6,hch];simp⟩
     |false=>
      have:p.out=true:=by cases hx:p.out<;>simp_all
      rw [this] at j6
      exact ⟨fa,pa,fb,pb,by rw [j6,hch];simp⟩
    ·obtain ⟨g',w',es,UX,hdr,iJ⟩:=YT (w.at dr) (RB.refl i _)
     refine other (Td.Mp hA hS (n':=n'+1) vH (by rw [wj];rfl) (by omega) UX hdr (by rw [wj];exact ⟨aM.1,.inl ⟨n',rfl,iJ⟩⟩) (.inl (Nat.succ_pos _))) fun p' pq sX _ _ bp fH=> ?_
     have:=fH.2.2.2.2 (w.at dr)
     rw [UX] at this
     cases this
   ·have:=J3 i p home wj hch hd;omega
  ·rcases Td.Dn (sl:=sl') hA uQ hS vH lu hg (fun p home hp x y hx hy=>by
    obtain rfl:=eY T hx
    rw [hi] at hy
    obtain rfl:=some_inj hy
    rw [jM,if_neg]
    rintro ⟨h1,h2⟩
    rcases hp with hp|hp
    ·exact hm ⟨p,home,hp,h1.symm,by rw [h2];cases p.out<;>simp⟩
    ·obtain ⟨k',fS⟩:=T.shuts i p home hp
     rw [<-h1,gv] at fS;cases fS) with Zd|⟨rfl,sk,_⟩
   ·exact other Zd fun p home h1 h2 h3=>absurd ⟨p,home,h1,h2,h3⟩ hm
   ·exact absurd sk (JF T hc hr hi)
theorem aC.MK (T:aC P C b o ae Fin (some h) rel ρ q gs w t) (hA:∀g w,ae g w->g.status=.running) (hr:ρ h=.self k d) (hi:gs[h]?=some a) (a':O'):
 ∃q',aC P C b o ae Fin (some h) rel ρ q' (gs.setIfInBounds h a') w t/\∀j,j≠h->ρ j≠.wait .w3->q' j=q j:=by
 have hu:=zU hr
 have vC:gs.map (woken P a (parked a #[] .send) w)=gs:=by
  have:woken P a (parked a #[] .send) w=id:=by funext y;simp [woken,parked]
  rw [this,Array.map_id]
 obtain ⟨q',T',_,h2⟩:=T.step hA (a:=a) (a':=parked a #[] .send) (g':=a') (r':=.self k d) (n':=0) (who':=some h) (bZ:=rel) (u:=#[]) hi (fun j _=>RB.refl j w) (C_ _) (fun r ob h _ _=>h) (T.mO h) (fun p h' e=>by cases e) (fun p h' e=>by cases e) (by rw [hu];exact T.one) (by rw [hu];exact T.holder) trivial
  (by rw [hu];simpa using T.tr) (by rw [hu];exact T.wg) (fun c=>by have:=T.off c h;rw [hr] at this;exact this) (fun HG=>absurd HG (T.fX (by rw [hr];simp))) (by rw [hu];exact T.few) (fun _ _ h=>.inl h) (fun _ e=>by cases e)
 rw [vC,hu] at T'
 exact ⟨q',by simpa using T',h2⟩
theorem qz {g:O'} {cs cs':Array CommCase} {sh sh':CommShape} (h:parked g cs sh=parked g' cs' sh') (v:M'):cs=cs'/\sh=sh'/\Go.Conc.served g v=Go.Conc.served g' v:=by
 obtain ⟨f,c,s,dd,o'⟩:=g
 obtain ⟨f',c',s',dd',o''⟩:=g'
 simp only [parked,Goroutine.mk.injEq,n_,Prod.mk.injEq,true_and] at h
 obtain ⟨rfl,rfl,rfl,rfl,rfl⟩:=h
 exact ⟨rfl,rfl,rfl⟩
variable {j:Nat}
theorem zi (T:aC P C b o ae Fin (some h) rel ρ q gs w t) (hA:∀g w,ae g w->g.status=.running) {c:Nat} {dir:Bool} {y:O'} (hj:j≠h) (hy:gs[j]?=some y) (hm:m∈offersAt y c dir):
 ∃p home bp,ρ j=.seat p home/\p.chan=c/\p.out=dir/\y=parked bp p.cases p.shape/\home bp w/\m=0:=by
 have lu:(ρ j).isSelf=false:=by
  cases hs:(ρ j).isSelf with
  |false=>rfl
  |true=>exact absurd (eY T hs) hj
 have aM:=T.eD j y hy
 rcases aM.status hA lu with h|h|⟨_,h0,⟨p,home,e⟩|e⟩
 ·rw [offersAt_of_not_blocked (by rw [h];simp)] at hm;cases hm
 ·rw [offersAt_of_not_blocked (by rw [h];simp)] at hm;cases hm
 ·rw [e] at aM
  rcases aM.2 with ⟨k',fS,_⟩|⟨_,dN,bp,rfl,fH,hh⟩
  ·omega
  ·rw [jM] at hm
   by_cases WJ:p.chan=c/\p.out=dir
   ·rw [if_pos WJ] at hm
    exact ⟨p,home,bp,e,WJ.1,WJ.2,rfl,hh,by simpa using hm⟩
   ·rw [if_neg WJ] at hm;cases hm
 ·rw [e] at aM
  rcases aM.2 with ⟨k',fS,_⟩|⟨_,dN,h1,rfl,_⟩
  ·omega
  ·simp [offersAt,h1.2.1] at hm
variable {kk:Nat}
theorem Er (T:aC P C b o ae Fin (some h) rel ρ q gs w t) (hA:∀g w,ae g w->g.status=.running) (hi:gs[h]?=some a) (fH:gP P (h==0) pH a a₂) (gv:w.heap[pH.chan]?=some (.chan 0 #[] false kk kk false))
 (hex:∃i p home bp,i≠h/\ρ i=.seat p home/\p.chan=pH.chan/\p.out≠pH.out/\gs[i]?=some (parked bp p.cases p.shape)):
 ∃i p home bp gs' w' ops,i≠h/\ρ i=.seat p home/\p.chan=pH.chan/\p.out≠pH.out/\home bp w/\runT P (crowd gs w sl) h=(.next (crowd gs' w' sl),ops)/\Bx gs gs' w w' t (t++ops) h i pH p a₂ bp kk:=by
 have hlt:h<gs.size:=(cI hi)
 have hst:=fH.2.2.2.2 w
 have Na:∀j m,(j,m)∈partners (gs.setIfInBounds h ph) pH.chan (!pH.out)->j≠h/\m=0/\∃p home bp,ρ j=.seat p home/\p.chan=pH.chan/\p.out≠pH.out/\gs[j]?=some (parked bp p.cases p.shape)/\home bp w:=by
  intro j m hm
  obtain ⟨y,hy,Zc⟩:=mem_partners.1 hm
  rcases getElem?_stand gs h j y hy with ⟨_,rfl⟩|⟨hj,pg⟩
  ·rw [offersAt_ph] at Zc;cases Zc
  ·obtain ⟨p,home,bp,e1,e2,e3,rfl,e5,e6⟩:=zi T hA hj pg Zc
   exact ⟨hj,e6,p,home,bp,e1,e2,by rw [e3];cases pH.out<;>simp,pg,e5⟩
 have hne:partners (gs.setIfInBounds h ph) pH.chan (!pH.out)≠[]:=by
  obtain ⟨i,p,home,bp,h1,h2,h3,h4,h5⟩:=hex
  have:(i,0)∈partners (gs.setIfInBounds h ph) pH.chan (!pH.out):=mem_partners.2 ⟨_,stand_get h1 h5,by
   rw [jM,if_pos ⟨h3,by cases hx:p.out<;>cases hy:pH.out<;>simp_all⟩];simp⟩
  intro he;rw [he] at this;cases this
 cases pH with
 |send c v z=>
  obtain ⟨j,gj,zj,X5,dd,KI,hj,hrun⟩:=crowd_send_meets_some (sl:=sl) hi hst gv hne (fun j m hm=>by
   obtain ⟨h1,h2,p,home,bp,h3,h4,h5,h6,h7⟩:=Na j m hm
   cases p with
   |send c' v' z'=>exact absurd rfl h5
   |recv c' z' ok'=>
    obtain rfl:c'=c:=h4
    exact ⟨h2,h1,bp,z',.recv ok',h6⟩)
  have yJ:(j,0)∈partners (gs.setIfInBounds h ph) c false:=mem_partners.2 ⟨_,stand_get KI hj,by rw [offersAt_parked_recv];simp⟩
  obtain ⟨_,_,p,home,bp,h3,h4,h5,h6,h7⟩:=Na j 0 yJ
  cases p with
  |send c' v' z'=>exact absurd rfl h5
  |recv c' z' ok'=>
   obtain rfl:c'=c:=h4
   rw [hj] at h6
   obtain ⟨e1,e2,e3⟩:=qz (some_inj h6) (recvd ok' v true)
   have e1':zj=z':=by simpa [Port.cases,rcase] using e1
   subst e1'
   have VK:X5=.recv ok':=e2
   subst VK
   have HB:j<gs.size:=(cI hj)
   rw [show (Port.send c' v z).shape=.send from rfl,finishComm_send,finishComm_recv] at hrun
   refine ⟨j,_,home,bp,_,_,_,KI,h3,rfl,h5,h7,hrun,⟨by simp,by simp [hlt,Port.gets], ?_,fun x h1 h2=>by simp [I_ (ru h1),I_ (ru h2)],⟨dd,rfl⟩,a₂.frame.fn,a₂.frame.place,gj.frame.fn,gj.frame.place, ?_⟩⟩
   ·rw [I_ (ru KI)]
    simp only [Port.gets,<-e3]
    simp [HB]
   ·rw [ofEvents_eq];simp [Port.out,met,Port.chan]
 |recv c z ok=>
  obtain ⟨j,gj,vj,zj,X5,dd,KI,hj,hrun⟩:=crowd_recv_meets_some (sl:=sl) hi hst gv hne (fun j m hm=>by
   obtain ⟨h1,h2,p,home,bp,h3,h4,h5,h6,h7⟩:=Na j m hm
   cases p with
   |recv c' z' ok'=>exact absurd rfl h5
   |send c' v' z'=>
    obtain rfl:c'=c:=h4
    exact ⟨h2,h1,bp,v',z',.send,h6⟩)
  have yJ:(j,0)∈partners (gs.setIfInBounds h ph) c true:=mem_partners.2 ⟨_,stand_get KI hj,by rw [offersAt_parked_send];simp⟩
  obtain ⟨_,_,p,home,bp,h3,h4,h5,h6,h7⟩:=Na j 0 yJ
  cases p with
  |recv c' z' ok'=>exact absurd rfl h5
  |send c' v' z'=>
   obtain rfl:c'=c:=h4
   rw [hj] at h6
   obtain ⟨e1,e2,e3⟩:=qz (some_inj h6) I'
   have e1':vj=v'/\zj=z':=by simpa [Port.cases,scase] using e1
   obtain ⟨rfl,rfl⟩:=e1'
   have VK:X5=.send:=e2
   subst VK
   have HB:j<gs.size:=(cI hj)
   rw [show (Port.recv c' z ok).shape=.recv ok from rfl,finishComm_send,finishComm_recv] at hrun
   refine ⟨j,_,home,bp,_,_,_,KI,h3,rfl,h5,h7,hrun,⟨by simp,by simp [hlt,Port.gets], ?_,fun x h1 h2=>by simp [I_ (ru h1),I_ (ru h2)],⟨dd,rfl⟩,gj.frame.fn,gj.frame.place,a₂.frame.fn,a₂.frame.place, ?_⟩⟩
   ·rw [I_ (ru KI)]
    simp only [Port.gets,<-e3]
    simp [HB]
   ·rw [ofEvents_eq];simp [Port.out,met,Port.chan]
theorem meet (hA:∀g w,ae g w->g.status=.running) (uQ:∀g w,ae g w->∃m,Goes P true (RB C b o 0) (DW b o) (AtW1 P C b o ae Fin) m g w) (hc:h=0\/0<k)
 (T:aC P C b o ae Fin (some h) rel ρ q gs w t) (hr:ρ h=.self k d) (hi:gs[h]?=some a) (fH:gP P (h==0) pH a a₂) (hex:∃i p home,ρ i=.seat p home/\p.chan=pH.chan/\p.out≠pH.out)
 (next:pG P C b o ae Fin Post h k d pH a₂ ρ gs.size w):Ends P Post (crowd gs w sl) t:=by
 generalize MZ:meas ρ q gs.size=μ
 induction sf.apply μ generalizing rel ρ q gs w sl t with
 |intro μ _ AM=>
  obtain ⟨aN,Hf,pY,sw,ua,Gi⟩:=id hex
  obtain ⟨kk,gv⟩:=T.chans aN Hf pY sw
  rw [ua] at gv
  have hrun:a.status=.running:=fH.1
  have Ny:=T.pE hA (fun x y hx hy=>by
   obtain rfl:=eY T hx
   rw [hi] at hy
   obtain rfl:=some_inj hy
   exact awake_of (.inl hrun))
  obtain ⟨i,g,dr,sl',vH,hg,hst⟩:=crowd_pick (P:=P) (w:=w) (sl:=sl) Ny ⟨h,a,hi,hrun⟩
  have Td:=T.at dr
  have ye:Out (bS C) w (w.at dr):=Out.at _ w dr
  by_cases e:i=h
  ·subst e
   rw [hi] at vH
   obtain rfl:=some_inj vH
   by_cases hp:∃j p home bp,j≠i/\ρ j=.seat p home/\p.chan=pH.chan/\p.out≠pH.out/\gs[j]?=some (parked bp p.cases p.shape)
   ·obtain ⟨j,p,home,bp,gs',w',ops,h1,h2,h3,h4,h5,h6,h7⟩:=Er (sl:=sl') Td hA hi fH gv hp
    exact Ends.step (hst.trans h6) (next rel ρ q gs (w.at dr) sl' t j p home bp kk gs' w' _ Td hr rfl (fun j=>.rfl' _) ye h1 h2 h2 h3 h4 h5 gv h7)
   ·
    have J3:∀j p home,ρ j=.seat p home->p.chan=pH.chan->p.out≠pH.out->0<q j:=by
     intro j p home hj h1 h2
     have SA:j≠i:=fun e=>by subst e;rw [hr] at hj;cases hj
     have HB:j<gs.size:=by
      rcases Nat.lt_or_ge j gs.size with h|h
      ·exact h
      ·rw [T.above j h] at hj;cases hj
     have aM:=T.eD j _ (H_ HB)
     rw [hj] at aM
     rcases aM.2 with ⟨k',fS,_⟩|⟨_,dN,bp,hgj,_⟩
     ·omega
     ·exact absurd ⟨j,p,home,bp,SA,hj,h1,h2,by rw [H_ HB,hgj]⟩ hp
    have hno:∀(x:Nat) (y:O'),(gs.setIfInBounds i ph)[x]?=some y->offersAt y pH.chan (!pH.out)=[]:=by
     intro x y hy
     rcases getElem?_stand gs i x y hy with ⟨_,rfl⟩|⟨hx,pg⟩
     ·exact offersAt_ph _ _
     ·rcases kE:offersAt y pH.chan (!pH.out) with _|⟨m,l⟩
      ·rfl
      ·obtain ⟨p,home,bp,e1,e2,e3,rfl,e5,e6⟩:=zi Td hA hx pg (m:=m) (c:=pH.chan) (dir:= !pH.out) (by rw [kE];simp)
       exact absurd ⟨x,p,home,bp,hx,e1,e2,by rw [e3];cases pH.out<;>simp,pg⟩ hp
    have hw:∀cc∈pH.cases,NoWays (w.at dr) (gs.setIfInBounds i ph) cc:=by
     intro cc hcc
     cases pH with
     |recv c z ok=>
      have:cc=rcase c z:=by simpa [Port.cases] using hcc
      subst this
      exact ways_recv_none gv (partners_nil hno)
     |send c v z=>
      have:cc=scase c v z:=by simpa [Port.cases] using hcc
      subst this
      exact ways_send_none gv (by simp) (partners_nil hno)
    obtain ⟨q',T',Sw⟩:=Td.MK hA hr hi (parked a₂ pH.cases pH.shape)
    have hlt:i<gs.size:=(cI hi)
    refine Ends.step (hst.trans (crowd_waits (sl:=sl') hi (fH.2.2.2.2 _) hw)) ?_
    rw [show cC i a.frame.fn a.frame.place #[]=#[] from by rw [ofEvents_eq];simp,Array.append_empty]
    refine Cs hA uQ hc T' hr (by simp [hlt]) hex (fun j p home hj h1 h2=> ?_) (next.later (fun j=>.rfl' _) (by simp) ye)
    rw [Sw j (fun e=>by subst e;rw [hr] at hj;cases hj) (by rw [hj];simp)]
    exact J3 j p home hj h1 h2
  ·have lu:(ρ i).isSelf=false:=by
    cases hs:(ρ i).isSelf with
    |false=>rfl
    |true=>exact absurd (eY T hs) e
   rcases Td.Dn (sl:=sl') hA uQ (l9 Td hi hrun) vH lu hg (fun p home _ x y hx hy=>by
    obtain rfl:=eY T hx
    rw [hi] at hy
    obtain rfl:=some_inj hy
    exact offersAt_of_not_blocked (by rw [hrun];simp) _ _) with hm|⟨rfl,sk,_⟩
   ·obtain ⟨gs',w',ops,fT,q',who',bZ,k1,k2,k3,k4,k5,k6,k7,k8,k9,JU,_⟩:=hm
    have FU:(ρ h).isSelf=true:=by rw [hr];rfl
    have oE:=k7 ⟨h,FU⟩
    subst oE
    refine Ends.step (hst.trans k1) ?_
    exact AM (meas fT q' gs'.size) (by rw [<-MZ,k2];exact k4) k3 (xY (k6 h) hr) (by rw [k8 h FU];exact hi) ⟨aN,Hf,pY,(mY (k6 aN)).1 sw,ua,Gi⟩ (next.later k6 k2 (ye.trans k5)) rfl
   ·exact absurd sk (JF T hc hr hi)
section
variable {ob:Obj}
theorem nY {c:Nat} (hc:w.heap[c]?=some ob) (ho:vV ob=false) (cap:Nat) (buf:Array M') (cl:Bool) (s r:Nat) (tm:Bool) (a:Addr):(w.setChan c cap buf cl s r tm).cell? a=w.cell? a/\(w.setChan c cap buf cl s r tm).frozen? a=w.frozen? a:=by
 have hlt:c<w.heap.size:=(cI hc)
 by_cases e:a.block=c
 ·have e1:(w.setChan c cap buf cl s r tm).heap[a.block]?=some (.chan cap buf cl s r tm):=by rw [e];simp [World.setChan,hlt]
  have e2:w.heap[a.block]?=some ob:=by rw [e];exact hc
  unfold World.cell? World.frozen?
  rw [e1,e2]
  cases ob<;>first|(cases ho;done)|exact ⟨rfl,rfl⟩
 ·have e1:(w.setChan c cap buf cl s r tm).heap[a.block]?=w.heap[a.block]?:=by simp [World.setChan,I_ (ru e)]
  unfold World.cell? World.frozen?
  rw [e1];exact ⟨rfl,rfl⟩
theorem heap_setChan {c:Nat} (hc:w.heap[c]?=some ob) (cap:Nat) (buf:Array M') (cl:Bool) (s r:Nat) (tm:Bool) (x:Nat):(w.setChan c cap buf cl s r tm).heap[x]?=if x=c then some (.chan cap buf cl s r tm) else w.heap[x]?:=by
 have hlt:c<w.heap.size:=(cI hc)
 by_cases e:x=c
 ·subst e;simp [World.setChan,hlt]
 ·simp [World.setChan,e,I_ (ru e)]
theorem vW {c:Nat} (hc:w.heap[c]?=some ob) (ho:vV ob=false) (hno:∀g,¬C.St g (.obj c)/\¬C.Pv g (.obj c)) (d cap:Nat) (buf:Array M') (cl:Bool) (s r:Nat) (tm:Bool) (j:Nat):
 RB C b o j w ((w.at d).setChan c cap buf cl s r tm)/\∀s' m',cx b o w s' m'->cx b o ((w.at d).setChan c cap buf cl s r tm) s' m':=by
 have hc':(w.at d).heap[c]?=some ob:=hc
 have hw:∀s' m',cx b o w s' m'->cx b o ((w.at d).setChan c cap buf cl s r tm) s' m':=fun s' m' h=>h.keep (nY hc' ho _ _ _ _ _ _ _) (nY hc' ho _ _ _ _ _ _ _)
 refine ⟨⟨fun _ ⟨s',m',h⟩=>⟨s',m',hw _ _ h⟩,fun x k _=>nY hc' ho _ _ _ _ _ _ _,fun x hx=> ?_⟩,hw⟩
 rw [heap_setChan hc',if_neg]
 ·rfl
 ·rintro rfl
  exact hx.elim (hno j).2 (hno j).1
section
variable {C':cS} (hP:∀l,C'.Pv i l↔C.Pv i l) (hS:∀l,C'.St i l↔C.St i l) (fI:C'.Sh=C.Sh) (b9:C'.on=C.on)
include hP hS b9 in
theorem Jn:RB C' b o i=RB C b o i:=by
 funext w w₁
 refine propext ⟨fun h=>⟨fun c=>h.live (b9▸c),fun x k hx=>h.cells x k (by rw [hP,hS];exact hx),fun r hx=>h.gz r (by rw [hP,hS];exact hx)⟩,fun h=>⟨fun c=>h.live (b9▸c),fun x k hx=>h.cells x k (by rw [<-hP,<-hS];exact hx),fun r hx=>h.gz r (by rw [<-hP,<-hS];exact hx)⟩⟩
include hP hS fI in
theorem Ll:DR C' i=DR C i:=by
 have e1:(fun x k=>C'.Pv i (.cell ⟨x,k,none⟩))=fun x k=>C.Pv i (.cell ⟨x,k,none⟩):=by funext x k;exact propext (hP _)
 have e2:NY C' i=NY C i:=by funext e;simp only [NY,hP,hS,fI]
 funext w w' es
 simp only [DR,e1,e2]
include hP hS fI b9 in
theorem sj (r:aX) (n:Nat) (g:O') (w:J'):fx P C' b o ae Fin i r n g w↔fx P C b o ae Fin i r n g w:=by
 have e1:=Jn (b:=b) (o:=o) hP hS b9
 have e2:=Ll hP hS fI
 have d3:AtD3 P C' b o i=AtD3 P C b o i:=by funext g w;simp only [AtD3,e1]
 have d2:AtD2 P C' b o i=AtD2 P C b o i:=by funext g w;simp only [AtD2,e1,d3]
 have d1:AtD1 P C' b o i=AtD1 P C b o i:=by funext g w;simp only [AtD1,e1,d2]
 have k1:AtK1 P C' b o i=AtK1 P C b o i:=by funext g w;simp only [AtK1,e1,d1]
 have r0:AtR0 P C' b o i=AtR0 P C b o i:=by funext g w;simp only [AtR0,e1,k1]
 cases r with
 |wait s=>
  by_cases hi:i=0
  ·subst hi
   have ke:AtKe P C' b o Fin=AtKe P C b o Fin:=by funext g w;simp only [AtKe,e1]
   have w4:AtW4 P C' b o Fin=AtW4 P C b o Fin:=by funext g w;simp only [AtW4,e1,ke]
   have w3:AtW3 P C' b o Fin=AtW3 P C b o Fin:=by funext g w;simp only [AtW3,e1,w4]
   have w2:∀v,AtW2 P C' b o ae Fin v=AtW2 P C b o ae Fin v:=fun v=>by funext g w;simp only [AtW2,e1,w3]
   have w1:AtW1 P C' b o ae Fin=AtW1 P C b o ae Fin:=by funext g w;simp only [AtW1,e1,ke,w2]
   have kd:AtKd P C' b o ae=AtKd P C b o ae:=by funext g w;simp only [AtKd,e1]
   cases s<;>simp only [fx,GA,e1,ke,w4,w3,w2,w1,kd]
  ·simp only [fx,hi,false_and]
 |_=>simp only [fx,Sits,e1,e2,d3,d2,d1,k1,r0]
end
theorem cS.NM {g:Nat} {l:Loc}:((C.drop i).St g l->C.St g l)/\((C.drop i).Pv g l->C.Pv g l):=⟨fun h=>h.2,fun h=>h.2⟩
theorem aC.Fi {D:cS} {p:Port} {home:O'->J'->Prop} (T:aC P C b o ae Fin (some h) rel ρ q gs w t) (hr:ρ h=.self k d) (hd:d=0) (hD:D=C\/D=C.drop i) (wj:ρ i=.seat p home) (CS:i≠h) (hlt:h<gs.size)
 (gv:w.heap[pH.chan]?=some (.chan 0 #[] false kk kk false)) (hno:∀g,¬C.St g (.obj pH.chan)/\¬C.Pv g (.obj pH.chan)) (M:Bx gs gs' w w' t t' h i pH p a₂ bp kk) {ri rh:aX} {ni nh:Nat}
 (hRi:fx P D b o ae Fin i ri ni (Go.Conc.served bp (p.gets pH)) w') (hRh:fx P D b o ae Fin h rh nh (Go.Conc.served a₂ (pH.gets p)) w')
 (hci:ri.count=1) (ir:rh.count=k) (hdi:ri.dd=0) (WG:rh.dd=0) (UB:ri.isLast=false) (Wx:rh.isLast=false) (YJ:∀s,ri≠.wait s) (Sq:∀s,rh≠.wait s)
 (Kf:∀p' h',ri=.seat p' h'\/rh=.seat p' h'->∃k',w.heap[p'.chan]?=some (.chan 0 #[] false k' k' false)) (uG:∀p' h',ri≠.shut p' h'/\rh≠.shut p' h')
 (Gp:∀j l p p' h₁ iN,upd (upd ρ i ri) h rh j=.seat p h₁->upd (upd ρ i ri) h rh l=.seat p' iN->p.chan=p'.chan->p.out=p'.out)
 (oE:(who'=some h/\ri.isSelf=false/\(h=0\/rh.isSelf=true\/rh=.done))\/(who'=some i/\rh.isSelf=false/\(i=0\/ri.isSelf=true\/ri=.done))):
 aC P D b o ae Fin who' rel (upd (upd ρ i ri) h rh) (upd (upd q i ni) h nh) gs' w' t':=by
 subst hd
 have b9:C.on:=T.jw (i:=i) (by rw [wj];exact id)
 have KW:D.Sh=C.Sh/\D.Gr=C.Gr/\D.Dd=C.Dd/\D.on=C.on/\D.ad=C.ad:=by rcases hD with rfl|rfl<;>exact ⟨rfl,rfl,rfl,rfl,rfl⟩
 have EY:∀g l,(D.St g l->C.St g l)/\(D.Pv g l->C.Pv g l):=fun g l=>by rcases hD with rfl|rfl;exact ⟨id,id⟩;exact cS.NM
 have hDo:∀j,j≠i->(∀l,D.Pv j l↔C.Pv j l)/\∀l,D.St j l↔C.St j l:=fun j hj=>by
  rcases hD with rfl|rfl
  ·exact ⟨fun _=>Iff.rfl,fun _=>Iff.rfl⟩
  ·exact ⟨fun _=>⟨fun h=>h.2,fun h=>⟨hj,h⟩⟩,fun _=>⟨fun h=>h.2,fun h=>⟨hj,h⟩⟩⟩
 obtain ⟨dd,gC⟩:=M.world
 have Vu:∀j,RB C b o j w w':=fun j=>by rw [gC];exact (vW (b:=b) (o:=o) gv rfl hno dd _ _ _ _ _ _ j).1
 have HO:∀s m,cx b o w s m->cx b o w' s m:=by rw [gC];exact (vW (b:=b) (o:=o) gv rfl hno dd _ _ _ _ _ _ 0).2
 have ot:∀s m,cx b o w' s m->cx b o w s m:=fun s m h=>by
  obtain ⟨S9,TI,h₀⟩:=(T.wg b9).live
  obtain ⟨rfl,rfl⟩:=(HO _ _ h₀).uniq h
  exact h₀
 have uM:∀x,w'.heap[x]?=if x=pH.chan then some (.chan 0 #[] false (kk+1) (kk+1) false) else w.heap[x]?:=fun x=>by
  rw [gC];exact heap_setChan (w:=w.at dd) gv _ _ _ _ _ _ x
 have Ko:∀(c k':Nat),w.heap[c]?=some (Obj.chan 0 #[] false k' k' false)->∃k'':Nat,w'.heap[c]?=some (Obj.chan 0 #[] false k'' k'' false):=fun c k' hc=>by
  rw [uM]
  by_cases e:c=pH.chan
  ·rw [if_pos e];exact ⟨_,rfl⟩
  ·rw [if_neg e];exact ⟨_,hc⟩
 have MY:∀j,j≠h->j≠i->upd (upd ρ i ri) h rh j=ρ j:=fun j h1 h2=>by rw [P_ _ _ h1,P_ _ _ h2]
 have vB:upd (upd ρ i ri) h rh i=ri:=by rw [P_ _ _ CS,O_]
 have EC:upd (upd ρ i ri) h rh h=rh:=O_ _ _ _
 have Sv:∀j,j=h\/j=i->(ρ j).dd=0:=by rintro j (rfl|rfl);rw [hr];rfl;rw [wj];rfl
 have Uy:i<gs.size:=by
  rcases Nat.lt_or_ge i gs.size with h|h
  ·exact h
  ·rw [T.above i h] at wj;cases wj
 have hsz:=M.size
 have AV:Tr D (fun j=>(upd (upd ρ i ri) h rh j).loose=true) rel gs.size (fun j=>(upd (upd ρ i ri) h rh j).dd) (Acc who' rel t') t':=by
  have hdd:(fun j=>(upd (upd ρ i ri) h rh j).dd)=fun j=>(ρ j).dd:=by
   funext j
   by_cases e1:j=h
   ·subst e1;rw [EC,WG,Sv _ (.inl rfl)]
   ·by_cases e2:j=i
    ·subst e2;rw [vB,hdi,Sv _ (.inr rfl)]
    ·rw [MY j e1 e2]
  rw [hdd]
  obtain ⟨fa,pa,fb,pb,ht⟩:=M.trace
  have key:∀x y,(x=h/\y=i\/x=i/\y=h)->t'=t++met x y fa pa fb pb pH.chan kk 0->Tr D (fun j=>(upd (upd ρ i ri) h rh j).loose=true) rel gs.size (fun j=>(ρ j).dd) (Acc who' rel t') t':=by
   intro x y BF M7
   subst M7
   have YH:=Sv x (BF.imp And.left And.left)
   have Wi:=Sv y (BF.elim (fun q=>.inr q.2) fun q=>.inl q.2)
   have Tm:=T.tr.meet (h:=x) (j:=y) (fun z hz=>by
    rcases BF with ⟨rfl,rfl⟩|⟨rfl,rfl⟩
    ·exact .inl hz
    ·exact .inr hz) YH Wi fa pa fb pb pH.chan kk
   have TD:Tr D (fun g=>(ρ g).loose=true/\g≠x/\g≠y) rel gs.size (fun j=>(ρ j).dd) (fun i=>Knows (t++met x y fa pa fb pb pH.chan kk 0) x i/\Knows (t++met x y fa pa fb pb pH.chan kk 0) y i) (t++met x y fa pa fb pb pH.chan kk 0):=by
    rcases hD with rfl|rfl
    ·exact Tm
    ·refine Tm.drop (fun hl=> ?_) (fun p z a _ _ hz ha=> ?_)
     ·rcases BF with ⟨rfl,rfl⟩|⟨rfl,rfl⟩
      ·exact hl.2.2 rfl
      ·exact hl.2.1 rfl
     ·obtain ⟨op,ho,QJ⟩:=touch_of ha
      rcases getElem?_append_cases ho with ⟨gJ,Y7⟩|⟨_,hu⟩
      ·rw [g?_old gJ] at hz
       refine T.tr.both YH Wi fa pa fb pb pH.chan kk z ?_
       rcases BF with ⟨rfl,rfl⟩|⟨rfl,rfl⟩
       ·exact .inr (fQ hz)
       ·exact .inl (fQ hz)
      ·rw [met_mute _ _ _ _ _ _ _ _ _ op hu] at QJ;cases QJ
   refine TD.n9 (fun p hp=>.inl hp) (fun z a ha hm hs _=>⟨fun hk=>.inl ?_,fun g hg hl=>.inr (hl.imp (fun hl=> ?_) id)⟩)
   ·rcases oE with ⟨rfl,_⟩|⟨rfl,_⟩<;>rcases BF with ⟨rfl,rfl⟩|⟨rfl,rfl⟩
    ·exact hk.1
    ·exact hk.2
    ·exact hk.2
    ·exact hk.1
   ·have h1:g≠h:=by rcases BF with ⟨rfl,rfl⟩|⟨rfl,rfl⟩;exact hl.2.1;exact hl.2.2
    have h2:g≠i:=by rcases BF with ⟨rfl,rfl⟩|⟨rfl,rfl⟩;exact hl.2.2;exact hl.2.1
    rw [MY g h1 h2];exact hl.1
  cases ho:pH.out with
  |true=>rw [ho,if_pos rfl] at ht;exact key h i (.inl ⟨rfl,rfl⟩) ht
  |false=>rw [ho,if_neg (by simp)] at ht;exact key i h (.inr ⟨rfl,rfl⟩) ht
 have h0i:i≠0\/∀s,ρ 0≠.wait s/\ri≠.wait s:=by
  by_cases e:i=0
  ·subst e;exact .inr fun s=>⟨by rw [wj];simp,YJ s⟩
  ·exact .inl e
 have h0h:h≠0\/∀s,upd ρ i ri 0≠.wait s/\rh≠.wait s:=by
  by_cases e:h=0
  ·subst e;exact .inr fun s=>⟨by rw [P_ _ _ (ru CS),hr];simp,Sq s⟩
  ·exact .inl e
 have Su:upd ρ i ri h=.self k 0:=by rw [P_ _ _ (ru CS),hr]
 have my:dy b o (upd (upd ρ i ri) h rh) gs.size w':=by
  have w1:dy b o (upd ρ i ri) gs.size w:=(T.wg b9).dG Uy h0i (by rw [hci,wj];rfl) (by rw [UB,wj];rfl) (.inr UB)
  have w2:dy b o (upd (upd ρ i ri) h rh) gs.size w:=w1.dG hlt h0h (by rw [ir,Su];rfl) (by rw [Wx,Su];rfl) (.inr Wx)
  exact w2.keep HO
 have jW:cnt (upd (upd ρ i ri) h rh) gs.size=cnt ρ gs.size:=by
  have e1:=js (ρ:=ρ) (r':=ri) Uy (by rw [hci,wj];rfl)
  have e2:=js (ρ:=upd ρ i ri) (r':=rh) hlt (by rw [ir,Su];rfl)
  omega
 refine ⟨⟨fun g g' l hp Iw=> ?_,fun g l hl=> ?_,fun l hl=> ?_⟩,KW.2.2.2.2.trans T.ad,fun l=>by rw [KW.1,KW.2.2.2.1];exact T.yk l,fun l hl=> ?_,fun g hg=> ?_,fun g l hl=>by rw [hsz];exact T.old g l (hl.imp (EY g l).1 (EY g l).2),fun g l hl=>T.plain g l (hl.imp (EY g l).1 (EY g l).2),fun g x k' hx=> ?_,fun g r hx=> ?_,by rw [hsz];exact AV,fun j y hy=> ?_,fun j hj=> ?_,fun j p' h' e=> ?_,Gp,fun j p' h' e=> ?_,fun j k' d' e=> ?_,fun x hx=> ?_,by rw [hsz,jW];exact T.few,by rw [hsz];exact fun _=>my,fun c=>absurd (KW.2.2.2.1▸b9) c,by rw [hsz];exact T.cX,fun h1 h2=> ?_⟩
 ·have:=T.ok.apart g g' l ((EY g l).2 hp) Iw
  exact ⟨fun q=>this.1 ((EY g' l).2 q),fun q=>this.2 ((EY g' l).1 q)⟩
 ·have:=T.ok.off g l (KW.1▸hl)
  exact ⟨fun q=>this.1 ((EY g l).2 q),fun q=>this.2 ((EY g l).1 q)⟩
 ·have:=T.ok.gr l (KW.2.1▸hl)
  exact ⟨KW.1▸this.1,fun g=>⟨fun q=>(this.2 g).1 ((EY g l).2 q),fun q=>(this.2 g).2 ((EY g l).1 q)⟩⟩
 ·have:w'.heap.size=w.heap.size:=by rw [gC];simp [World.setChan,World.at]
  rw [this];exact T.IB l (KW.2.1▸hl)
 ·obtain ⟨d,e⟩:=T.Ls g (KW.2.2.1▸hg)
  rw [MY g (by rintro rfl;rw [hr] at e;cases e) (by rintro rfl;rw [wj] at e;cases e)];exact ⟨d,e⟩
 ·have:w'.heap.size=w.heap.size:=by rw [gC];simp [World.setChan,World.at]
  rw [this];exact T.CG g x k' (hx.imp (EY g _).2 (EY g _).1)
 ·have yE:=hx.imp (EY g _).2 (EY g _).1
  obtain ⟨ob,h1,h2⟩:=T.mO g r yE
  exact ⟨ob,((Vu g).gz r yE).trans h1,h2⟩
 ·by_cases e1:j=h
  ·subst e1
   rw [M.one] at hy;obtain rfl:=some_inj hy
   rw [EC,O_];exact hRh
  ·by_cases e2:j=i
   ·subst e2
    rw [M.two] at hy;obtain rfl:=some_inj hy
    rw [vB,P_ _ _ e1,O_];exact hRi
   ·rw [M.rest j e1 e2] at hy
    rw [MY j e1 e2,P_ _ _ e1,P_ _ _ e2]
    exact (sj (hDo j e2).1 (hDo j e2).2 KW.1 KW.2.2.2.1 _ _ _ _).2 ((T.eD j y hy).rely (Vu j))
 ·rw [hsz] at hj
  rw [MY j (by omega) (by omega)];exact T.above j hj
 ·have hold:∃k',w.heap[p'.chan]?=some (.chan 0 #[] false k' k' false):=by
   by_cases e1:j=h
   ·subst e1;rw [EC] at e;exact Kf p' h' (.inr e)
   ·by_cases e2:j=i
    ·subst e2;rw [vB] at e;exact Kf p' h' (.inl e)
    ·rw [MY j e1 e2] at e;exact T.chans j p' h' e
  obtain ⟨k',fS⟩:=hold
  exact Ko _ _ fS
 ·have e1:j≠h:=by rintro rfl;rw [EC] at e;exact (uG p' h').2 e
  have e2:j≠i:=by rintro rfl;rw [vB] at e;exact (uG p' h').1 e
  rw [MY j e1 e2] at e
  obtain ⟨k',fS⟩:=T.shuts j p' h' e
  refine ⟨k', ?_⟩
  rw [uM,if_neg (fun ec=>by rw [ec,gv] at fS;cases fS)]
  exact fS
 ·by_cases e1:j=h
  ·subst e1
   rw [EC] at e
   rcases oE with ⟨h1,_⟩|⟨_,h2,_⟩
   ·exact h1
   ·rw [e] at h2;cases h2
  ·by_cases e2:j=i
   ·subst e2
    rw [vB] at e
    rcases oE with ⟨_,h2,_⟩|⟨h1,_⟩
    ·rw [e] at h2;cases h2
    ·exact h1
   ·rw [MY j e1 e2] at e
    exact absurd (some_inj (T.one j k' d' e)).symm e1
 ·rcases oE with ⟨rfl,_,h2⟩|⟨rfl,_,h2⟩
  ·obtain rfl:=some_inj hx
   rw [EC];exact h2
  ·obtain rfl:=some_inj hx
   rw [vB];exact h2
 ·have e1:(0:Nat)≠h:=by rintro rfl;rw [EC] at h1;exact Sq _ h1
  have e2:(0:Nat)≠i:=by rintro rfl;rw [vB] at h1;exact YJ _ h1
  rw [MY 0 e1 e2] at h1
  rw [P_ _ _ e1,P_ _ _ e2]
  exact T.awake h1 (ot _ _ h2)
end
def VZ (P:U') (Post:M'->J'->Prop) (gs:Array O') (w:J') (sl:Option (Nat × Nat)) (t:Trace) (h:Nat):Prop:=
 (∃m' ops,runT P (crowd gs w sl) h=(.next m',ops)/\Ends P Post m' (t++ops))\/(∃o w' ops,runT P (crowd gs w sl) h=(.ended o w',ops)/\∀wm sm,Good P Post (crowd gs wm sm) o w' (t++ops))
theorem turn (hA:∀g w,ae g w->g.status=.running) (uQ:∀g w,ae g w->∃m,Goes P true (RB C b o 0) (DW b o) (AtW1 P C b o ae Fin) m g w) (hc:h=0\/0<k) (T:aC P C b o ae Fin (some h) rel ρ q gs w t) (hr:ρ h=.self k d) (hi:gs[h]?=some a) (hrun:a.status=.running)
 (next:∀bZ fT q' dH w₁ sl' mC,aC P C b o ae Fin (some h) bZ fT q' dH w₁ mC->fT h=.self k d->dH.size=gs.size->dH[h]?=some a->(∀j,vS (ρ j) (fT j))->(sU ρ->bZ=rel/\sU fT)->Out (bS C) w w₁->VZ P Post dH w₁ sl' mC h):Ends P Post (crowd gs w sl) t:=by
 generalize MZ:meas ρ q gs.size=μ
 induction sf.apply μ generalizing rel ρ q gs w sl t with
 |intro μ _ AM=>
  have Ny:=T.pE hA (fun x y hx hy=>by
   obtain rfl:=eY T hx
   rw [hi] at hy
   obtain rfl:=some_inj hy
   exact awake_of (.inl hrun))
  obtain ⟨i,g,dr,sl',vH,hg,hst⟩:=crowd_pick (P:=P) (w:=w) (sl:=sl) Ny ⟨h,a,hi,hrun⟩
  have Td:=T.at dr
  have ye:Out (bS C) w (w.at dr):=Out.at _ w dr
  by_cases e:i=h
  ·subst e
   rcases next rel ρ q gs (w.at dr) sl' t Td hr rfl hi (fun j=>.rfl' _) (fun h=>⟨rfl,h⟩) ye with ⟨m',ops,h1,h2⟩|⟨o',w',ops,h1,h2⟩
   ·exact Ends.step (hst.trans h1) h2
   ·exact Ends.last (hst.trans h1) (h2 w sl)
  ·have lu:(ρ i).isSelf=false:=by
    cases hs:(ρ i).isSelf with
    |false=>rfl
    |true=>exact absurd (eY T hs) e
   rcases Td.Dn (sl:=sl') hA uQ (l9 Td hi hrun) vH lu hg (fun p home _ x y hx hy=>by
    obtain rfl:=eY T hx
    rw [hi] at hy
    obtain rfl:=some_inj hy
    exact offersAt_of_not_blocked (by rw [hrun];simp) _ _) with hm|⟨rfl,sk,_⟩
   ·obtain ⟨gs',w',ops,fT,q',who',bZ,k1,k2,k3,k4,k5,k6,k7,k8,k9,JU,kc⟩:=hm
    have FU:(ρ h).isSelf=true:=by rw [hr];rfl
    have oE:=k7 ⟨h,FU⟩
    subst oE
    refine Ends.step (hst.trans k1) ?_
    exact AM (meas fT q' gs'.size) (by rw [<-MZ,k2];exact k4) k3 (xY (k6 h) hr) (by rw [k8 h FU];exact hi) (fun r₁ iX rR dH w₁ ib mC j1 j2 j3 j4 j5 jc j6=>next r₁ iX rR dH w₁ ib mC j1 j2 (j3.trans k2) j4 (fun j=>(k6 j).trans (j5 j)) (fun h=>⟨(jc (kc h).2).1.trans (kc h).1,(jc (kc h).2).2⟩) ((ye.trans k5).trans j6)) rfl
   ·exact absurd sk (JF T hc hr hi)
def GD (w:J') (l:Loc):Prop:=(∃x j,l=.cell ⟨x,j,none⟩/\x<w.heap.size)\/∃r ob,l=.obj r/\w.heap[r]?=some ob/\vV ob=false
variable {S:Loc->Prop}
theorem aC.UK {n:Nat} {child:O'} {Q:Loc->Prop} {r:aX} (T:aC P C b o ae Fin (some h) rel ρ q gs w t) (hr:ρ h=.self (k+1) 0) (hi:gs[h]?=some a)
 (hS:∀l,S l->GD w l/\¬C.Sh l/\¬C.Gr l/\∀g,¬C.Pv g l) (hQ:∀l,Q l->GD w l/\¬C.Sh l/\¬C.Gr l/\∀g,¬C.Pv g l/\¬C.St g l)
 (aM:fx P (C.hire gs.size S Q) b o ae Fin gs.size r n child w) (ZF:r.count=1) (hdd:r.dd=0) (UD:r.isLast=false) (su:r.isSelf=false) (QW:r.loose=true) (uG:∀p h',r≠.shut p h')
 (kD:∀p' h',r=.seat p' h'->(∃k',w.heap[p'.chan]?=some (.chan 0 #[] false k' k' false))/\∀j p SL,ρ j=.seat p SL->p.chan=p'.chan->p.out=p'.out) (fh:w_) (pos:String) (fc:w_):
 aC P (C.hire gs.size S Q) b o ae Fin (some h) rel (upd (upd ρ h (.self k 0)) gs.size r) (upd q gs.size n) ((gs.setIfInBounds h a').push child) w (t++#[{g:=h,fn:=fh,pos:=pos,act:=.go gs.size},{g:=gs.size,fn:=fc,pos:=pos,act:=.start}]):=by
 have hlt:h<gs.size:=(cI hi)
 have hne:h≠gs.size:=by omega
 have hsz:((gs.setIfInBounds h a').push child).size=gs.size+1:=by simp
 have om:ρ gs.size=.none:=T.above _ (C_ _)
 have Dx:gs.size≠0:=by have:=T.cX;omega
 have zN:upd (upd ρ h (.self k 0)) gs.size r h=.self k 0:=by rw [P_ _ _ hne,O_]
 have BC:upd (upd ρ h (.self k 0)) gs.size r gs.size=r:=O_ _ _ _
 have uW:∀j,j≠h->j≠gs.size->upd (upd ρ h (.self k 0)) gs.size r j=ρ j:=fun j h1 h2=>by rw [P_ _ _ h2,P_ _ _ h1]
 have sX:r≠.none:=by rintro rfl;exact aM
 have b9:C.on:=T.jw (i:=h) (by rw [hr];exact Nat.succ_ne_zero k)
 have mem:∀l,GD w l->l.isMemory=true:=by rintro l (⟨x,j,rfl,_⟩|⟨r,ob,rfl,_⟩)<;>rfl
 have AV:=T.tr.hire (h:=h) (S:=S) (Q:=Q) (K':=Knows (t++#[{g:=h,fn:=fh,pos:=pos,act:=.go gs.size},{g:=gs.size,fn:=fc,pos:=pos,act:=.start}]) h) (fun i hi=>hi) hlt (T.fX (by rw [hr];simp)) (by rw [hr];rfl) (by rw [om];rfl) (fun g l hg=>T.old g l hg) (fun l hl=>⟨mem l (hS l hl).1,(hS l hl).2⟩) (fun l hl=>⟨mem l (hQ l hl).1,(hQ l hl).2⟩) fh pos fc (fun _ h _=>h)
 have jW:cnt (upd (upd ρ h (.self k 0)) gs.size r) (gs.size+1)=cnt ρ gs.size:=by
  have e1:=kL (ρ:=ρ) (.self k 0) hlt
  rw [hr] at e1
  have e2:cnt (upd (upd ρ h (.self k 0)) gs.size r) (gs.size+1)=cnt (upd ρ h (.self k 0)) gs.size+r.count:=by
   show sumTo gs.size _+_=_
   simp only [BC]
   congr 1
   exact sumTo_congr fun j hj=>by rw [P_ _ _ (by omega)]
  simp only [aX.count] at e1
  omega
 have e0:∀s,ρ 0=.wait s->upd (upd ρ h (.self k 0)) gs.size r 0=.wait s:=fun s hs=>by
  rw [uW 0 (by rintro rfl;rw [hr] at hs;cases hs) (ru Dx)];exact hs
 have xD:∀j,(upd (upd ρ h (.self k 0)) gs.size r j).isLast=(ρ j).isLast:=fun j=>by
  by_cases e1:j=h
  ·subst e1;rw [zN,hr];rfl
  ·by_cases e2:j=gs.size
   ·subst e2;rw [BC,UD,om];rfl
   ·rw [uW j e1 e2]
 have my:dy b o (upd (upd ρ h (.self k 0)) gs.size r) (gs.size+1) w:=by
  have hw:=T.wg b9
  unfold dy at hw ⊢
  by_cases M1:∃s,ρ 0=.wait s
  ·obtain ⟨s,hs⟩:=M1
   rw [e0 s hs]
   rw [hs] at hw
   cases s with
   |w3=>
    simp only [jW,xD] at hw ⊢
    rcases hw with hw|⟨cf,i,wh,CK⟩
    ·exact .inl hw
    ·refine .inr ⟨cf,i,wh, ?_⟩
     have ml:(ρ i).isLast=true:=by rcases CK with ⟨h|h,_⟩|⟨h,_⟩<;>rw [h]<;>rfl
     have i1:i≠h:=by rintro rfl;rw [hr] at ml;cases ml
     have i2:i≠gs.size:=by rintro rfl;rw [om] at ml;cases ml
     rw [uW i i1 i2];exact CK
   |_=>simp only [jW,xD] at hw ⊢;exact hw
  ·have n1:∀s,ρ 0≠.wait s:=fun s hs=>M1 ⟨s,hs⟩
   have n2:∀s,upd (upd ρ h (.self k 0)) gs.size r 0≠.wait s:=fun s hs=>by
    by_cases e1:(0:Nat)=h
    ·subst e1;rw [zN] at hs;cases hs
    ·rw [uW 0 e1 (ru Dx)] at hs;exact n1 s hs
   have gC:(∀j,(ρ j).isLast=false)/\cx b o w (cnt ρ gs.size * KK) 0:=by
    cases hz:ρ 0 with
    |wait s=>exact absurd hz (n1 s)
    |_=>rw [hz] at hw;exact hw
   cases hz:upd (upd ρ h (.self k 0)) gs.size r 0 with
   |wait s=>exact absurd hz (n2 s)
   |_=>simp only [jW,xD];exact gC
 refine ⟨⟨fun g g' l hp Iw=> ?_,fun g l hs=> ?_,fun l hl=> ?_⟩,T.ad,T.yk,T.IB,fun g hg=> ?_,fun g l hg=> ?_,fun g l hg=> ?_,fun g x j hg=> ?_,fun g x hg=> ?_, ?_,fun j y hy=> ?_,fun j hj=> ?_,fun j p' h' e=> ?_,fun j l p p' h₁ iN e1 e2 hch=> ?_,fun j p' h' e=> ?_,fun j k' d' e=> ?_,fun x hx=> ?_,by rw [hsz,jW];exact T.few,by rw [hsz];exact fun _=>my,fun c=>absurd b9 c,by rw [hsz];omega,fun h1 h2=> ?_⟩
 ·rcases hp with hp|⟨rfl,hp⟩
  ·refine ⟨?_, ?_⟩
   ·rintro (h1|⟨rfl,h1⟩)
    ·exact (T.ok.apart g g' l hp Iw).1 h1
    ·exact ((hQ l h1).2.2.2 g).1 hp
   ·rintro (h1|⟨rfl,h1⟩)
    ·exact (T.ok.apart g g' l hp Iw).2 h1
    ·exact (hS l h1).2.2.2 g hp
  ·refine ⟨?_, ?_⟩
   ·rintro (h1|⟨rfl,_⟩)
    ·exact ((hQ l hp).2.2.2 g').1 h1
    ·exact Iw rfl
   ·rintro (h1|⟨rfl,_⟩)
    ·exact ((hQ l hp).2.2.2 g').2 h1
    ·exact Iw rfl
 ·refine ⟨?_, ?_⟩
  ·rintro (h1|⟨_,h1⟩)
   ·exact (T.ok.off g l hs).1 h1
   ·exact (hQ l h1).2.1 hs
  ·rintro (h1|⟨_,h1⟩)
   ·exact (T.ok.off g l hs).2 h1
   ·exact (hS l h1).2.1 hs
 ·refine ⟨(T.ok.gr l hl).1,fun g=>⟨?_, ?_⟩⟩
  ·rintro (h1|⟨_,h1⟩)
   ·exact ((T.ok.gr l hl).2 g).1 h1
   ·exact (hQ l h1).2.2.1 hl
  ·rintro (h1|⟨_,h1⟩)
   ·exact ((T.ok.gr l hl).2 g).2 h1
   ·exact (hS l h1).2.2.1 hl
 ·obtain ⟨d,e⟩:=T.Ls g hg
  rw [uW g (by rintro rfl;rw [hr] at e;cases e) (by rintro rfl;rw [om] at e;cases e)];exact ⟨d,e⟩
 ·rw [hsz]
  rcases hg with (hg|⟨rfl,_⟩)|(hg|⟨rfl,_⟩)
  ·have:=T.old g l (.inl hg);omega
  ·omega
  ·have:=T.old g l (.inr hg);omega
  ·omega
 ·rcases hg with (hg|⟨_,hg⟩)|(hg|⟨_,hg⟩)
  ·exact T.plain g l (.inl hg)
  ·rcases (hS l hg).1 with ⟨x,j,e,_⟩|⟨r,ob,e,_⟩
   ·exact .inl ⟨x,j,e⟩
   ·exact .inr ⟨r,e⟩
  ·exact T.plain g l (.inr hg)
  ·rcases (hQ l hg).1 with ⟨x,j,e,_⟩|⟨r,ob,e,_⟩
   ·exact .inl ⟨x,j,e⟩
   ·exact .inr ⟨r,e⟩
 ·rcases hg with (hg|⟨_,hg⟩)|(hg|⟨_,hg⟩)
  ·exact T.CG g x j (.inl hg)
  ·rcases (hQ _ hg).1 with ⟨x',j',e,h1⟩|⟨r,ob,e,_⟩
   ·injection e with e;injection e with e;subst e;exact h1
   ·cases e
  ·exact T.CG g x j (.inr hg)
  ·rcases (hS _ hg).1 with ⟨x',j',e,h1⟩|⟨r,ob,e,_⟩
   ·injection e with e;injection e with e;subst e;exact h1
   ·cases e
 ·rcases hg with (hg|⟨_,hg⟩)|(hg|⟨_,hg⟩)
  ·exact T.mO g x (.inl hg)
  ·rcases (hQ _ hg).1 with ⟨x',j',e,_⟩|⟨r,ob,e,h1,h2⟩
   ·cases e
   ·injection e with e;subst e;exact ⟨ob,h1,h2⟩
  ·exact T.mO g x (.inr hg)
  ·rcases (hS _ hg).1 with ⟨x',j',e,_⟩|⟨r,ob,e,h1,h2⟩
   ·cases e
   ·injection e with e;subst e;exact ⟨ob,h1,h2⟩
 ·rw [hsz]
  have e1:(fun j=>(upd (upd ρ h (.self k 0)) gs.size r j).dd)=fun j=>(ρ j).dd:=by
   funext j
   by_cases e1:j=h
   ·subst e1;rw [zN,hr];rfl
   ·by_cases e2:j=gs.size
    ·subst e2;rw [BC,hdd,om];rfl
    ·rw [uW j e1 e2]
  rw [e1]
  refine AV.n9 (fun p hp=>.inl hp) (fun z a ha hm hs _=>⟨fun hk=>.inl hk,fun g hg hl=>.inr (hl.imp (fun hl'=> ?_) id)⟩)
  clear hl hg
  rcases hl' with zp|WB
  ·have h1:g≠h:=fun e=>by rw [e,hr] at zp;cases zp
   have h2:g≠gs.size:=fun e=>by rw [e,om] at zp;cases zp
   rw [uW g h1 h2];exact zp
  ·rw [WB,BC];exact QW
 ·by_cases e2:j=gs.size
  ·subst e2
   have:((gs.setIfInBounds h a').push child)[gs.size]?=some child:=by
    rw [show gs.size=(gs.setIfInBounds h a').size by simp];exact Array.getElem?_push_size
   rw [this] at hy
   obtain rfl:=some_inj hy
   rw [BC,O_];exact aM
  ·rw [Array.getElem?_push,if_neg (by simpa using e2)] at hy
   by_cases e1:j=h
   ·subst e1;rw [zN];trivial
   ·rw [I_ (ru e1)] at hy
    rw [uW j e1 e2,P_ _ _ e2]
    refine (sj (C:=C) (C':=C.hire gs.size S Q) (fun l=> ?_) (fun l=> ?_) rfl rfl _ _ _ _).2 (T.eD j y hy)
    ·exact ⟨fun h=>h.elim id fun h=>absurd h.1 e2,.inl⟩
    ·exact ⟨fun h=>h.elim id fun h=>absurd h.1 e2,.inl⟩
 ·rw [hsz] at hj
  rw [uW j (by omega) (by omega)];exact T.above j (by omega)
 ·by_cases e1:j=h
  ·subst e1;rw [zN] at e;cases e
  ·by_cases e2:j=gs.size
   ·subst e2;rw [BC] at e;exact (kD p' h' e).1
   ·rw [uW j e1 e2] at e;exact T.chans j p' h' e
 ·have of:∀j p h₁,upd (upd ρ h (.self k 0)) gs.size r j=.seat p h₁->(j=gs.size/\r=.seat p h₁)\/ρ j=.seat p h₁:=fun j p h₁ e=>by
   by_cases e1:j=h
   ·subst e1;rw [zN] at e;cases e
   ·by_cases e2:j=gs.size
    ·subst e2;rw [BC] at e;exact .inl ⟨rfl,e⟩
    ·rw [uW j e1 e2] at e;exact .inr e
  rcases of j p h₁ e1 with ⟨_,a1⟩|a1<;>rcases of l p' iN e2 with ⟨_,a2⟩|a2
  ·rw [a1] at a2;injection a2 with a2;rw [a2]
  ·exact ((kD p h₁ a1).2 l p' iN a2 hch.symm).symm
  ·exact (kD p' iN a2).2 j p h₁ a1 hch
  ·exact T.apart j l p p' h₁ iN a1 a2 hch
 ·by_cases e1:j=h
  ·subst e1;rw [zN] at e;cases e
  ·by_cases e2:j=gs.size
   ·subst e2;rw [BC] at e;exact absurd e (uG p' h')
   ·rw [uW j e1 e2] at e;exact T.shuts j p' h' e
 ·by_cases e1:j=h
  ·subst e1;rfl
  ·by_cases e2:j=gs.size
   ·subst e2;rw [BC] at e;rw [e] at su;cases su
   ·rw [uW j e1 e2] at e;exact T.one j _ _ e
 ·obtain rfl:=some_inj hx
  rw [zN];exact .inr (.inl rfl)
 ·have e1:(0:Nat)≠h:=by rintro rfl;rw [zN] at h1;cases h1
  rw [uW 0 e1 (ru Dx)] at h1
  rw [P_ _ _ (ru Dx)]
  exact T.awake h1 h2
theorem uz {n:Nat} (hc:cnt ρ n=0) (hj:j<n):(ρ j).count=0:=by
 have:=le_sumTo (f:=fun i=>(ρ i).count) hj
 unfold cnt at hc
 omega
theorem aC.LF (T:aC P C b o ae Fin who rel ρ q gs w t) (hA:∀g w,ae g w->g.status=.running) (lu:∀x,(ρ x).isSelf=false) (hr:ρ 0=.wait .w6) (hi:gs[0]?=some a) (hgo:stepG P true a w=.go a' w #[mh (.acquire ⟨b,o,none⟩)]):
 ∃q',aC P C b o ae Fin (some 0) (fun _=>False) (upd ρ 0 (.self 0 0)) q' ((gs.map (woken P a a' w)).setIfInBounds 0 a') w (t++cC 0 a.frame.fn a.frame.place #[mh (.acquire ⟨b,o,none⟩)])/\∀j,j≠0->q' j=q j:=by
 have hlt:=T.cX
 have b9:C.on:=T.jw (i:=0) (by rw [hr];exact id)
 have hw:=T.wg b9
 unfold dy at hw
 rw [hr] at hw
 obtain ⟨hl,hc,hw⟩:=hw
 have jW:cnt (upd ρ 0 (.self 0 0)) gs.size=cnt ρ gs.size:=js hlt (by rw [hr];rfl)
 have OM:∀j,ρ j≠.wait .w3:=fun j e=>by
  by_cases hj:j<gs.size
  ·have aM:=T.eD j _ (H_ hj)
   rw [e] at aM
   obtain ⟨rfl,_⟩:=aM
   rw [hr] at e;cases e
  ·rw [T.above j (by omega)] at e;cases e
 obtain ⟨q',T',_,h2⟩:=T.step hA (a:=a) (a':=a') (g':=a') (r':=.self 0 0) (n':=0) (who':=some 0) (bZ:=fun _=>False) (u:=cC 0 a.frame.fn a.frame.place #[mh (.acquire ⟨b,o,none⟩)]) hi (fun j _=>RB.refl j w) (C_ _) (fun r ob h _ _=>h) (T.mO 0) (fun p h' e=>by cases e) (fun p h' e=>by cases e)
  (fun j k' d' e=>by
   by_cases e1:j=0
   ·subst e1;rfl
   ·rw [P_ _ _ e1] at e
    have:=lu j
    rw [e] at this;cases this) (fun x hx=>.inl (some_inj hx).symm) trivial
  (by
   have e1:(fun j=>(upd ρ 0 (.self 0 0) j).dd)=fun j=>(ρ j).dd:=by
    funext j
    by_cases e:j=0
    ·subst e;rw [O_,hr];rfl
    ·rw [P_ _ _ e]
   rw [pN (by rw [hr];rfl),e1]
   refine T.tr.acquire (fun i hi=> ?_) (by rw [hr];rfl) a.frame.fn a.frame.place (by rw [ofEvents_one,T.ad];rfl)
   cases Sq:who with
   |none=>rw [Sq] at hi;exact .inr hi
   |some x=>
    rw [Sq] at hi
    rcases T.holder x Sq with rfl|h1|h1
    ·exact .inl hi
    ·rw [lu x] at h1;cases h1
    ·by_cases hx:x<gs.size
     ·have:=uz hc hx
      rw [h1] at this;cases this
     ·rw [T.above x (by omega)] at h1;cases h1)
  (by
   intro _
   unfold dy
   rw [O_]
   exact ⟨rW hl rfl,by rw [jW,hc];simpa using hw⟩) (fun _=>rfl) (fun hd=>absurd hd (T.fX (by rw [hr];simp))) (by rw [jW];exact T.few) (fun h=>absurd rfl h) (fun _ e=>by cases e)
 exact ⟨q',T',fun j hj=>h2 j hj (OM j)⟩
theorem join (hA:∀g w,ae g w->g.status=.running) (uQ:∀g w,ae g w->∃m,Goes P true (RB C b o 0) (DW b o) (AtW1 P C b o ae Fin) m g w) (T:aC P C b o ae Fin who rel ρ q gs w t) {s:Tag} (hr:ρ 0=.wait s) (hl:∀j,j≠0->(ρ j).leaving=true\/ρ j=.none)
 (next:∀fT q' gs' a' w' sl' t',aC P C b o ae Fin (some 0) (fun _=>False) fT q' gs' w' t'->fT 0=.self 0 0->gs'.size=gs.size->gs'[0]?=some a'->Fin a' w'->Out (bS C) w w'->(∀j,j≠0->(∃d,fT j=.quit d)\/fT j=.none)->Ends P Post (crowd gs' w' sl') t'):Ends P Post (crowd gs w sl) t:=by
 generalize MZ:meas ρ q gs.size=μ
 induction sf.apply μ generalizing who rel ρ q gs w sl t s with
 |intro μ _ AM=>
  have lu:∀x,(ρ x).isSelf=false:=fun x=>by
   by_cases e:x=0
   ·subst e;rw [hr];rfl
   ·rcases hl x e with h|h
    ·cases hx:ρ x<;>rw [hx] at h<;>first|rfl|(cases h;done)
    ·rw [h];rfl
  have Ny:=T.pE hA (fun x y hx _=>by rw [lu x] at hx;cases hx)
  have hsome:∃(i:Nat) (g:O'),gs[i]?=some g/\g.status=.running:=by
   by_cases hq:∃j,j≠0/\(ρ j).leaving=true/\∀d,ρ j≠.quit d
   ·obtain ⟨j,Nn,hj,hjq⟩:=hq
    have Nl:j<gs.size:=by
     rcases Nat.lt_or_ge j gs.size with h|h
     ·exact h
     ·rw [T.above j h] at hj;cases hj
    refine ⟨j,_,H_ Nl, ?_⟩
    have aM:=T.eD j _ (H_ Nl)
    cases hx:ρ j with
    |quit d=>exact absurd hx (hjq d)
    |self k d=>rw [hx] at hj;cases hj
    |seat p home=>rw [hx] at hj;cases hj
    |wait s=>rw [hx] at hj;cases hj
    |none=>rw [hx] at hj;cases hj
    |shut p home=>rw [hx] at aM;exact aM.2.2.2.running (fun _ _ x=>x.choose_spec.1.1) w (RB.refl j w)
    |done=>rw [hx] at aM;exact aM.2.running (fun _ _ x=>x.1) w (RB.refl j w)
    |rel=>rw [hx] at aM;exact aM.2.running (fun _ _ x=>x.1) w (RB.refl j w)
    |deaf=>rw [hx] at aM;exact aM.2.running (fun _ _ x=>x.1) w (RB.refl j w)
    |ky=>rw [hx] at aM;exact aM.2.running (fun _ _ x=>x.1) w (RB.refl j w)
    |kx=>rw [hx] at aM;exact aM.2.running (fun _ _ x=>x.1) w (RB.refl j w)
    |ku=>rw [hx] at aM;exact aM.2.running (fun _ _ x=>x.1) w (RB.refl j w)
   ·have Sw:∀j,j≠0->(∃d,ρ j=.quit d)\/ρ j=.none:=fun j hj=>by
     rcases hl j hj with h|h
     ·left
      cases hx:ρ j with
      |quit d=>exact ⟨d,rfl⟩
      |_=>exact absurd ⟨j,hj,h,fun d=>by rw [hx];simp⟩ hq
     ·exact .inr h
    obtain ⟨y,hy⟩:∃y,gs[0]?=some y:=⟨_,H_ T.cX⟩
    refine ⟨0,y,hy, ?_⟩
    have aM:=T.eD 0 y hy
    rw [hr] at aM
    rcases aM.status hA rfl with h|h|⟨_,h0,h⟩
    ·exact h
    ·exfalso
     cases s with
     |w3=>
      rcases aM.2 with ⟨k',_,hg⟩|⟨_,dN,_,rfl,_⟩
      ·have:=hg.running (fun _ _ x=>x.1) w (RB.refl 0 w);rw [h] at this;cases this
      ·cases h
     |IQ=>have:=Goes.running hA w (RB.refl 0 w) aM.2;rw [h] at this;cases this
     |w2 v=>have:=Goes.running (fun _ _ x=>x.1) w (RB.refl 0 w) aM.2.2;rw [h] at this;cases this
     |w0=>have:=Goes.running (fun _ _ x=>x.1) w (RB.refl 0 w) aM.2;rw [h] at this;cases this
     |w1=>have:=Goes.running (fun _ _ x=>x.1) w (RB.refl 0 w) aM.2;rw [h] at this;cases this
     |w4=>have:=Goes.running (fun _ _ x=>x.1) w (RB.refl 0 w) aM.2;rw [h] at this;cases this
     |w5=>have:=Goes.running (fun _ _ x=>x.1) w (RB.refl 0 w) aM.2;rw [h] at this;cases this
     |w6=>have:=Goes.running (fun _ _ x=>x.1) w (RB.refl 0 w) aM.2;rw [h] at this;cases this
    ·rcases h with ⟨p,home,h⟩|h
     ·cases h
     ·injection h with h
      subst h
      have WI:cnt ρ gs.size=0:=by
       have:∀n,cnt ρ n=0:=fun n=>by
        induction n with
        |zero=>rfl
        |succ n ih=>
         show cnt ρ n+_=0
         rw [ih];show 0+(ρ n).count=0
         by_cases e:n=0
         ·subst e;rw [hr];rfl
         ·rcases Sw n e with ⟨d,h⟩|h<;>rw [h]<;>rfl
       exact this _
      have hw:=T.wg (T.jw (i:=0) (by rw [hr];exact id))
      unfold dy at hw
      rw [hr] at hw
      rcases hw with ⟨_,⟨h1,_⟩|⟨_,h1⟩⟩|⟨_,i,_,h1⟩
      ·omega
      ·have:=T.awake hr h1;omega
      ·have ml:(ρ i).isLast=true:=by rcases h1 with ⟨h|h,_⟩|⟨h,_⟩<;>rw [h]<;>rfl
       by_cases e:i=0
       ·subst e;rw [hr] at ml;cases ml
       ·rcases Sw i e with ⟨d,h⟩|h<;>rw [h] at ml<;>cases ml
  obtain ⟨i,g,dr,sl',vH,hg,hst⟩:=crowd_pick (P:=P) (w:=w) (sl:=sl) Ny hsome
  have Td:=T.at dr
  have ye:Out (bS C) w (w.at dr):=Out.at _ w dr
  rcases Td.Dn (sl:=sl') hA uQ (fun x y hx _=>by rw [lu x] at hx;cases hx) vH (lu i) hg (fun p home _ x y hx _=>by rw [lu x] at hx;cases hx) with hm|⟨rfl,sk,fH⟩
  ·obtain ⟨gs',w',ops,fT,q',who',bZ,k1,k2,k3,k4,k5,k6,k7,k8,k9,JU,_⟩:=hm
   refine Ends.step (hst.trans k1) ?_
   obtain ⟨s',sX⟩:∃s',fT 0=.wait s':=by
    rcases k6 0 with h|⟨h,_⟩|⟨_,s',_,h⟩
    ·exact ⟨s,h.trans hr⟩
    ·rw [hr] at h;cases h
    ·exact ⟨s',h⟩
   refine AM (meas fT q' gs'.size) (by rw [<-MZ,k2];exact k4) k3 sX (fun j hj=> ?_) (fun iX rR dH a₁ w₁ ib mC j1 j2 j3 j4 j5 j6 j7=>next iX rR dH a₁ w₁ ib mC j1 j2 (j3.trans k2) j4 j5 ((ye.trans k5).trans j6) j7) rfl
   rcases k6 j with h|⟨_,h⟩|⟨aDp,aDo,h,_⟩
   ·rw [h];exact hl j hj
   ·exact .inl h
   ·rcases hl j hj with h'|h'<;>rw [h] at h'<;>cases h'
  ·obtain ⟨_,a',hgo,lI⟩:=fH
   obtain ⟨q',T',_⟩:=Td.LF hA lu sk vH hgo
   have hw:=T.wg (T.jw (i:=0) (by rw [sk];exact id))
   unfold dy at hw
   rw [sk] at hw
   obtain ⟨rp,WI,_⟩:=hw
   refine Ends.step (hst.trans (runT_crowd_go (sl:=sl') vH hgo)) ?_
   refine next _ q' _ a' _ sl' _ T' (O_ _ _ _) (by simp) (by simp [T.cX]) lI ye (fun j hj=> ?_)
   rw [P_ _ _ hj]
   rcases hl j hj with h|h
   ·left
    have Nl:j<gs.size:=by
     rcases Nat.lt_or_ge j gs.size with h'|h'
     ·exact h'
     ·rw [T.above j h'] at h;cases h
    have KE:=uz WI Nl
    have uK:=rp j
    cases hx:ρ j with
    |quit d=>exact ⟨d,rfl⟩
    |_=>first|(rw [hx] at h;cases h;done)|(rw [hx] at KE;cases KE;done)|(rw [hx] at uK;cases uK;done)
   ·exact .inr h
theorem aC.good (T:aC P C b o ae Fin (some 0) (fun _=>False) ρ q gs w t) (hr:ρ 0=.self k 0) (hq:∀j,j≠0->(∃d,ρ j=.quit d)\/ρ j=.none) {v:M'} (fn:w_) (pos:String) (hes:∀e∈es,EvM (bS C) (fy C) w.heap.size e)
 (heo:∀e∈es,∀r,e.loc=.obj r->∀g,¬C.Pv g (.obj r)/\(C.St g (.obj r)->e.write=false)) (xz:Post v w) (wm:J') (sm:Option (Nat × Nat)):Good P Post (crowd gs wm sm) (.done v) w (t++cC 0 fn pos es):=by
 have hu:=zU hr
 have AV:=T.jS (i:=0) (r':=.self k 0) (es:=es) (H:=True) fn pos (by rw [hr]) (by rw [hr];exact deafBehind_still (fun e he=>Dc (hes e he)) _) (fun j e he=>AA T (hes e (l_ he)) (heo e (l_ he)) _ _ _) (fun _=>rfl)
 rw [hu] at AV
 have rp:∀g,¬(ρ g).loose=true:=fun g hg=>by
  by_cases e:g=0
  ·subst e;rw [hr] at hg;cases hg
  ·rcases hq g e with ⟨d,h⟩|h<;>rw [h] at hg<;>cases hg
 have FX:∀i g,gs[i]?=some g->i≠0->∃n d,ρ i=.quit d/\QuitsD P n d g:=fun i g hg hi=>by
  have aM:=T.eD i g hg
  rcases hq i hi with ⟨d,h⟩|h
  ·rw [h] at aM;exact ⟨_,d,h,aM.2⟩
  ·rw [h] at aM;exact aM.elim
 refine ⟨v,rfl,xz,AV.clean,AV.handed T.cX (T.fX (by rw [hr];simp)) rp (fun _ h=>h),⟨fun g hg=> ?_,rfl⟩,fun i g hg hi=> ?_⟩
 ·obtain ⟨j,hj⟩:=List.mem_iff_getElem?.1 hg
  rw [List.getElem?_drop] at hj
  obtain ⟨n,d,_,h⟩:=FX (1+j) g (by simpa [crowd] using hj) (by omega)
  exact ⟨n,h.leaves⟩
 ·obtain ⟨n,d,h1,h⟩:=FX i g hg hi
  refine ⟨n, ?_⟩
  have:=AV.deaf i
  rw [h1] at this
  rw [show (t++cC 0 fn pos es).deaf i (t++cC 0 fn pos es).size=d from this]
  exact h.hears _
theorem aC.word (T:aC P C b o ae Fin (some 0) rel ρ q gs w t) (b9:C.on) (hA:∀g w,ae g w->g.status=.running) (hr:ρ 0=.self k d) (hi:gs[0]?=some a) {d':Nat} (hd:deafBehind d es=d')
 (hes:∀e∈es,e=mh .disable\/e=mh .enable\/e=mh (.read ⟨b,o+1,none⟩)):
 ∃q',aC P C b o ae Fin (some 0) rel (upd ρ 0 (.self k d')) q' ((gs.map (woken P a a' w)).setIfInBounds 0 a') w (t++cC 0 a.frame.fn a.frame.place es)/\∀j,j≠0->ρ j≠.wait .w3->q' j=q j:=by
 have hlt:=T.cX
 obtain ⟨q',T',_,h2⟩:=T.step hA (a:=a) (a':=a') (g':=a') (r':=.self k d') (n':=0) (who':=some 0) (bZ:=rel) (u:=cC 0 a.frame.fn a.frame.place es) hi (fun j _=>RB.refl j w) (C_ _) (fun r ob h _ _=>h) (T.mO 0) (fun p h' e=>by cases e) (fun p h' e=>by cases e)
  (fun j k' d'' e=>by
   by_cases e1:j=0
   ·subst e1;rfl
   ·rw [P_ _ _ e1] at e;exact T.one j _ _ e) (fun x hx=>.inl (some_inj hx).symm) trivial
  (by
   refine T.jS (H:=True) _ _ (by rw [hr];rfl) (by rw [hr];exact hd) (fun j e he=> ?_) (fun _=>rfl)
   rcases hes e (l_ he) with rfl|rfl|rfl
   ·exact ⟨.mute rfl,by simp [mh]⟩
   ·exact ⟨.mute rfl,by simp [mh]⟩
   ·exact ⟨.book (b:=⟨.cell ⟨b,o+1,none⟩,false,.said⟩) rfl hlt (T.fX (by rw [hr];simp)) ((T.yk _).2 ⟨b9,.inr rfl⟩) (.inr ⟨rfl,rfl⟩),by simp [mh]⟩)
  (fun c=>(T.wg c).dG hlt (.inr fun s=>⟨by rw [hr];simp,by simp⟩) (by rw [hr];rfl) (by rw [hr];rfl) (.inr rfl)) (fun c=>absurd b9 c) (fun hd=>absurd hd (T.fX (by rw [hr];simp))) (by rw [js hlt (by rw [hr];rfl)];exact T.few) (fun h=>absurd rfl h) (fun _ e=>by cases e)
 exact ⟨q',T',h2⟩
theorem aC.DV (T:aC P C b o ae Fin who rel ρ q gs w t) (b9:C.on) (hr:ρ 0=.self k d):(∀j,(ρ j).isLast=false)/\cx b o w (cnt ρ gs.size * KK) 0:=by
 have:=T.wg b9
 unfold dy at this
 rw [hr] at this
 exact this
theorem aC.added (T:aC P C b o ae Fin (some 0) rel ρ q gs w t) (b9:C.on) (hA:∀g w,ae g w->g.status=.running) (hr:ρ 0=.self k d) (hi:gs[0]?=some a) (a':O') (hf:cnt ρ gs.size+1<2147483647):
 ∃q',aC P C b o ae Fin (some 0) rel (upd ρ 0 (.self (k+1) d)) q' ((gs.map (woken P a a' (w.setCell ⟨b,o,none⟩ (.int .u64 ((cnt ρ gs.size+1:Nat) * KK))))).setIfInBounds 0 a') (w.setCell ⟨b,o,none⟩ (.int .u64 ((cnt ρ gs.size+1:Nat) * KK))) (t++cC 0 a.frame.fn a.frame.place #[mF ⟨b,o,none⟩,vT ⟨b,o,none⟩])/\
  (∀j,j≠0->ρ j≠.wait .w3->q' j=q j)/\Out (bS C) w (w.setCell ⟨b,o,none⟩ (.int .u64 ((cnt ρ gs.size+1:Nat) * KK))):=by
 have hlt:=T.cX
 obtain ⟨hl,hw⟩:=T.DV b9 hr
 have gC:=hw.setSt ((cnt ρ gs.size+1:Nat) * KK)
 have jW:cnt (upd ρ 0 (.self (k+1) d)) gs.size=cnt ρ gs.size+1:=by
  have:=kL (ρ:=ρ) (.self (k+1) d) hlt
  rw [hr] at this
  simp only [aX.count] at this
  omega
 have Kp:∀r ob,w.heap[r]?=some ob->vV ob=false->(w.setCell ⟨b,o,none⟩ (.int .u64 ((cnt ρ gs.size+1:Nat) * KK))).heap[r]?=some ob:=fun r ob h1 h2=>mU h1 h2
 obtain ⟨q',T',_,h2⟩:=T.step hA (a:=a) (a':=a') (g':=a') (r':=.self (k+1) d) (n':=0) (who':=some 0) (bZ:=rel) (u:=cC 0 a.frame.fn a.frame.place #[mF ⟨b,o,none⟩,vT ⟨b,o,none⟩]) hi (fun j _=>T.tq b9 (.inl rfl) ⟨_,_,gC⟩ j) (by simp [World.setCell]) (fun r ob h1 h2 _=>Kp r ob h1 h2)
  (fun r hr=>by obtain ⟨ob,h1,h2⟩:=T.mO 0 r hr;exact ⟨ob,Kp r ob h1 h2,h2⟩) (fun p h' e=>by cases e) (fun p h' e=>by cases e)
  (fun j k' d'' e=>by
   by_cases e1:j=0
   ·subst e1;rfl
   ·rw [P_ _ _ e1] at e;exact T.one j _ _ e) (fun x hx=>.inl (some_inj hx).symm) trivial
  (by
   refine T.jS (H:=True) _ _ (by rw [hr];rfl) (by rw [hr];simp [deafBehind,aX.dd,mF,vT]) (fun j e he=> ?_) (fun _=>rfl)
   match j,he with
   |0,he=>
    obtain rfl:mF ⟨b,o,none⟩=e:=by simpa using he
    exact ⟨ji T b9 (T.fX (by rw [hr];simp)) hi (.inl rfl) false (.inl rfl) _ _ _,by simp [mF]⟩
   |1,he=>
    obtain rfl:vT ⟨b,o,none⟩=e:=by simpa using he
    exact ⟨ji T b9 (T.fX (by rw [hr];simp)) hi (.inl rfl) true (.inl rfl) _ _ _,by simp [vT]⟩
   |j+2,he=>simp at he)
  (by
   intro _
   unfold dy
   rw [O_]
   exact ⟨rW hl rfl,by rw [jW];exact gC⟩) (fun c=>absurd b9 c) (fun hd=>absurd hd (T.fX (by rw [hr];simp))) (by rw [jW];exact hf) (fun h=>absurd rfl h) (fun _ e=>by cases e)
 exact ⟨q',T',h2,(gH w b o _).mono (zc T b9 (.inl rfl))⟩
def bD (c:Nat):aX->aX
 | .seat p home=>if p.chan=c then .shut p home else .seat p home
 |r=>r
theorem vM {c:Nat} {r:aX} (h:∀p home,r=.seat p home->p.chan≠c):bD c r=r:=by
 cases r with
 |seat p home=>simp [bD,h p home rfl]
 |_=>rfl
theorem eG (c:Nat) (p:Port) (home:O'->J'->Prop):(bD c (.seat p home)=.shut p home/\p.chan=c)\/(bD c (.seat p home)=.seat p home/\p.chan≠c):=by
 by_cases h:p.chan=c
 ·exact .inl ⟨by simp [bD,h],h⟩
 ·exact .inr ⟨by simp [bD,h],h⟩
theorem iK (c:Nat) (r:aX):(bD c r).count=r.count/\(bD c r).dd=r.dd/\(bD c r).loose=r.loose/\(bD c r).isLast=r.isLast/\(bD c r).isSelf=r.isSelf:=by
 cases r with
 |seat p home=>rcases eG c p home with ⟨h,_⟩|⟨h,_⟩<;>rw [h]<;>exact ⟨rfl,rfl,rfl,rfl,rfl⟩
 |_=>exact ⟨rfl,rfl,rfl,rfl,rfl⟩
theorem aC.closed (T:aC P C b o ae Fin (some h) rel ρ q gs w t) (b9:C.on) (hA:∀g w,ae g w->g.status=.running) (hr:ρ h=.self k d) (hi:gs[h]?=some a) {c:Nat} (gv:w.heap[c]?=some (.chan 0 #[] false kk kk false)) (hno:∀g,¬C.St g (.obj c)/\¬C.Pv g (.obj c))
 (QP:mayWake P a=true) (xw:a'.status=.running)
 (KD:∀j p home,ρ j=.seat p home->p.chan=c->0<j/\∃z ok,p=.recv c z ok/\∀bp w,home bp w->∃m,Goes P false (RB C b o j) (DR C j) (AtR0 P C b o j) m (Go.Conc.served bp (recvd ok z false)) w):
 ∃q',aC P C b o ae Fin (some h) rel (fun j=>bD c (ρ j)) q' ((gs.map (woken P a a' (w.setChan c 0 #[] true kk kk false))).setIfInBounds h a') (w.setChan c 0 #[] true kk kk false) (t++cC h a.frame.fn a.frame.place (closeEvents c)):=by
 have hlt:h<gs.size:=(cI hi)
 generalize gC:w.setChan c 0 #[] true kk kk false=w'
 have fH:w.at w.drawn=w:=rfl
 have Vu:∀j,RB C b o j w w':=fun j=>by have:=(vW (b:=b) (o:=o) gv rfl hno w.drawn 0 #[] true kk kk false j).1;rw [fH,gC] at this;exact this
 have HO:∀s m,cx b o w s m->cx b o w' s m:=by have:=(vW (b:=b) (o:=o) gv rfl hno w.drawn 0 #[] true kk kk false 0).2;rw [fH,gC] at this;exact this
 have ot:∀s m,cx b o w' s m->cx b o w s m:=fun s m h=>by
  obtain ⟨S9,TI,h₀⟩:=(T.wg b9).live
  obtain ⟨rfl,rfl⟩:=(HO _ _ h₀).uniq h
  exact h₀
 have uM:∀x,w'.heap[x]?=if x=c then some (.chan 0 #[] true kk kk false) else w.heap[x]?:=fun x=>by rw [<-gC];exact heap_setChan gv _ _ _ _ _ _ x
 have vC:∀y:O',woken P a a' w' y=y.again w':=fun y=>by simp [woken,QP,xw]
 have jW:cnt (fun j=>bD c (ρ j)) gs.size=cnt ρ gs.size:=sumTo_congr fun j _=>(iK c (ρ j)).1
 have CJ:∀s,bD c (ρ 0)=.wait s↔ρ 0=.wait s:=fun s=>by
  cases hx:ρ 0 with
  |seat p home=>rcases eG c p home with ⟨h,_⟩|⟨h,_⟩<;>rw [h]<;>simp
  |_=>exact Iff.rfl
 have EK:∀j r,r.isLast=true->(bD c (ρ j)=r↔ρ j=r):=fun j r hl=>by
  cases hx:ρ j with
  |seat p home=>
   constructor
   ·intro e;rcases eG c p home with ⟨h,_⟩|⟨h,_⟩<;>rw [h] at e<;>subst e<;>cases hl
   ·intro e;subst e;cases hl
  |_=>exact Iff.rfl
 have hu:t++cC h a.frame.fn a.frame.place (closeEvents c)=(t++cC h a.frame.fn a.frame.place #[(⟨.obj c,false,true⟩:Event)])++#[{g:=h,fn:=a.frame.fn,pos:=a.frame.place,act:=.close c}]:=by
  rw [closeOps,ofEvents_one,Array.append_assoc];rfl
 have rq:c<w.heap.size:=(cI gv)
 have Qy:=T.jS (i:=h) (r':=.self k d) (es:=#[(⟨.obj c,false,true⟩:Event)]) (H:=True) a.frame.fn a.frame.place (by rw [hr]) (by rw [hr];rfl) (fun j e he=>by
  obtain rfl:e=⟨.obj c,false,true⟩:=by simpa using l_ he
  exact AA T (e:=⟨.obj c,false,true⟩) (top:=w.heap.size) ⟨rq,fun _=>rfl⟩ (fun r sX g=>by injection sX with sX;subst sX;exact ⟨(hno g).2,fun hs=>absurd hs (hno g).1⟩) _ _ _) (fun _=>rfl)
 rw [zU hr] at Qy
 have hq1:∀j,∀op∈(#[{g:=h,fn:=a.frame.fn,pos:=a.frame.place,act:=.close c}]:Array MemOp),∀d,deafStep j d op=d:=by
  intro j op hop d
  simp only [List.mem_toArray,R_,List.not_mem_nil,or_false] at hop
  subst hop;rfl
 have my:dy b o (fun j=>bD c (ρ j)) gs.size w':=by
  have hw:=T.wg b9
  unfold dy at hw ⊢
  have hl:∀j,(bD c (ρ j)).isLast=(ρ j).isLast:=fun j=>(iK c (ρ j)).2.2.2.1
  simp only [jW,hl]
  by_cases M1:∃s,ρ 0=.wait s
  ·obtain ⟨s,hs⟩:=M1
   rw [(CJ s).2 hs]
   rw [hs] at hw
   cases s with
   |w3=>
    simp only at hw ⊢
    rcases hw with ⟨h0,⟨h1,h⟩|⟨h1,h⟩⟩|⟨h0,i,h1,⟨h2,h⟩|⟨h2,h⟩⟩
    ·exact .inl ⟨h0,.inl ⟨h1,HO _ _ h⟩⟩
    ·exact .inl ⟨h0,.inr ⟨h1,HO _ _ h⟩⟩
    ·exact .inr ⟨h0,i,h1,.inl ⟨h2.imp (EK i .ky rfl).2 (EK i .kx rfl).2,HO _ _ h⟩⟩
    ·exact .inr ⟨h0,i,h1,.inr ⟨(EK i .ku rfl).2 h2,HO _ _ h⟩⟩
   |w4=>exact ⟨hw.1,hw.2.1,HO _ _ hw.2.2⟩
   |w5=>exact ⟨hw.1,hw.2.1,HO _ _ hw.2.2⟩
   |w6=>exact ⟨hw.1,hw.2.1,HO _ _ hw.2.2⟩
   |_=>exact ⟨hw.1,HO _ _ hw.2⟩
  ·have EE:(∀j,(ρ j).isLast=false)/\cx b o w (cnt ρ gs.size * KK) 0:=by
    cases hz:ρ 0 with
    |wait s=>exact absurd ⟨s,hz⟩ M1
    |_=>rw [hz] at hw;exact hw
   cases hz:bD c (ρ 0) with
   |wait s=>exact absurd ⟨s,(CJ s).1 hz⟩ M1
   |_=>exact ⟨EE.1,HO _ _ EE.2⟩
 have hsz:((gs.map (woken P a a' w')).setIfInBounds h a').size=gs.size:=by simp
 have EH:∀j p home,bD c (ρ j)=.seat p home->ρ j=.seat p home/\p.chan≠c:=fun j p home e=>by
  cases hx:ρ j with
  |seat p' pq=>
   rw [hx] at e
   rcases eG c p' pq with ⟨h,_⟩|⟨h,hn⟩
   ·rw [h] at e;cases e
   ·rw [h] at e;injection e with e1 e2;subst e1 e2;exact ⟨rfl,hn⟩
  |_=>rw [hx] at e;cases e
 have QD:∀j p home,bD c (ρ j)=.shut p home->ρ j=.shut p home\/(ρ j=.seat p home/\p.chan=c):=fun j p home e=>by
  cases hx:ρ j with
  |seat p' pq=>
   rw [hx] at e
   rcases eG c p' pq with ⟨h,hc⟩|⟨h,_⟩
   ·rw [h] at e;injection e with e1 e2;subst e1 e2;exact .inr ⟨rfl,hc⟩
   ·rw [h] at e;cases e
  |shut p' pq=>rw [hx] at e;exact .inl e
  |_=>rw [hx] at e;cases e
 have QE:∀j k' d',bD c (ρ j)=.self k' d'->ρ j=.self k' d':=fun j k' d' e=>by
  cases hx:ρ j with
  |seat p' pq=>rw [hx] at e;rcases eG c p' pq with ⟨h,_⟩|⟨h,_⟩<;>rw [h] at e<;>cases e
  |_=>rw [hx] at e;exact e
 refine ⟨fun j=>match ρ j with
  | .seat p _=>if p.chan=c then q j - 1 else q j
  | .wait .w3=>if q j=0 then 1 else q j
  |_=>q j,T.ok,T.ad,T.yk,fun l hl=> ?_,fun g hg=> ?_,by rw [hsz];exact T.old,T.plain,fun g x k' hx=> ?_,fun g r hx=> ?_, ?_,fun j y hy=> ?_,fun j hj=> ?_,fun j p home e=> ?_,fun j l p p' h₁ iN e1 e2 hch=> ?_,fun j p home e=> ?_,fun j k' d' e=>T.one j _ _ (QE j k' d' e),fun x hx=> ?_,by rw [hsz,jW];exact T.few,by rw [hsz];exact fun _=>my,fun c=>absurd b9 c,by rw [hsz];exact T.cX,fun h1 h2=> ?_⟩
 ·have:w'.heap.size=w.heap.size:=by rw [<-gC];simp [World.setChan]
  rw [this];exact T.IB l hl
 ·obtain ⟨d,e⟩:=T.Ls g hg
  exact ⟨d,by rw [e];rfl⟩
 ·have:w'.heap.size=w.heap.size:=by rw [<-gC];simp [World.setChan]
  rw [this];exact T.CG g x k' hx
 ·obtain ⟨ob,h1,h2⟩:=T.mO g r hx
  exact ⟨ob,((Vu g).gz r hx).trans h1,h2⟩
 ·rw [hsz]
  have e1:(fun j=>(bD c (ρ j)).loose=true)=fun j=>(ρ j).loose=true:=by funext j;rw [(iK c (ρ j)).2.2.1]
  have e2:(fun j=>(bD c (ρ j)).dd)=fun j=>(ρ j).dd:=by funext j;rw [(iK c (ρ j)).2.1]
  rw [e1,e2,hu]
  refine Qy.mute (fun op hop=> ?_) (fun i hi=>Acc.app (fun _ h=>h) hi) (fun j=>(Deaf_quiet (hq1 j)).trans (Qy.deaf j)) (fun op hop=> ?_)
  ·simp only [List.mem_toArray,R_,List.not_mem_nil,or_false] at hop
   subst hop;rfl
  ·simp only [List.mem_toArray,R_,List.not_mem_nil,or_false] at hop
   intro x;subst hop;simp
 ·by_cases e:j=h
  ·subst e
   rw [hr]
   trivial
  ·rw [I_ (ru e),Array.getElem?_map] at hy
   obtain ⟨BP,CI,rfl⟩:=Option.map_eq_some_iff.1 hy
   rw [vC]
   have aM:=T.eD j BP CI
   have oj:=aM.rely (Vu j)
   have lu:(ρ j).isSelf=false:=by
    cases hs:(ρ j).isSelf with
    |false=>rfl
    |true=>exact absurd (eY T hs) e
   cases hx:ρ j with
   |seat p home=>
    rw [hx] at oj
    rcases eG c p home with ⟨Vd,L6⟩|⟨Vd,L6⟩
    ·obtain ⟨Nn,z,ok,rfl,Q9⟩:=KD j p home hx L6
     rw [Vd]
     simp only [if_pos L6]
     refine ⟨Nn,oj.1,⟨_,z,ok,rfl,Q9⟩, ?_⟩
     have hb:=dh Nn
     rcases oj.2 with ⟨k',fS,hg⟩|⟨Y1,dN,bp,rfl,xH,hh⟩
     ·rw [hb] at hg
      rw [again_running _ (.inl (hg.running (fun _ _ x=>x.choose_spec.1.1) w' (RB.refl j w'))),fS]
      exact hg
     ·rw [hb] at xH
      have rq:w'.heap[c]?=some (.chan 0 #[] true kk kk false):=by rw [uM,if_pos rfl]
      have:(parked bp (Port.recv c z ok).cases (Port.recv c z ok).shape).again w'={parked bp (Port.recv c z ok).cases (Port.recv c z ok).shape with status:=.running}:=again_recv_closed rq
      rw [this]
      exact Goes.stop fun w₁ h₁=>⟨bp,⟨rfl,rfl,rfl,rfl,fun lZ=>by rw [<-xH.2.2.2.2 lZ];exact stepG_same xH.2.1.symm xH.2.2.1.symm xH.2.2.2.1.symm lZ⟩,oj.1 _ _ _ h₁ hh⟩
    ·rw [Vd]
     simp only [if_neg L6]
     have Ko:∃k',w'.heap[p.chan]?=some (.chan 0 #[] false k' k' false):=by
      obtain ⟨k',fS⟩:=T.chans j p home hx
      exact ⟨k',by rw [uM,if_neg L6];exact fS⟩
     have:BP.again w'=BP:=by
      rcases oj.2 with ⟨k',fS,hg⟩|⟨Y1,dN,bp,rfl,xH,hh⟩
      ·exact again_running _ (.inl (hg.running (fun _ _ x=>x.choose_spec.1.1) w' (RB.refl j w')))
      ·exact wQ Ko.choose_spec
     rw [this];exact oj
   |wait s=>
    rw [hx] at oj
    have KE:bD c (.wait s)=.wait s:=rfl
    rw [KE]
    obtain ⟨rfl,hW⟩:=oj
    cases s with
    |w3=>
     rcases hW with ⟨k',fS,hg⟩|⟨Y1,dN,h1,rfl,h2⟩
     ·rw [again_running _ (.inl (hg.running (fun _ _ x=>x.1) w' (RB.refl 0 w')))]
      simp only [if_neg (show ¬q 0=0 by omega)]
      exact ⟨rfl,.inl ⟨k',fS,hg⟩⟩
     ·have AX:=h1.2.1
      have e0:({dN with status:=.blocked}:O').again w'=dN:=by
       have h3:=h1.1
       cases dN;simp_all [Goroutine.again]
      rw [e0]
      simp only [Y1,if_true]
      exact ⟨rfl,.inl ⟨0,rfl,Goes.stop fun w₁ h₁=>h2 w₁ h₁⟩⟩
    |w2 v=>rw [again_running _ (.inl (Goes.running (fun _ _ x=>x.1) w' (RB.refl 0 w') hW.2))];exact ⟨rfl,hW⟩
    |IQ=>rw [again_running _ (.inl (Goes.running hA w' (RB.refl 0 w') hW))];exact ⟨rfl,hW⟩
    |w0=>rw [again_running _ (.inl (Goes.running (fun _ _ x=>x.1) w' (RB.refl 0 w') hW))];exact ⟨rfl,hW⟩
    |w1=>rw [again_running _ (.inl (Goes.running (fun _ _ x=>x.1) w' (RB.refl 0 w') hW))];exact ⟨rfl,hW⟩
    |w4=>rw [again_running _ (.inl (Goes.running (fun _ _ x=>x.1) w' (RB.refl 0 w') hW))];exact ⟨rfl,hW⟩
    |w5=>rw [again_running _ (.inl (Goes.running (fun _ _ x=>x.1) w' (RB.refl 0 w') hW))];exact ⟨rfl,hW⟩
    |w6=>rw [again_running _ (.inl (Goes.running (fun _ _ x=>x.1) w' (RB.refl 0 w') hW))];exact ⟨rfl,hW⟩
   |self k' d'=>rw [hx] at lu;cases lu
   |_=>
    all_goals
     rw [hx] at oj
     rcases oj.status hA (by rfl) with hs|hs|⟨_,_,⟨p,home,hs⟩|hs⟩
     ·rw [again_running _ (.inl hs)];exact oj
     ·rw [again_running _ (.inr hs)];exact oj
     ·cases hs
     ·cases hs
 ·rw [hsz] at hj
  rw [T.above j hj];rfl
 ·obtain ⟨e1,e2⟩:=EH j p home e
  obtain ⟨k',fS⟩:=T.chans j p home e1
  exact ⟨k',by rw [uM,if_neg e2];exact fS⟩
 ·exact T.apart j l p p' h₁ iN (EH j p h₁ e1).1 (EH l p' iN e2).1 hch
 ·rcases QD j p home e with e1|⟨_,e2⟩
  ·obtain ⟨k',fS⟩:=T.shuts j p home e1
   exact ⟨k',by rw [uM,if_neg (fun ec=>by rw [ec,gv] at fS;cases fS)];exact fS⟩
  ·exact ⟨kk,by rw [uM,if_pos e2]⟩
 ·obtain rfl:=some_inj hx
  exact .inr (.inl (by rw [hr];rfl))
 ·have HQ:=(CJ .w3).1 h1
  have:=T.awake HQ (ot _ _ h2)
  simp only [HQ]
  split<;>omega
def cS.empty (ad:Addr):cS:={St:=fun _ _=>False,Pv:=fun _ _=>False,Sh:=fun _=>False,Gr:=fun _=>False,Dd:=fun _=>False,on:=False,ad:=ad}
def BN (j:Nat):aX:=if j=0 then .self 0 0 else .none
theorem fK (h:j≠0):BN j=.none:=if_neg h
theorem M6:sU BN:=fun j=>by
 by_cases e:j=0
 ·subst e;exact .inr (.inr rfl)
 ·exact .inl (fK e)
theorem IY {dU rel:Nat->Prop} {n:Nat} {K:Nat->Prop} (hr:∀p,¬rel p):Tr C dU rel n (fun _=>0) K #[]:=by
 have no:∀{i:Nat} {a:Touch},touchAt (#[]:Trace) i=some a->False:=fun h=>by
  obtain ⟨x,hx,_⟩:=touch_of h
  simp at hx
 refine ⟨fun said=> ?_,fun i a h=>(no h).elim,fun i a h=>(no h).elim,fun i a h=>(no h).elim,fun i a g h=>(no h).elim,fun i a g h=>(no h).elim,fun g=>rfl,fun p hp=>absurd hp (hr p),fun op hop=>by simp at hop⟩
 rintro ⟨i,j,_,⟨a,b,h,_⟩,_⟩
 simp [Trace.act?] at h
theorem aC.start (P:U') (b o:Nat) (ae Fin:O'->J'->Prop) (a:O') (w:J'):aC P (cS.empty ⟨b,o,none⟩) b o ae Fin (some 0) (fun _=>False) BN (fun _=>0) #[a] w #[]:=by
 have dd0:(fun j=>(BN j).dd)=fun _=>0:=by
  funext j
  by_cases e:j=0
  ·subst e;rfl
  ·rw [fK e];rfl
 refine ⟨⟨fun _ _ _ h=>h.elim,fun _ _ h=>h.elim,fun _ h=>h.elim⟩,rfl,fun l=>⟨fun h=>h.elim,fun h=>h.1.elim⟩,fun _ h=>h.elim,fun _ h=>h.elim,fun _ _ h=>h.elim False.elim False.elim,fun _ _ h=>h.elim False.elim False.elim,fun _ _ _ h=>h.elim False.elim False.elim,fun _ _ h=>h.elim False.elim False.elim, ?_,fun i g hg=> ?_,fun i hi=> ?_,fun i p home e=> ?_,fun i j p p' h h' e e'=> ?_,fun i p home e=> ?_,fun i k d e=> ?_,fun x hx=>.inl (some_inj hx).symm, ?_,fun h=>h.elim,fun _ j=> ?_,by simp,fun e=> ?_⟩
 ·rw [dd0];exact IY fun _ h=>h
 ·have:i=0:=by
   have:=(cI hg)
   simp at this;exact this
  subst this;trivial
 ·simp at hi;exact fK (by omega)
 ·by_cases e':i=0
  ·subst e';cases e
  ·rw [fK e'] at e;cases e
 ·by_cases e'':i=0
  ·subst e'';cases e
  ·rw [fK e''] at e;cases e
 ·by_cases e':i=0
  ·subst e';cases e
  ·rw [fK e'] at e;cases e
 ·by_cases e':i=0
  ·subst e';rfl
  ·rw [fK e'] at e;cases e
 ·simp [cnt,sumTo,BN,aX.count]
 ·by_cases e:j=0
  ·subst e;exact rfl
  ·rw [fK e];trivial
 ·cases e
theorem aC.anew (T:aC P C b o ae Fin (some 0) (fun _=>False) ρ q gs w t) (hr:ρ 0=.self 0 0) (hc:sU ρ) (on:Prop) (b' o':Nat) (LR Sg:O'->J'->Prop)
 (hw:on->cx b' o' w 0 0/\∀k,k=o'\/k=o'+1->¬C.Sh (.cell ⟨b',k,none⟩)/\¬C.Gr (.cell ⟨b',k,none⟩)):
 aC P (C.anew gs.size (fun l=>on/\(l=.cell ⟨b',o',none⟩\/l=.cell ⟨b',o'+1,none⟩)) on ⟨b',o',none⟩) b' o' LR Sg (some 0) (fun _=>False) ρ q gs w t:=by
 have su:∀j,(ρ j).isSelf=true->j=0:=fun j hj=>eY T hj
 have sx:∀j,j≠0->ρ j=.none\/∃d,ρ j=.quit d:=fun j hj=>by
  rcases hc j with h|h|h
  ·exact .inl h
  ·exact .inr h
  ·exact absurd (su j h) hj
 have FX:∀j,0<j->j<gs.size->∃d,ρ j=.quit d:=fun j h0 hj=>by
  rcases sx j (by omega) with h|h
  ·have:=T.eD j _ (H_ hj)
   rw [h] at this;exact this.elim
  ·exact h
 have rp:∀g,¬(ρ g).loose=true:=fun g hg=>by
  by_cases e:g=0
  ·subst e;rw [hr] at hg;cases hg
  ·rcases sx g e with h|⟨d,h⟩<;>rw [h] at hg<;>cases hg
 have hlf:(fun i=>(ρ i).loose=true)=fun _=>False:=by
  funext i;exact propext ⟨rp i,False.elim⟩
 have hSh:∀l,on/\(l=Loc.cell ⟨b',o',none⟩\/l=.cell ⟨b',o'+1,none⟩)->¬C.Sh l/\¬C.Gr l:=by
  rintro l ⟨h,rfl|rfl⟩
  ·exact (hw h).2 _ (.inl rfl)
  ·exact (hw h).2 _ (.inr rfl)
 have QM:¬C.Dd 0:=T.fX (by rw [hr];simp)
 have AV:=T.tr.anew (S:=fun l=>on/\(l=Loc.cell ⟨b',o',none⟩\/l=.cell ⟨b',o'+1,none⟩)) (on:=on) (ad:=⟨b',o',none⟩) T.cX QM rp (fun _ h=>h) (fun l hl=>⟨by rcases hl.2 with rfl|rfl<;>rfl,hSh l hl⟩)
 have WI:∀n,cnt ρ n=0:=fun n=>by
  induction n with
  |zero=>rfl
  |succ n ih=>
   show cnt ρ n+_=0
   rw [ih];show 0+(ρ n).count=0
   by_cases e:n=0
   ·subst e;rw [hr];rfl
   ·rcases sx n e with h|⟨d,h⟩<;>rw [h]<;>rfl
 have hno:∀j r,(r.isSelf=false)->(∀d,r≠.quit d)->r≠.none->ρ j≠r:=fun j r h1 h2 h3 e=>by
  by_cases ej:j=0
  ·subst ej;rw [hr] at e;subst e;cases h1
  ·rcases sx j ej with h|⟨d,h⟩
   ·exact h3 (e.symm.trans h)
   ·exact h2 d (e.symm.trans h)
 refine ⟨⟨fun _ _ _ h=>h.elim,fun _ _ _=>⟨id,id⟩,fun l hl=>⟨fun h=> ?_,fun _=>⟨id,id⟩⟩⟩,rfl,fun l=>Iff.rfl,fun l hl=> ?_,fun g hg=>FX g hg.1 hg.2,fun _ _ h=>h.elim False.elim False.elim,fun _ _ h=>h.elim False.elim False.elim,fun _ _ _ h=>h.elim False.elim False.elim,fun _ _ h=>h.elim False.elim False.elim, ?_,fun i g hg=> ?_,T.above,fun i p home e=>absurd e (hno i _ rfl (fun d e=>by cases e) (fun e=>by cases e)),fun i j p p' h h' e=>absurd e (hno i _ rfl (fun d e=>by cases e) (fun e=>by cases e)),fun i p home e=>absurd e (hno i _ rfl (fun d e=>by cases e) (fun e=>by cases e)),T.one,T.holder,T.few,fun b9=> ?_,fun _ j=> ?_,T.cX,fun e=>absurd e (hno 0 _ rfl (fun d e=>by cases e) (fun e=>by cases e))⟩
 ·have:=hSh l h
  rcases hl with hl|hl
  ·exact this.2 hl
  ·exact this.1 hl
 ·rcases hl with hl|hl
  ·exact T.IB l hl
  ·obtain ⟨b9,h⟩:=(T.yk l).1 hl
   have my:=(T.wg b9).live
   obtain ⟨s,m,my⟩:=my
   have hb:=lC my.st
   rcases h with rfl|rfl
   ·exact ⟨b,o,rfl,hb⟩
   ·exact ⟨b,o+1,rfl,hb⟩
 ·rw [hlf];exact AV
 ·have aM:=T.eD i g hg
  by_cases e:i=0
  ·subst e;rw [hr];trivial
  ·rcases sx i e with h|⟨d,h⟩
   ·rw [h] at aM;exact aM.elim
   ·rw [h] at aM ⊢;exact aM
 ·unfold dy
  rw [hr]
  refine ⟨fun j=> ?_,by rw [WI];simpa using (hw b9).1⟩
  by_cases e:j=0
  ·subst e;rw [hr];rfl
  ·rcases sx j e with h|⟨d,h⟩<;>rw [h]<;>rfl
 ·by_cases e:j=0
  ·subst e;rw [hr];exact rfl
  ·rcases sx j e with h|⟨d,h⟩<;>rw [h]<;>trivial
theorem cS.Kw (C:cS) (n:Nat):C.hire n (fun _=>False) (fun _=>False)=C:=by
 obtain ⟨St,Pv,Sh,Gr,Dd,on,ad⟩:=C
 simp only [cS.hire,and_false,or_false]
theorem aC.led {n:Nat} {child:O'} (T:aC P C b o ae Fin (some 0) rel ρ q gs w t) (hr:ρ 0=.self 1 0) (hi:gs[0]?=some a) (CJ:Goes P true (RB C b o 0) (DW b o) (AtKd P C b o ae) n a' w) (fh:w_) (pos:String) (fc:w_):
 aC P C b o ae Fin (some gs.size) rel (upd (upd ρ 0 (.wait .w0)) gs.size (.self 1 0)) (upd (upd q 0 n) gs.size 0) ((gs.setIfInBounds 0 a').push child) w (t++#[{g:=0,fn:=fh,pos:=pos,act:=.go gs.size},{g:=gs.size,fn:=fc,pos:=pos,act:=.start}]):=by
 have hlt:0<gs.size:=T.cX
 have hne:(0:Nat)≠gs.size:=by omega
 have hsz:((gs.setIfInBounds 0 a').push child).size=gs.size+1:=by simp
 have om:ρ gs.size=.none:=T.above _ (C_ _)
 have b9:C.on:=T.jw (i:=0) (by rw [hr];exact Nat.one_ne_zero)
 have zN:upd (upd ρ 0 (.wait .w0)) gs.size (.self 1 0) 0=.wait .w0:=by rw [P_ _ _ hne,O_]
 have BC:upd (upd ρ 0 (.wait .w0)) gs.size (.self 1 0) gs.size=.self 1 0:=O_ _ _ _
 have uW:∀j,j≠0->j≠gs.size->upd (upd ρ 0 (.wait .w0)) gs.size (.self 1 0) j=ρ j:=fun j h1 h2=>by rw [P_ _ _ h2,P_ _ _ h1]
 have AV:=T.tr.hire (h:=0) (S:=fun _=>False) (Q:=fun _=>False) (K':=Knows (t++#[{g:=0,fn:=fh,pos:=pos,act:=.go gs.size},{g:=gs.size,fn:=fc,pos:=pos,act:=.start}]) gs.size) (fun i hi=>hi) hlt (T.fX (by rw [hr];simp)) (by rw [hr];rfl) (by rw [om];rfl) (fun g l hg=>T.old g l hg) (fun l hl=>hl.elim) (fun l hl=>hl.elim) fh pos fc (fun _ _ h=>h)
 rw [cS.Kw] at AV
 have jW:cnt (upd (upd ρ 0 (.wait .w0)) gs.size (.self 1 0)) (gs.size+1)=cnt ρ gs.size:=by
  have e1:=kL (ρ:=ρ) (.wait .w0) hlt
  rw [hr] at e1
  have e2:cnt (upd (upd ρ 0 (.wait .w0)) gs.size (.self 1 0)) (gs.size+1)=cnt (upd ρ 0 (.wait .w0)) gs.size+1:=by
   show sumTo gs.size _+_=_
   simp only [BC]
   congr 1
   exact sumTo_congr fun j hj=>by rw [P_ _ _ (by omega)]
  simp only [aX.count] at e1
  omega
 have xD:∀j,(upd (upd ρ 0 (.wait .w0)) gs.size (.self 1 0) j).isLast=(ρ j).isLast:=fun j=>by
  by_cases e1:j=0
  ·subst e1;rw [zN,hr];rfl
  ·by_cases e2:j=gs.size
   ·subst e2;rw [BC,om];rfl
   ·rw [uW j e1 e2]
 obtain ⟨hl,my⟩:=T.DV b9 hr
 refine ⟨T.ok,T.ad,T.yk,T.IB,fun g hg=> ?_,fun g l hg=> ?_,T.plain,T.CG,T.mO, ?_,fun j y hy=> ?_,fun j hj=> ?_,fun j p' h' e=> ?_,fun j l p p' h₁ iN e1 e2 hch=> ?_,fun j p' h' e=> ?_,fun j k' d' e=> ?_,fun x hx=> ?_,by rw [hsz,jW];exact T.few,fun _=> ?_,fun c=>absurd b9 c,by rw [hsz];omega,fun h1 h2=> ?_⟩
 ·obtain ⟨d,e⟩:=T.Ls g hg
  rw [uW g (by rintro rfl;rw [hr] at e;cases e) (by rintro rfl;rw [om] at e;cases e)];exact ⟨d,e⟩
 ·rw [hsz]
  have:=T.old g l hg;omega
 ·rw [hsz]
  have e1:(fun j=>(upd (upd ρ 0 (.wait .w0)) gs.size (.self 1 0) j).dd)=fun j=>(ρ j).dd:=by
   funext j
   by_cases e1:j=0
   ·subst e1;rw [zN,hr];rfl
   ·by_cases e2:j=gs.size
    ·subst e2;rw [BC,om];rfl
    ·rw [uW j e1 e2]
  rw [e1]
  refine AV.n9 (fun p hp=>.inl hp) (fun z a ha hm hs _=>⟨fun hk=>.inl hk,fun g hg hl=> ?_⟩)
  rcases hl with (zp|WB)|hl
  ·have h1:g≠0:=fun e=>by rw [e,hr] at zp;cases zp
   have h2:g≠gs.size:=fun e=>by rw [e,om] at zp;cases zp
   exact .inr (.inl (by rw [uW g h1 h2];exact zp))
  ·exact .inl (fQ (WB▸hg))
  ·exact .inr (.inr hl)
 ·by_cases e2:j=gs.size
  ·subst e2
   rw [BC];trivial
  ·rw [Array.getElem?_push,if_neg (by simpa using e2)] at hy
   by_cases e1:j=0
   ·subst e1
    rw [Array.getElem?_setIfInBounds_self_of_lt hlt] at hy
    obtain rfl:=some_inj hy
    rw [zN,P_ _ _ hne,O_];exact ⟨rfl,CJ⟩
   ·rw [I_ (ru e1)] at hy
    rw [uW j e1 e2,P_ _ _ e2,P_ _ _ e1]
    exact T.eD j y hy
 ·rw [hsz] at hj
  rw [uW j (by omega) (by omega)];exact T.above j (by omega)
 ·by_cases e1:j=0
  ·subst e1;rw [zN] at e;cases e
  ·by_cases e2:j=gs.size
   ·subst e2;rw [BC] at e;cases e
   ·rw [uW j e1 e2] at e;exact T.chans j p' h' e
 ·have of:∀j p h₁,upd (upd ρ 0 (.wait .w0)) gs.size (.self 1 0) j=.seat p h₁->ρ j=.seat p h₁:=fun j p h₁ e=>by
   by_cases e1:j=0
   ·subst e1;rw [zN] at e;cases e
   ·by_cases e2:j=gs.size
    ·subst e2;rw [BC] at e;cases e
    ·rw [uW j e1 e2] at e;exact e
  exact T.apart j l p p' h₁ iN (of j p h₁ e1) (of l p' iN e2) hch
 ·by_cases e1:j=0
  ·subst e1;rw [zN] at e;cases e
  ·by_cases e2:j=gs.size
   ·subst e2;rw [BC] at e;cases e
   ·rw [uW j e1 e2] at e;exact T.shuts j p' h' e
 ·by_cases e1:j=0
  ·subst e1;rw [zN] at e;cases e
  ·by_cases e2:j=gs.size
   ·subst e2;rfl
   ·rw [uW j e1 e2] at e
    have:=T.one j _ _ e
    exact absurd (some_inj this).symm e1
 ·obtain rfl:=some_inj hx
  rw [BC];exact .inr (.inl rfl)
 ·unfold dy
  rw [zN,hsz]
  exact ⟨fun j=>(xD j).trans (hl j),by rw [jW];exact my⟩
 ·rw [zN] at h1;cases h1
end
section
open Go Go.Conc Go.Conc.Lib Go.ConcR Go.ConcR.Gen
structure Wk (R:J'->J'->Prop) (D:J'->J'->Array Event->Prop) (I:J'->Prop):Prop where
 keep:∀w w₁,R w w₁->I w->I w₁
 quiet:∀w,D w w #[]
variable {P:U'} {main:Bool} {R:J'->J'->Prop} {D:J'->J'->Array Event->Prop} {Stop:O'->J'->Prop} {I:J'->Prop} {n d:Nat} {b:Y'} {a:Act} {k:List x_} {cs:List Y'} {ops:Array y_} {i:Nat} {rest:List Nat} {o:y_} {w:J'}
variable {g':O'}
theorem Wk.ctl (W:Wk R D I) {g:O'} (hrun:g.status=.running) (hst:∀w,stepG P main g w=.go g' w #[]) (h:∃n,∀w,I w->Goes P main R D Stop n g' w):∃n,∀w,I w->Goes P main R D Stop n g w:=by
 obtain ⟨n,h⟩:=h
 exact ⟨n+1,fun w hK=>Goes.step hrun fun w₁ h₁=>by rw [hst w₁];exact ⟨W.quiet w₁,h w₁ (W.keep _ _ h₁ hK)⟩⟩
theorem Wk.look (W:Wk R D I) {g:O'} (hrun:g.status=.running) (hst:∀w,I w->stepG P main g w=.go g' w #[]) (h:∃n,∀w,I w->Goes P main R D Stop n g' w):∃n,∀w,I w->Goes P main R D Stop n g w:=by
 obtain ⟨n,h⟩:=h
 exact ⟨n+1,fun w hK=>Goes.step hrun fun w₁ h₁=>by
  have sG:=W.keep _ _ h₁ hK
  rw [hst w₁ sG];exact ⟨W.quiet w₁,h w₁ sG⟩⟩
theorem Wk.stop (W:Wk R D I) {g:O'} (h:∀w,I w->Stop g w):∃n,∀w,I w->Goes P main R D Stop n g w:=⟨0,fun _ hK=>Goes.stop fun w₁ h₁=>h w₁ (W.keep _ _ h₁ hK)⟩
theorem Wk.here {g:O'} (hK:I w) (h:∃n,∀w,I w->Goes P main R D Stop n g w):∃n,Goes P main R D Stop n g w:=h.imp fun _ h=>h w hK
variable {fn:w_}
theorem listed_nil {o:y_} (h:(V' a.eval o).events P w #[]=#[]):listed P fn a o w=#[]:=by
 refine Array.eq_empty_iff_forall_not_mem.2 fun e he=> ?_
 have:=mem_listed he
 rw [h] at this
 simp at this
variable {es:Array Event}
theorem Wk.said (W:Wk R D I) {g:O'} (hD:∀w,D w w es) (hrun:g.status=.running) (hst:∀w,I w->stepG P main g w=.go g' w es) (h:∃n,∀w,I w->Goes P main R D Stop n g' w):∃n,∀w,I w->Goes P main R D Stop n g w:=by
 obtain ⟨n,h⟩:=h
 exact ⟨n+1,fun w hK=>Goes.step hrun fun w₁ h₁=>by
  have sG:=W.keep _ _ h₁ hK
  rw [hst w₁ sG];exact ⟨hD w₁,h w₁ sG⟩⟩
def Xe (R:J'->J'->Prop) (St:O'->J'->Prop) (g:O') (w:J'):Prop:=∀w₁,R w w₁->St g w₁
theorem Wk.Ta (W:Wk R D I) {St:O'->J'->Prop} {g:O'} (h:∀w,I w->St g w):∃n,∀w,I w->Goes P main R D (Xe R St) n g w:=⟨0,fun _ hK=>Goes.stop fun w₁ h₁ lZ iN=>h lZ (W.keep _ _ iN (W.keep _ _ h₁ hK))⟩
theorem Wk.val (W:Wk R D I) (ho:ops[i]?=some o) (hw:U_ o (yielded ops a.tmps)=true) (hk:b.kind≠.early) (he:∀w,(V' a.eval o).events P w #[]=#[])
 (h:∀K:(J'->Result Next)->Prop,(∀v,(∃n,∀w,I w->Goes P main R D Stop n (G (b.at (a.put o.dst v) (.inRegion ops rest::k)) cs) w)->K (fun w=>.ok (.value v) w))->K (fun w=>(V' a.eval o).run P w)):
 ∃n,∀w,I w->Goes P main R D Stop n (G (b.at a (.inRegion ops (i::rest)::k)) cs) w:=by
 obtain ⟨v,h1,h2⟩:=h (fun f=>∃v,(∀w,f w=.ok (.value v) w)/\∃n,∀w,I w->Goes P main R D Stop n (G (b.at (a.put o.dst v) (.inRegion ops rest::k)) cs) w) (fun v hq=>⟨v,fun _=>rfl,hq⟩)
 refine W.ctl rfl (fun w=> ?_) h2
 rw [stepG_value ho hw hk (h1 w),listed_nil (he w)]
theorem Wk.IW (W:Wk R D I) (v:M') (ho:ops[i]?=some o) (hw:U_ o (yielded ops a.tmps)=true) (hk:b.kind≠.early) (he:∀w,I w->(V' a.eval o).run P w=.ok (.value v) w/\(V' a.eval o).events P w #[]=#[])
 (h:∃n,∀w,I w->Goes P main R D Stop n (G (b.at (a.put o.dst v) (.inRegion ops rest::k)) cs) w):∃n,∀w,I w->Goes P main R D Stop n (G (b.at a (.inRegion ops (i::rest)::k)) cs) w:=by
 refine W.look rfl (fun w gC=> ?_) h
 rw [stepG_value ho hw hk (he w gC).1,listed_nil (he w gC).2]
theorem dt {g:O'} (hs:g.status=.running) (h:∀w,stepG P false g w=.go g' w #[]) (hq:∃n,QuitsD P n d g'):∃n,QuitsD P n d g:=hq.elim fun n hq=>⟨n+1,.ctl hs h hq⟩
theorem P8 (ho:ops[i]?=some o) (hw:U_ o (yielded ops a.tmps)=true) (hk:b.kind≠.early) (he:∀w,(V' a.eval o).events P w #[]=#[])
 (h:∀K:(J'->Result Next)->Prop,(∀v,(∃n,QuitsD P n d (G (b.at (a.put o.dst v) (.inRegion ops rest::k)) cs))->K (fun w=>.ok (.value v) w))->K (fun w=>(V' a.eval o).run P w)):∃n,QuitsD P n d (G (b.at a (.inRegion ops (i::rest)::k)) cs):=by
 obtain ⟨v,h1,n,h2⟩:=h (fun f=>∃v,(∀w,f w=.ok (.value v) w)/\∃n,QuitsD P n d (G (b.at (a.put o.dst v) (.inRegion ops rest::k)) cs)) (fun v hq=>⟨v,fun _=>rfl,hq⟩)
 exact ⟨n+1,QuitsD.value v ho hw hk h1 he h2⟩
variable {L:WgLink}
theorem pS (H:WgLib P L) {ds:List Deferred} {todo:List x_} (hd:a.defers=dcall L.enable #[]::ds) (hq:∃n,QuitsD P n 0 (G {b.at ⟨a.tmps,ds⟩ todo with mode:=.returning} cs)):∃n,QuitsD P n 1 (G {b.at a todo with mode:=.returning} cs):=
 hq.elim fun n hq=>⟨n+1,QuitsD.unwind_mark .enable rfl (by simp) hd H.f_enable (x_enable_n L) (x_enable_b L) (x_enable_x L) (x_enable_f L) hq⟩
variable {f:w_} {fn:Func} {c:Code} {args:Array Operand} {ats:Array TypeId} {aI:Y'} {aS:Act} {todo:List x_}
theorem i6 (ho:ops[i]?=some o) (hw:U_ o (yielded ops a.tmps)=true) (hk:b.kind≠.early) (hop:o.op=.call {callee:=.value (.func f),args,argTypes:=ats})
 (hf:P.funcs[f]?=some fn) (lV:(fn.name== "runtime.NumGoroutine")=false) (hb:fn.body=some c):
 stepG P main (G (b.at a (.inRegion ops (i::rest)::k)) cs) w=.go (G ((base f).at {tmps:=args.map a.eval++F_ (fn.ntmps - (args.map a.eval).size) I',defers:=[]} [.code c]) (b.at a (.inRegion ops (i::rest)::k)::cs)) w #[]:=by
 have A8:fn.body.isNone=false:=by rw [hb];rfl
 rw [stepG_enter ho hw hk (run_call_body hop hf lV A8),enter_at _ hf hb]
 have:listed P b.fn a o w=#[]:=by unfold listed;rw [events_call_body hop hf lV A8];exact seen_none P _
 rw [this]
theorem aZ {t:Tmp} (hn:b.kind=.normal) (hd:a.defers=[]) (hf:P.funcs[b.fn]?=some fn) (hr:fn.results=#[.tmp t]):
 stepG P main (G {b.at a todo with mode:=.returning} (aI.at aS (.inRegion ops (i::rest)::k)::cs)) w=.go (G (aI.at (aS.put ((ops[i]?).bind (·.dst)) (a.tmps.getD t I')) (.inRegion ops rest::k)) cs) w #[]:=by
 rw [stepG_leave hn hd hf (results_tmp hr _ P w) (events_results_tmp hr _ _),Frame.finish_at]
theorem fC (hn:b.kind=.normal) (hd:a.defers=[]) (hf:P.funcs[b.fn]?=some fn) (hr:fn.results=#[]):
 stepG P main (G {b.at a todo with mode:=.returning} (aI.at aS (.inRegion ops (i::rest)::k)::cs)) w=.go (G (aI.at (aS.put ((ops[i]?).bind (·.dst)) (.tuple #[])) (.inRegion ops rest::k)) cs) w #[]:=by
 rw [stepG_leave hn hd hf (results_none hr _ P w) (events_results_none hr _ _),Frame.finish_at]
structure Hid (p:Prop):Prop where
 out:p
def uV (b o:Nat) (w:J'):Prop:=(∃v,w.cell? ⟨b,o,none⟩=some v)/\∃v,w.cell? ⟨b,o+1,none⟩=some v
theorem Live.has {b o:Nat} (h:Live b o w):uV b o w:=let ⟨_,_,x⟩:=h;⟨⟨_,x.st⟩,_,x.sm⟩
variable {C:cS}
theorem wk0 (b9:C.on) (b o i:Nat):Wk (RB C b o i) D0 (Live b o):=⟨fun _ _ h k=>h.live b9 k,fun _=>⟨rfl,rfl⟩⟩
theorem wkR (b9:C.on) (b o i:Nat):Wk (RB C b o i) (DR C i) (Live b o):=⟨fun _ _ h k=>h.live b9 k,fun _=>⟨Out.refl _ _,fun e he=>by simp at he⟩⟩
theorem XI (b9:C.on) (b o:Nat):Wk (RB C b o 0) (DW b o) (Live b o):=⟨fun _ _ h k=>h.live b9 k,fun _=>⟨rfl,fun e he=>by simp at he⟩⟩
theorem Ln (w:J'):DH C w w #[]:=
 ⟨⟨C_ _,fun _ c _ _ h=>⟨c,h,rfl,fun _ _=>rfl⟩,fun _ _ h _=>h,fun _ o h ho=>⟨o,h,ho⟩,rfl,rfl,rfl,fun e he=>by simp at he⟩,fun _ _=>rfl,fun e he=>by simp at he⟩
variable {w₁:J'}
theorem Gn {hid:Nat->Nat->Prop} {b o:Nat} (h:∃v,w.cell? ⟨b,o,none⟩=some v) (ho:Out hid w w₁):∃v,w₁.cell? ⟨b,o,none⟩=some v:=by
 obtain ⟨v,hv⟩:=h
 obtain ⟨c,e,f,hb,hc⟩:=dF hv
 obtain ⟨c',A8,hs,_⟩:=ho.cells _ c e f hb
 have hlt:o<c'.size:=by rw [hs];exact (cI hc)
 exact ⟨c'[o],by simp [World.cell?,A8,hlt]⟩
theorem uV.out {hid:Nat->Nat->Prop} {b o:Nat} (h:uV b o w) (ho:Out hid w w₁):uV b o w₁:=⟨Gn h.1 ho,Gn h.2 ho⟩
theorem wkH (C:cS) (b o:Nat):Wk (Out (bS C)) D0 (uV b o):=⟨fun _ _ h k=>k.out h,fun _=>⟨rfl,rfl⟩⟩
theorem V7 (C:cS):Wk (Out (bS C)) D0 (fun _=>True):=⟨fun _ _ _ _=>trivial,fun _=>⟨rfl,rfl⟩⟩
theorem sJ {P:U'} {main:Bool} {hid:Nat->Nat->Prop} {Stop:O'->J'->Prop}:∀{n:Nat} {g:O'} {w:J'},Goes P main (Out hid) D0 Stop n g w->Goes P main (Out hid) D0 (fun g' w'=>Stop g' w'/\Out hid w w') n g w
 |0,_,_,h=>fun w₁ h₁=>⟨h w₁ h₁,h₁⟩
 |n+1,g,w,h=>by
  rcases h with h|⟨hs,h⟩
  ·exact .inl fun w₁ h₁=>⟨h w₁ h₁,h₁⟩
  ·refine .inr ⟨hs,fun w₁ h₁=> ?_⟩
   have:=h w₁ h₁
   revert this
   cases stepG P main g w₁ with
   |go g' w' es=>
    simp only [goes_go]
    rintro ⟨⟨rfl,rfl⟩,hg⟩
    exact ⟨⟨rfl,rfl⟩,Go.ConcN.goes_mono (fun _ _ x=>⟨x.1,h₁.trans x.2⟩) (sJ hg)⟩
   |_=>exact id
class Rg (ops:Array y_) (l:outParam (List Nat)):Prop where
 q:List.range ops.size=l
instance:Rg #[] []:=⟨rfl⟩
instance {a:y_}:Rg #[a] [0]:=⟨rfl⟩
instance {a b:y_}:Rg #[a,b] [0,1]:=⟨rfl⟩
instance {a b c:y_}:Rg #[a,b,c] [0,1,2]:=⟨rfl⟩
instance {a b c d:y_}:Rg #[a,b,c,d] [0,1,2,3]:=⟨rfl⟩
instance {a b c d e:y_}:Rg #[a,b,c,d,e] [0,1,2,3,4]:=⟨rfl⟩
instance {a b c d e f:y_}:Rg #[a,b,c,d,e,f] [0,1,2,3,4,5]:=⟨rfl⟩
instance {a b c d e f g:y_}:Rg #[a,b,c,d,e,f,g] [0,1,2,3,4,5,6]:=⟨rfl⟩
instance {a b c d e f g h:y_}:Rg #[a,b,c,d,e,f,g,h] [0,1,2,3,4,5,6,7]:=⟨rfl⟩
instance {a b c d e f g h i:y_}:Rg #[a,b,c,d,e,f,g,h,i] [0,1,2,3,4,5,6,7,8]:=⟨rfl⟩
instance {a b c d e f g h i j:y_}:Rg #[a,b,c,d,e,f,g,h,i,j] [0,1,2,3,4,5,6,7,8,9]:=⟨rfl⟩
instance {a b c d e f g h i j k:y_}:Rg #[a,b,c,d,e,f,g,h,i,j,k] [0,1,2,3,4,5,6,7,8,9,10]:=⟨rfl⟩
instance {a b c d e f g h i j k m:y_}:Rg #[a,b,c,d,e,f,g,h,i,j,k,m] [0,1,2,3,4,5,6,7,8,9,10,11]:=⟨rfl⟩
instance {a b c d e f g h i j k m n:y_}:Rg #[a,b,c,d,e,f,g,h,i,j,k,m,n] [0,1,2,3,4,5,6,7,8,9,10,11,12]:=⟨rfl⟩
instance {a b c d e f g h i j k m n o:y_}:Rg #[a,b,c,d,e,f,g,h,i,j,k,m,n,o] [0,1,2,3,4,5,6,7,8,9,10,11,12,13]:=⟨rfl⟩
instance {a b c d e f g h i j k m n o p:y_}:Rg #[a,b,c,d,e,f,g,h,i,j,k,m,n,o,p] [0,1,2,3,4,5,6,7,8,9,10,11,12,13,14]:=⟨rfl⟩
instance {a b c d e f g h i j k m n o p q:y_}:Rg #[a,b,c,d,e,f,g,h,i,j,k,m,n,o,p,q] [0,1,2,3,4,5,6,7,8,9,10,11,12,13,14,15]:=⟨rfl⟩
instance {a b c d e f g h i j k m n o p q r:y_}:Rg #[a,b,c,d,e,f,g,h,i,j,k,m,n,o,p,q,r] [0,1,2,3,4,5,6,7,8,9,10,11,12,13,14,15,16]:=⟨rfl⟩
instance {a b c d e f g h i j k m n o p q r s:y_}:Rg #[a,b,c,d,e,f,g,h,i,j,k,m,n,o,p,q,r,s] [0,1,2,3,4,5,6,7,8,9,10,11,12,13,14,15,16,17]:=⟨rfl⟩
instance {a b c d e f g h i j k m n o p q r s t:y_}:Rg #[a,b,c,d,e,f,g,h,i,j,k,m,n,o,p,q,r,s,t] [0,1,2,3,4,5,6,7,8,9,10,11,12,13,14,15,16,17,18]:=⟨rfl⟩
instance {a b c d e f g h i j k m n o p q r s t u:y_}:Rg #[a,b,c,d,e,f,g,h,i,j,k,m,n,o,p,q,r,s,t,u] [0,1,2,3,4,5,6,7,8,9,10,11,12,13,14,15,16,17,18,19]:=⟨rfl⟩
instance {a b c d e f g h i j k m n o p q r s t u v:y_}:Rg #[a,b,c,d,e,f,g,h,i,j,k,m,n,o,p,q,r,s,t,u,v] [0,1,2,3,4,5,6,7,8,9,10,11,12,13,14,15,16,17,18,19,20]:=⟨rfl⟩
instance {a b c d e f g h i j k m n o p q r s t u v w:y_}:Rg #[a,b,c,d,e,f,g,h,i,j,k,m,n,o,p,q,r,s,t,u,v,w] [0,1,2,3,4,5,6,7,8,9,10,11,12,13,14,15,16,17,18,19,20,21]:=⟨rfl⟩
instance {a b c d e f g h i j k m n o p q r s t u v w x:y_}:Rg #[a,b,c,d,e,f,g,h,i,j,k,m,n,o,p,q,r,s,t,u,v,w,x] [0,1,2,3,4,5,6,7,8,9,10,11,12,13,14,15,16,17,18,19,20,21,22]:=⟨rfl⟩
variable {x:Code}
theorem Wk.s (W:Wk R D I) {y:Code} (h:∃n,∀w,I w->Goes P main R D Stop n (G (b.at a (.code x::.code y::k)) cs) w):∃n,∀w,I w->Goes P main R D Stop n (G (b.at a (.code (.seq x y)::k)) cs) w:=W.ctl rfl (fun _=>stepG_seq) h
theorem Wk.e (W:Wk R D I) (h:∃n,∀w,I w->Goes P main R D Stop n (G (b.at a (k)) cs) w):∃n,∀w,I w->Goes P main R D Stop n (G (b.at a (.inRegion ops []::k)) cs) w:=W.ctl rfl (fun _=>stepG_region_end) h
theorem Wk.z (W:Wk R D I) (h:∃n,∀w,I w->Goes P main R D Stop n (G (b.at a (k)) cs) w):∃n,∀w,I w->Goes P main R D Stop n (G (b.at a (.code .skip::k)) cs) w:=W.ctl rfl (fun _=>stepG_skip) h
theorem Wk.t (W:Wk R D I) {y:Code} {c:Operand} (hc:a.eval c=.bool true) (h:∃n,∀w,I w->Goes P main R D Stop n (G (b.at a (.code x::k)) cs) w):∃n,∀w,I w->Goes P main R D Stop n (G (b.at a (.code (.cond c x y)::k)) cs) w:=W.ctl rfl (fun _=>stepG_cond hc) h
theorem Wk.fa (W:Wk R D I) {y:Code} {c:Operand} (hc:a.eval c=.bool false) (h:∃n,∀w,I w->Goes P main R D Stop n (G (b.at a (.code y::k)) cs) w):∃n,∀w,I w->Goes P main R D Stop n (G (b.at a (.code (.cond c x y)::k)) cs) w:=W.ctl rfl (fun _=>stepG_cond hc) h
variable {j:Nat} {l:List Nat}
theorem Wk.r (W:Wk R D I) [q:Rg ops l] (h:∃n,∀w,I w->Goes P main R D Stop n (G (b.at a (.inRegion ops l::k)) cs) w):∃n,∀w,I w->Goes P main R D Stop n (G (b.at a (.code (.region j ops false)::k)) cs) w:=W.ctl rfl (fun _=>q.q▸stepG_region) h
theorem Wk.u (W:Wk R D I) (ho:ops[i]?=some o) (hw:U_ o (yielded ops a.tmps)=false) (h:∃n,∀w,I w->Goes P main R D Stop n (G (b.at (a.put o.dst I') (.inRegion ops rest::k)) cs) w):∃n,∀w,I w->Goes P main R D Stop n (G (b.at a (.inRegion ops (i::rest)::k)) cs) w:=W.ctl rfl (fun _=>stepG_unwanted ho hw) h
theorem Yd {y:Code} (h:∃n,QuitsD P n d (G (b.at a (.code x::.code y::k)) cs)):∃n,QuitsD P n d (G (b.at a (.code (.seq x y)::k)) cs):=dt rfl (fun _=>stepG_seq) h
theorem He (h:∃n,QuitsD P n d (G (b.at a (k)) cs)):∃n,QuitsD P n d (G (b.at a (.inRegion ops []::k)) cs):=dt rfl (fun _=>stepG_region_end) h
theorem Ya (h:∃n,QuitsD P n d (G (b.at a (k)) cs)):∃n,QuitsD P n d (G (b.at a (.code .skip::k)) cs):=dt rfl (fun _=>stepG_skip) h
theorem Yc {y:Code} {c:Operand} (hc:a.eval c=.bool true) (h:∃n,QuitsD P n d (G (b.at a (.code x::k)) cs)):∃n,QuitsD P n d (G (b.at a (.code (.cond c x y)::k)) cs):=dt rfl (fun _=>stepG_cond hc) h
theorem aEj {y:Code} {c:Operand} (hc:a.eval c=.bool false) (h:∃n,QuitsD P n d (G (b.at a (.code y::k)) cs)):∃n,QuitsD P n d (G (b.at a (.code (.cond c x y)::k)) cs):=dt rfl (fun _=>stepG_cond hc) h
theorem Ye [q:Rg ops l] (h:∃n,QuitsD P n d (G (b.at a (.inRegion ops l::k)) cs)):∃n,QuitsD P n d (G (b.at a (.code (.region j ops false)::k)) cs):=dt rfl (fun _=>q.q▸stepG_region) h
theorem Yb (ho:ops[i]?=some o) (hw:U_ o (yielded ops a.tmps)=false) (h:∃n,QuitsD P n d (G (b.at (a.put o.dst I') (.inRegion ops rest::k)) cs)):∃n,QuitsD P n d (G (b.at a (.inRegion ops (i::rest)::k)) cs):=dt rfl (fun _=>stepG_unwanted ho hw) h
theorem Wk.y {g:O'} {q:Prop} (W:Wk R D I) (k:q) (m:Go.aC.Hid q->∃n,∀w,I w->Goes P main R D Stop n (g) w:=by
 intro hq
 first
  |(with_reducible first
   |exact W.s hq.out
   |exact W.e hq.out
   |exact W.z hq.out
   |exact W.r hq.out)
  |exact W.t rfl hq.out
  |exact W.fa rfl hq.out
  |(refine W.u rfl rfl ?_
    walk_nrm
    exact hq.out)
  |(refine W.val rfl rfl (by k_ne) (fun _=>by simp [go_sem, *]) (fun K hy=> ?_)
    go_simp
    (try w_num)
    refine hy _ ?_
    clear hy K
    walk_nrm
    exact hq.out)):∃n,∀w,I w->Goes P main R D Stop n (g) w:=m ⟨k⟩
theorem Cf {g:O'} {q:Prop} (k:q) (m:Go.aC.Hid q->∃n,QuitsD P n d (g):=by
 intro hq
 first
  |(with_reducible first
   |exact Yd hq.out
   |exact He hq.out
   |exact Ya hq.out
   |exact Ye hq.out)
  |exact Yc rfl hq.out
  |exact aEj rfl hq.out
  |(refine Yb rfl rfl ?_
    walk_nrm
    exact hq.out)
  |(refine P8 rfl rfl (by k_ne) (fun _=>by simp [go_sem, *]) (fun K hy=> ?_)
    go_simp
    (try w_num)
    refine hy _ ?_
    clear hy K
    walk_nrm
    exact hq.out)):∃n,QuitsD P n d (g):=m ⟨k⟩
theorem zb {main:Bool} [q:Rg ops l]:stepG P main (G (b.at a (.code (.region j ops false)::k)) cs) w=.go (G (b.at a (.inRegion ops l::k)) cs) w:=q.q▸stepG_region
end
section
open Go Go.Conc Go.Conc.Lib Go.ConcR.Gen Go.RowKit
variable {L:WgLink} {P:U'} {C:cS} {b i:Nat} {cs:List Y'}
theorem Di (H:WgLib P L) (b9:C.on) {o:Nat} {c:Y'} {qt:Nat} (Ve:c.mode=.returning) (hT:QuitsD P qt 0 (G c cs)):
 ∃n,∀w,Live b o w->Goes P false (RB C b o i) (DR C i) (AtR0 P C b o i) n (G ((baseD L.done).at ⟨#[.pointer (some ⟨b,o,none⟩),I',I',I'],[]⟩ [.code ((doneFn L).body.getD .skip)]) (c::cs)) w:=by
 lib_facts
 have W:=wkR b9 b o i
 simp only [doneFn,A_]
 iterate 2 refine W.y ?_
 refine W.ctl rfl (fun _=>i6 rfl rfl (by k_ne) rfl H.f_add (nm_add L) rfl) ?_;walk_nrmf addFn
 iterate 11 refine W.y ?_
 refine W.IW (.pointer (some ⟨b,o,none⟩)) rfl rfl (by k_ne) (fun w hw=> ?_) ?_
 ·have hcv:=run_convert_to_unsafe (P:=P) H.underlying_tWgP H.underlying_tUP H.room_tWg hw.has.1.choose_spec
  have hce:=fun es=>events_convert_to_unsafe (P:=P) H.underlying_tWgP H.underlying_tUP H.room_tWg hw.has.1.choose_spec es
  refine ⟨?_, ?_⟩
  ·go_simp
  ·simp [go_sem,hce, *]
 walk_nrm
 refine W.stop fun w hK=>⟨rfl,_,stepG_markAt .releaseMerge (by simp) rfl rfl (by k_ne) rfl H.f_relMerge (x_relMerge_n L) (x_relMerge_b L) (x_relMerge_x L) (x_relMerge_f L) (by simp [Act.eval]),Wk.here hK ?_⟩
 clear W hK w
 have W:=wk0 b9 b o i
 walk_nrm
 iterate 3 refine W.y ?_
 refine W.stop fun w hK=>⟨rfl,_,stepG_mark0 .disable (by simp) rfl rfl (by k_ne) rfl H.f_disable (x_disable_n L) (x_disable_b L) (x_disable_x L) (x_disable_f L),Wk.here hK ?_⟩
 clear hK w
 walk_nrm
 iterate 2 refine W.y ?_
 refine W.ctl rfl (fun _=>stepG_defer rfl rfl (by k_ne) rfl) ?_;walk_nrm
 iterate 8 refine W.y ?_
 refine W.ctl rfl (fun _=>stepG_entry_pure (.bool false) rfl rfl (by k_ne) rfl H.f_inBubble (x_inBubble_n L) (x_inBubble_b L) (x_inBubble_x L) (x_inBubble_f L)) ?_;walk_nrm
 iterate 11 refine W.y ?_
 refine W.ctl rfl (fun _=>i6 rfl rfl (by k_ne) rfl H.f_uAdd (nm_uAdd L) rfl) ?_;walk_nrmf uAddFn
 iterate 10 refine W.y ?_
 refine W.stop fun w hK=>⟨rfl,fun v wt M1 hv hw=> ?_⟩
 clear hK W
 have e0:IntKind.u64.wrap ((v+1:Nat) * Go.aC.KK+wt+18446744069414584320)=v * Go.aC.KK+wt:=by
  unfold Go.aC.KK;rw [IntKind.wrap_u64];omega
 refine ⟨_,(stepG_add_atomic rfl rfl (by k_ne) rfl H.f_addU64 (x_addU64_n L) (x_addU64_b L) (x_addU64_x L) .u64 (x_addU64_f L) rfl rfl hw.st hw.thaw.1).trans (by rw [e0];rfl),fun hl=> ?_,fun hl=> ?_⟩
 ·obtain ⟨rfl,rfl⟩:=hl
  have W:=wk0 b9 b o i
  have hK:Live b o (w.setCell ⟨b,o,none⟩ (.int .u64 ((0:Nat) * Go.aC.KK+(1:Nat)))):=⟨_,_,hw.setSt _⟩
  clear hw e0
  rw [show (((0:Nat):Int) * Go.aC.KK+((1:Nat):Int))=1 from rfl] at hK ⊢
  refine Wk.here hK ?_
  clear hK w
  walk_nrm
  iterate 2 refine W.y ?_
  refine W.ctl rfl (fun _=>stepG_ret') ?_
  refine W.ctl rfl (fun _=>aZ rfl rfl H.f_uAdd rfl) ?_;walk_nrm
  iterate 89 refine W.y ?_
  refine W.ctl rfl (fun _=>i6 rfl rfl (by k_ne) rfl H.f_uLoad (nm_uLoad L) rfl) ?_;walk_nrmf uLoadFn
  iterate 9 refine W.y ?_
  refine W.stop fun w hL=>⟨rfl,fun hw=>⟨_,stepG_load_atomic rfl rfl (by k_ne) rfl H.f_loadU64 (x_loadU64_n L) (x_loadU64_b L) (x_loadU64_x L) .u64 (x_loadU64_f L) rfl hw.st,Wk.here (I:=Live b o) ⟨_,_,hw⟩ ?_⟩⟩
  clear hw hL w
  walk_nrm
  iterate 2 refine W.y ?_
  refine W.ctl rfl (fun _=>stepG_ret') ?_
  refine W.ctl rfl (fun _=>aZ rfl rfl H.f_uLoad rfl) ?_;walk_nrm
  iterate 10 refine W.y ?_
  refine W.ctl rfl (fun _=>i6 rfl rfl (by k_ne) rfl H.f_uStore (nm_uStore L) rfl) ?_;walk_nrmf uStoreFn
  iterate 5 refine W.y ?_
  refine W.stop fun w hL=>⟨rfl,fun hw=>⟨_,stepG_store_atomic rfl rfl (by k_ne) rfl H.f_storeU64 (x_storeU64_n L) (x_storeU64_b L) (x_storeU64_x L) (x_storeU64_f L) rfl rfl hw.st hw.thaw.1,Wk.here (I:=Live b o) ⟨_,_,hw.setSt 0⟩ ?_⟩⟩
  clear hw hL w
  walk_nrm
  refine W.e ?_
  refine W.ctl rfl (fun _=>stepG_end) ?_
  refine W.ctl rfl (fun _=>fC rfl rfl H.f_uStore rfl) ?_;walk_nrm
  iterate 8 refine W.y ?_
  refine W.ctl rfl (fun _=>stepG_block) ?_
  refine W.ctl rfl (fun _=>stepG_loop) ?_
  iterate 9 refine W.y ?_
  refine W.ctl rfl (fun _=>stepG_block) ?_
  iterate 4 refine W.y ?_
  refine W.stop fun w hL=>⟨rfl,mayWake_entry rfl rfl H.f_semrelease (x_semrelease_b L),fun hw=>⟨_,rfl,(stepG_semrelease rfl rfl (by k_ne) rfl H.f_semrelease (x_semrelease_n L) (x_semrelease_b L) (x_semrelease_x L) (x_semrelease_f L) (by simp [Act.eval]) hw.sm hw.thaw.2).trans (by rfl), ?_⟩⟩
  clear hw hL W w
  walk_nrm
  refine He ?_
  refine dt rfl (fun _=>stepG_inBlock) ?_
  iterate 5 refine Cf ?_
  refine dt rfl (fun _=>stepG_inLoop) ?_
  iterate 7 refine Cf ?_
  refine dt rfl (fun _=>stepG_exit rfl) ?_
  refine dt rfl (fun _=>stepG_end) ?_
  refine pS H rfl ?_
  refine dt rfl (fun _=>fC rfl rfl H.f_add rfl) ?_;walk_nrm
  refine He ?_
  refine dt rfl (fun _=>stepG_end) ?_
  exact ⟨_,.leaveD rfl rfl H.f_done rfl Ve hT⟩
 ·clear hw e0
  obtain ⟨S,hS⟩:∃S:Int,S=(v:Int) * 4294967296+(wt:Int):=⟨_,rfl⟩
  have Iy:(v:Int) * Go.aC.KK+(wt:Int)=S:=hS.symm
  have eo:bits .and .u64 S 2147483648=0:=by rw [hS];exact Go.ConcN.st_flag v wt (by omega) M1
  have HJ:bits .and .u64 S 2147483647=(wt:Int):=by rw [hS];exact Go.ConcN.st_waiters v wt (by omega) M1
  have Mi:S / 4294967296=(v:Int):=by omega
  have CX:IntKind.i32.wrap (v:Int)=(v:Int):=by rw [IntKind.wrap_i32];omega
  have qo:decide ((v:Int)<0)=false:=by simp
  rw [Iy]
  clear hS Iy
  walk_nrm
  rcases Nat.eq_zero_or_pos v with rfl|hvp
  ·obtain rfl:wt=0:=by omega
   iterate 2 refine Cf ?_
   refine dt rfl (fun _=>stepG_ret') ?_
   refine dt rfl (fun _=>aZ rfl rfl H.f_uAdd rfl) ?_;walk_nrm
   iterate 82 refine Cf ?_
   refine dt rfl (fun _=>stepG_ret') ?_
   refine pS H rfl ?_
   refine dt rfl (fun _=>fC rfl rfl H.f_add rfl) ?_;walk_nrm
   refine He ?_
   refine dt rfl (fun _=>stepG_end) ?_
   exact ⟨_,.leaveD rfl rfl H.f_done rfl Ve hT⟩
  ·have KF:decide (0<(v:Int))=true:=by simp;omega
   obtain rfl|rfl:wt=0\/wt=1:=by omega
   ·skip
    iterate 2 refine Cf ?_
    refine dt rfl (fun _=>stepG_ret') ?_
    refine dt rfl (fun _=>aZ rfl rfl H.f_uAdd rfl) ?_;walk_nrm
    iterate 82 refine Cf ?_
    refine dt rfl (fun _=>stepG_ret') ?_
    refine pS H rfl ?_
    refine dt rfl (fun _=>fC rfl rfl H.f_add rfl) ?_;walk_nrm
    refine He ?_
    refine dt rfl (fun _=>stepG_end) ?_
    exact ⟨_,.leaveD rfl rfl H.f_done rfl Ve hT⟩
   ·skip
    iterate 2 refine Cf ?_
    refine dt rfl (fun _=>stepG_ret') ?_
    refine dt rfl (fun _=>aZ rfl rfl H.f_uAdd rfl) ?_;walk_nrm
    iterate 82 refine Cf ?_
    refine dt rfl (fun _=>stepG_ret') ?_
    refine pS H rfl ?_
    refine dt rfl (fun _=>fC rfl rfl H.f_add rfl) ?_;walk_nrm
    refine He ?_
    refine dt rfl (fun _=>stepG_end) ?_
    exact ⟨_,.leaveD rfl rfl H.f_done rfl Ve hT⟩
section
variable (P:U') (C:cS) (b o:Nat) (dN:O')
def Hw (St:O'->J'->Prop) (g:O') (w:J'):Prop:=∃m,Goes P true (Out (bS C)) D0 (Xe (Out (bS C)) St) m g w
def Sj (g:O') (w:J'):Prop:=g.status=.running/\∃g',stepG P true g w=.go g' w #[mh .enable]/\∃m,Goes P true (Out (bS C)) D0 (fun g _=>g=dN) m g' w
def aDg (g:O') (w:J'):Prop:=g.status=.running/\∃g',stepG P true g w=.go g' w #[mh (.read ⟨b,o+1,none⟩)]/\Hw P C (Sj P C dN) g' w
def AtA1 (g:O') (w:J'):Prop:=
 g.status=.running/\∀v:Nat,v<2147483646->cx b o w (v * KK) 0->∃g',stepG P true g w=.go g' (w.setCell ⟨b,o,none⟩ (.int .u64 ((v+1:Nat) * KK))) #[mF ⟨b,o,none⟩,vT ⟨b,o,none⟩]/\
  (v=0->Hw P C (aDg P C b o dN) g' (w.setCell ⟨b,o,none⟩ (.int .u64 ((v+1:Nat) * KK))))/\(v≠0->Hw P C (Sj P C dN) g' (w.setCell ⟨b,o,none⟩ (.int .u64 ((v+1:Nat) * KK))))
def aDh (g:O') (w:J'):Prop:=g.status=.running/\∃g',stepG P true g w=.go g' w #[mh .disable]/\Hw P C (AtA1 P C b o dN) g' w
end
variable {aI:Y'} {aS:Act} {av:Array y_} {aN:Nat} {sg:List Nat} {aV:List x_}
theorem NS (H:WgLib P L) (C:cS) (b o:Nat):
 ∃n,∀w,uV b o w->Goes P true (Out (bS C)) D0 (Xe (Out (bS C)) (aDh P C b o (G (aI.at (aS.put ((av[aN]?).bind (·.dst)) (.tuple #[])) (.inRegion av sg::aV)) cs))) n
  (G ((base L.add).at ⟨#[.pointer (some ⟨b,o,none⟩),.int .i64 1]++F_ 115 I',[]⟩ [.code ((addFn L).body.getD .skip)]) (aI.at aS (.inRegion av (aN::sg)::aV)::cs)) w:=by
 lib_facts
 have W:=wkH C b o
 simp only [addFn,A_]
 walk_nrm
 iterate 12 refine W.y ?_
 refine W.Ta fun w hK=>⟨rfl,_,stepG_mark0 .disable (by simp) rfl rfl (by k_ne) rfl H.f_disable (x_disable_n L) (x_disable_b L) (x_disable_x L) (x_disable_f L),Wk.here hK ?_⟩
 clear hK w
 walk_nrm
 iterate 2 refine W.y ?_
 refine W.ctl rfl (fun _=>stepG_defer rfl rfl (by k_ne) rfl) ?_;walk_nrm
 iterate 8 refine W.y ?_
 refine W.ctl rfl (fun _=>stepG_entry_pure (.bool false) rfl rfl (by k_ne) rfl H.f_inBubble (x_inBubble_n L) (x_inBubble_b L) (x_inBubble_x L) (x_inBubble_f L)) ?_;walk_nrm
 iterate 11 refine W.y ?_
 refine W.ctl rfl (fun _=>i6 rfl rfl (by k_ne) rfl H.f_uAdd (nm_uAdd L) rfl) ?_;walk_nrmf uAddFn
 iterate 10 refine W.y ?_
 refine W.Ta fun w hK=>⟨rfl,fun v hv hw=> ?_⟩
 have e0:IntKind.u64.wrap ((v:Nat) * Go.aC.KK+4294967296)=(v+1:Nat) * Go.aC.KK:=by
  unfold Go.aC.KK;rw [IntKind.wrap_u64];omega
 have hK':uV b o (w.setCell ⟨b,o,none⟩ (.int .u64 ((v+1:Nat) * Go.aC.KK))):=Live.has ⟨_,_,hw.setSt _⟩
 refine ⟨_,(stepG_add_atomic rfl rfl (by k_ne) rfl H.f_addU64 (x_addU64_n L) (x_addU64_b L) (x_addU64_x L) .u64 (x_addU64_f L) rfl rfl hw.st hw.thaw.1).trans (by rw [e0];rfl),fun BG=>Wk.here hK' ?_,fun BG=>Wk.here hK' ?_⟩
 ·subst BG
  clear hK' e0 hw hK hv
  rw [show (((0+1:Nat):Int) * Go.aC.KK)=4294967296 from rfl]
  walk_nrm
  iterate 2 refine W.y ?_
  refine W.ctl rfl (fun _=>stepG_ret') ?_
  refine W.ctl rfl (fun _=>aZ rfl rfl H.f_uAdd rfl) ?_;walk_nrm
  iterate 48 refine W.y ?_
  refine W.IW (.pointer (some ⟨b,o+1,none⟩)) rfl rfl (by k_ne) (fun w hw=> ?_) ?_
  ·have hcv:=run_convert_to_unsafe (P:=P) H.underlying_tPU32 H.underlying_tUP H.room_tU32 hw.2.choose_spec
   have hce:=fun es=>events_convert_to_unsafe (P:=P) H.underlying_tPU32 H.underlying_tUP H.room_tU32 hw.2.choose_spec es
   refine ⟨?_, ?_⟩
   ·go_simp
   ·simp [go_sem,hce, *]
  walk_nrm
  refine W.Ta fun w hK=>⟨rfl,_,stepG_markAt .read (by simp) rfl rfl (by k_ne) rfl H.f_raceRead (x_raceRead_n L) (x_raceRead_b L) (x_raceRead_x L) (x_raceRead_f L) (by simp [Act.eval]),Wk.here hK ?_⟩
  clear hK w
  walk_nrm
  iterate 38 refine W.y ?_
  refine W.ctl rfl (fun _=>stepG_ret') ?_
  refine W.Ta fun w hK=>⟨rfl,_,stepG_unwind_entry (v:=.tuple #[]) (evs:=#[mh .enable]) rfl H.f_enable (x_enable_n L) (x_enable_b L) (x_enable_x L) (x_enable_f L) (by simp [Extern.Race.none_]) (by simp [mh]) (by simp [mh]),Wk.here hK ?_⟩
  refine W.ctl rfl (fun _=>fC rfl rfl H.f_add rfl) ?_
  exact W.stop fun w _=>rfl
 ·obtain ⟨S,hS⟩:∃S:Int,S=((v+1:Nat):Int) * 4294967296:=⟨_,rfl⟩
  have Iy:((v+1:Nat):Int) * Go.aC.KK=S:=hS.symm
  have eo:bits .and .u64 S 2147483648=0:=by have:=Go.ConcN.st_flag (v+1) 0 (by omega) (by omega);rw [hS];simpa using this
  have HJ:bits .and .u64 S 2147483647=0:=by have:=Go.ConcN.st_waiters (v+1) 0 (by omega) (by omega);rw [hS];simpa using this
  obtain ⟨V,hV⟩:∃V:Int,V=((v+1:Nat):Int):=⟨_,rfl⟩
  have Mi:S / 4294967296=V:=by omega
  have CX:IntKind.i32.wrap V=V:=by rw [IntKind.wrap_i32];omega
  have qo:decide (V<0)=false:=by simp;omega
  have KF:decide (0<V)=true:=by simp;omega
  have Vj:(V=1)=False:=by simp;omega
  have hb8:decide (V=1)=false:=by simp;omega
  have vJ:(V==(1:Int))=false:=by simp;omega
  rw [Iy]
  clear hS Iy hV hK' e0 hw hK hv BG
  walk_nrm
  iterate 2 refine W.y ?_
  refine W.ctl rfl (fun _=>stepG_ret') ?_
  refine W.ctl rfl (fun _=>aZ rfl rfl H.f_uAdd rfl) ?_;walk_nrm
  iterate 82 refine W.y ?_
  refine W.ctl rfl (fun _=>stepG_ret') ?_
  refine W.Ta fun w hK=>⟨rfl,_,stepG_unwind_entry (v:=.tuple #[]) (evs:=#[mh .enable]) rfl H.f_enable (x_enable_n L) (x_enable_b L) (x_enable_x L) (x_enable_f L) (by simp [Extern.Race.none_]) (by simp [mh]) (by simp [mh]),Wk.here hK ?_⟩
  refine W.ctl rfl (fun _=>fC rfl rfl H.f_add rfl) ?_
  exact W.stop fun w _=>rfl
def ya (L:WgLink) (b o:Nat) (c:Y') (cs:List Y') (g:O') (w:J'):Prop:=
 ∃T:Array M',g=G ((base L.wait).at ⟨T,[]⟩ [.code (L7 L),.inLoop (L7 L),.inBlock 0]) (c::cs)/\T.size=84/\T[0]?=some (.pointer (some ⟨b,o,none⟩))/\Live b o w
def Fs (P:U') (C:cS) (dN:O') (g:O') (w:J'):Prop:=∃m,Goes P true (Out (bS C)) D0 (fun g _=>g=dN) m g w
theorem yT {o:Nat} {c:Y'} (g:O') (w:J') (h:ya L b o c cs g w):g.status=.running:=by obtain ⟨_,rfl,_⟩:=h;rfl
section
variable (H:WgLib P L) (b9:C.on) (b o:Nat)
include H b9
theorem waitStart:∃n,∀w,Live b o w->Goes P true (RB C b o 0) (DW b o) (AtKd P C b o (ya L b o (aI.at aS (.inRegion av (aN::sg)::aV)) cs)) n
 (G ((base L.wait).at ⟨#[.pointer (some ⟨b,o,none⟩)]++F_ 83 I',[]⟩ [.code ((waitFn L).body.getD .skip)]) (aI.at aS (.inRegion av (aN::sg)::aV)::cs)) w:=by
 lib_facts
 have W:=XI b9 b o
 simp only [waitFn,A_]
 walk_nrm
 iterate 3 refine W.y ?_
 refine W.stop fun w hL=>⟨rfl,_,stepG_mark0 .disable (by simp) rfl rfl (by k_ne) rfl H.f_disable (x_disable_n L) (x_disable_b L) (x_disable_x L) (x_disable_f L),Wk.here hL ?_⟩
 clear hL w
 walk_nrm
 refine W.e ?_
 refine W.ctl rfl (fun _=>stepG_block) ?_
 refine W.ctl rfl (fun _=>stepG_loop) ?_
 exact W.stop fun w hL=>⟨_,by simp only [L7,body_wait,waitFn,A_];rfl,by rfl,by rfl,hL⟩
theorem waitRound (g:O') (w:J') (h:ya L b o (aI.at aS (.inRegion av (aN::sg)::aV)) cs g w):
 ∃m,Goes P true (RB C b o 0) (DW b o) (AtW1 P C b o (ya L b o (aI.at aS (.inRegion av (aN::sg)::aV)) cs) (Fs P C (G (aI.at (aS.put ((av[aN]?).bind (·.dst)) (.tuple #[])) (.inRegion av sg::aV)) cs))) m g w:=by
 lib_facts
 obtain ⟨T,rfl,hT84,t0,hL⟩:=h
 obtain ⟨v0,v1,v2,v3,v4,v5,v6,v7,v8,v9,v10,v11,v12,v13,v14,v15,v16,v17,v18,v19,v20,v21,v22,v23,v24,v25,v26,v27,v28,v29,v30,v31,v32,v33,v34,v35,v36,v37,v38,v39,v40,v41,v42,v43,v44,v45,v46,v47,v48,v49,v50,v51,v52,v53,v54,v55,v56,Kx,v58,v59,v60,v61,v62,v63,v64,v65,v66,v67,v68,v69,v70,v71,v72,v73,v74,v75,v76,v77,v78,v79,v80,v81,v82,v83,rfl⟩:=array84 T hT84
 simp only [List.getElem?_toArray,List.getElem?_cons_zero,n_] at t0
 subst t0
 have W:=XI b9 b o
 refine Wk.here hL ?_
 clear hL w hT84
 simp only [L7,body_wait,waitFn,A_]
 refine W.ctl rfl (fun _=>stepG_block) ?_
 iterate 5 refine W.y ?_
 refine W.ctl rfl (fun _=>i6 rfl rfl (by k_ne) rfl H.f_uLoad (nm_uLoad L) rfl) ?_;walk_nrmf uLoadFn
 iterate 9 refine W.y ?_
 refine W.stop fun w hL=>⟨rfl,fun v hv hw=>⟨_,stepG_load_atomic rfl rfl (by k_ne) rfl H.f_loadU64 (x_loadU64_n L) (x_loadU64_b L) (x_loadU64_x L) .u64 (x_loadU64_f L) rfl hw.st,fun BG=>Wk.here hL ?_,fun BG=>Wk.here hL ?_⟩⟩
 ·subst BG
  clear hw hv hL w
  rw [show (((0:Nat):Int) * Go.aC.KK)=0 from rfl]
  walk_nrm
  iterate 2 refine W.y ?_
  refine W.ctl rfl (fun _=>stepG_ret') ?_
  refine W.ctl rfl (fun _=>aZ rfl rfl H.f_uLoad rfl) ?_;walk_nrm
  iterate 27 refine W.y ?_
  refine W.stop fun w hL=>⟨rfl,_,stepG_mark0 .enable (by simp) rfl rfl (by k_ne) rfl H.f_enable (x_enable_n L) (x_enable_b L) (x_enable_x L) (x_enable_f L),Wk.here hL ?_⟩
  clear hL w
  walk_nrm
  iterate 3 refine W.y ?_
  refine W.IW (.pointer (some ⟨b,o,none⟩)) rfl rfl (by k_ne) (fun w hw=> ?_) ?_
  ·have hcv:=run_convert_to_unsafe (P:=P) H.underlying_tWgP H.underlying_tUP H.room_tWg hw.has.1.choose_spec
   have hce:=fun es=>events_convert_to_unsafe (P:=P) H.underlying_tWgP H.underlying_tUP H.room_tWg hw.has.1.choose_spec es
   refine ⟨?_, ?_⟩
   ·go_simp
   ·simp [go_sem,hce, *]
  walk_nrm
  refine W.stop fun w hL=>⟨rfl,_,stepG_markAt .acquire (by simp) rfl rfl (by k_ne) rfl H.f_acquire (x_acquire_n L) (x_acquire_b L) (x_acquire_x L) (x_acquire_f L) (by simp [Act.eval]),Wk.here (I:=fun _=>True) trivial ?_⟩
  clear hL w W
  have W:=V7 C
  walk_nrm
  iterate 18 refine W.y ?_
  refine W.ctl rfl (fun _=>stepG_ret') ?_
  refine W.ctl rfl (fun _=>fC rfl rfl H.f_wait rfl) ?_;walk_nrm
  exact W.stop fun w _=>rfl
 ·obtain ⟨S,hS⟩:∃S:Int,S=((v:Nat):Int) * 4294967296:=⟨_,rfl⟩
  have Iy:((v:Nat):Int) * Go.aC.KK=S:=hS.symm
  have eo:bits .and .u64 S 2147483648=0:=by have:=Go.ConcN.st_flag v 0 (by omega) (by omega);rw [hS];simpa using this
  have HJ:bits .and .u64 S 2147483647=0:=by have:=Go.ConcN.st_waiters v 0 (by omega) (by omega);rw [hS];simpa using this
  obtain ⟨V,hV⟩:∃V:Int,V=((v:Nat):Int):=⟨_,rfl⟩
  have Mi:S / 4294967296=V:=by omega
  have CX:IntKind.i32.wrap V=V:=by rw [IntKind.wrap_i32];omega
  have qo:(V=0)=False:=by simp;omega
  have KF:decide (V=0)=false:=by simp;omega
  have Vj:(V==(0:Int))=false:=by simp;omega
  have hb8:IntKind.u64.wrap (S+1)=S+1:=by rw [IntKind.wrap_u64];omega
  rw [Iy]
  have hh:Hid (S=((v:Nat):Int) * 4294967296):=⟨hS⟩
  clear hw hL w hS Iy hV
  walk_nrm
  iterate 2 refine W.y ?_
  refine W.ctl rfl (fun _=>stepG_ret') ?_
  refine W.ctl rfl (fun _=>aZ rfl rfl H.f_uLoad rfl) ?_;walk_nrm
  iterate 32 refine W.y ?_
  refine W.ctl rfl (fun _=>i6 rfl rfl (by k_ne) rfl H.f_uCas (nm_uCas L) rfl) ?_;walk_nrmf uCasFn
  iterate 11 refine W.y ?_
  refine W.stop fun w hL=>⟨rfl,fun SX TW hw=>⟨fun he=> ?_,fun he=> ?_⟩⟩
  ·subst he
   have Iy:((SX:Nat):Int) * Go.aC.KK=S:=hh.out.symm
   have gC:=hw.setSt (SX * Go.aC.KK+1)
   rw [Iy] at hw
   refine ⟨_,(stepG_cas_hit rfl rfl (by k_ne) rfl H.f_casU64 (x_casU64_n L) (x_casU64_b L) (x_casU64_x L) .u64 (x_casU64_f L) rfl rfl rfl hw.st hw.thaw.1).trans (by rw [Iy];rfl),Wk.here (I:=Live b o) ⟨_,_,gC⟩ ?_⟩
   clear gC hw hL w TW hh Iy hv BG
   walk_nrm
   iterate 2 refine W.y ?_
   refine W.ctl rfl (fun _=>stepG_ret') ?_
   refine W.ctl rfl (fun _=>aZ rfl rfl H.f_uCas rfl) ?_;walk_nrm
   iterate 15 refine W.y ?_
   refine W.IW (.pointer (some ⟨b,o+1,none⟩)) rfl rfl (by k_ne) (fun w hw=> ?_) ?_
   ·have hcv:=run_convert_to_unsafe (P:=P) H.underlying_tPU32 H.underlying_tUP H.room_tU32 hw.has.2.choose_spec
    have hce:=fun es=>events_convert_to_unsafe (P:=P) H.underlying_tPU32 H.underlying_tUP H.room_tU32 hw.has.2.choose_spec es
    refine ⟨?_, ?_⟩
    ·go_simp
    ·simp [go_sem,hce, *]
   walk_nrm
   refine W.said (es:=#[mh (.write ⟨b,o+1,none⟩)]) (fun w=>⟨rfl,fun e he=>by simpa [mh] using he⟩) rfl (fun w _=>stepG_markAt .write (by simp) rfl rfl (by k_ne) rfl H.f_raceWrite (x_raceWrite_n L) (x_raceWrite_b L) (x_raceWrite_x L) (x_raceWrite_f L) (ad:=⟨b,o+1,none⟩) (by simp [Act.eval])) ?_
   walk_nrm
   iterate 23 refine W.y ?_
   refine W.stop fun w hL=>⟨rfl,rfl,fun hs=>stepG_semacquire_wait rfl rfl rfl H.f_semacquire (x_semacquire_n L) (x_semacquire_b L) (x_semacquire_x L) (x_semacquire_f L) (by simp [Act.eval]) hs.choose_spec.sm,fun hw=>⟨_,(stepG_semacquire rfl rfl (by k_ne) rfl H.f_semacquire (x_semacquire_n L) (x_semacquire_b L) (x_semacquire_x L) (x_semacquire_f L) (by simp [Act.eval]) hw.sm (by decide) hw.thaw.2).trans (by rfl),Wk.here (I:=Live b o) ⟨_,_,hw.setSm 0⟩ ?_⟩⟩
   clear hw hL w
   walk_nrm
   iterate 6 refine W.y ?_
   refine W.ctl rfl (fun _=>i6 rfl rfl (by k_ne) rfl H.f_uLoad (nm_uLoad L) rfl) ?_;walk_nrmf uLoadFn
   iterate 9 refine W.y ?_
   refine W.stop fun w hL=>⟨rfl,fun hw=>⟨_,stepG_load_atomic rfl rfl (by k_ne) rfl H.f_loadU64 (x_loadU64_n L) (x_loadU64_b L) (x_loadU64_x L) .u64 (x_loadU64_f L) rfl hw.st,Wk.here hL ?_⟩⟩
   clear hw hL w
   walk_nrm
   iterate 2 refine W.y ?_
   refine W.ctl rfl (fun _=>stepG_ret') ?_
   refine W.ctl rfl (fun _=>aZ rfl rfl H.f_uLoad rfl) ?_;walk_nrm
   iterate 7 refine W.y ?_
   refine W.stop fun w hL=>⟨rfl,_,stepG_mark0 .enable (by simp) rfl rfl (by k_ne) rfl H.f_enable (x_enable_n L) (x_enable_b L) (x_enable_x L) (x_enable_f L),Wk.here hL ?_⟩
   clear hL w
   walk_nrm
   iterate 3 refine W.y ?_
   refine W.IW (.pointer (some ⟨b,o,none⟩)) rfl rfl (by k_ne) (fun w hw=> ?_) ?_
   ·have hcv:=run_convert_to_unsafe (P:=P) H.underlying_tWgP H.underlying_tUP H.room_tWg hw.has.1.choose_spec
    have hce:=fun es=>events_convert_to_unsafe (P:=P) H.underlying_tWgP H.underlying_tUP H.room_tWg hw.has.1.choose_spec es
    refine ⟨?_, ?_⟩
    ·go_simp
    ·simp [go_sem,hce, *]
   walk_nrm
   refine W.stop fun w hL=>⟨rfl,_,stepG_markAt .acquire (by simp) rfl rfl (by k_ne) rfl H.f_acquire (x_acquire_n L) (x_acquire_b L) (x_acquire_x L) (x_acquire_f L) (by simp [Act.eval]),Wk.here (I:=fun _=>True) trivial ?_⟩
   clear hL w W
   have W:=V7 C
   walk_nrm
   iterate 8 refine W.y ?_
   refine W.ctl rfl (fun _=>stepG_ret') ?_
   refine W.ctl rfl (fun _=>fC rfl rfl H.f_wait rfl) ?_;walk_nrm
   exact W.stop fun w _=>rfl
  ·refine ⟨_,stepG_cas_miss rfl rfl (by k_ne) rfl H.f_casU64 (x_casU64_n L) (x_casU64_b L) (x_casU64_x L) .u64 (x_casU64_f L) rfl rfl rfl hw.st hw.thaw.1 (by have:=hh.out;unfold Go.aC.KK;omega),Wk.here hL ?_⟩
   clear hw hL w hh
   walk_nrm
   iterate 2 refine W.y ?_
   refine W.ctl rfl (fun _=>stepG_ret') ?_
   refine W.ctl rfl (fun _=>aZ rfl rfl H.f_uCas rfl) ?_;walk_nrm
   iterate 3 refine W.y ?_
   refine W.ctl rfl (fun _=>stepG_inBlock) ?_
   refine W.ctl rfl (fun _=>stepG_inLoop) ?_
   exact W.stop fun w hL=>⟨_,by simp only [L7,body_wait,waitFn,A_];rfl,by rfl,by rfl,hL⟩
end
end
section
open Go Go.Conc Go.Conc.Lib Go.ConcR.Gen
open Go.ConcN (sumTo upd sumTo_upd upd_ne upd_same sumTo_congr le_sumTo)
variable {P:U'} {C:cS} {b o:Nat} {ae Fin:O'->J'->Prop} {who who':Option Nat} {rel bZ:Nat->Prop} {ρ:Nat->aX} {q:Nat->Nat} {gs gs':Array O'} {w w':J'} {t t' u:Trace} {sl:Option (Nat × Nat)}
variable {Post:M'->J'->Prop} {h k d:Nat} {a:O'}
theorem aC.Jm (T:aC P C b o ae Fin who rel ρ q gs w t) (hw:∀s,ρ 0≠.wait s) (LR Sg:O'->J'->Prop):aC P C b o LR Sg who rel ρ q gs w t:=by
 refine ⟨T.ok,T.ad,T.yk,T.IB,T.Ls,T.old,T.plain,T.CG,T.mO,T.tr,fun i g hg=> ?_,T.above,T.chans,T.apart,T.shuts,T.one,T.holder,T.few,T.wg,T.off,T.cX,T.awake⟩
 have aM:=T.eD i g hg
 cases hr:ρ i with
 |wait s=>
  rw [hr] at aM
  obtain ⟨rfl,_⟩:=aM
  exact absurd hr (hw s)
 |_=>rw [hr] at aM;exact aM
variable {es:Array Event}
theorem xS (h:D0 w w' es):DH C w w' es:=by obtain ⟨rfl,rfl⟩:=h;exact Ln w'
theorem AW (hA:∀g w,ae g w->g.status=.running) (uQ:∀g w,ae g w->∃m,Goes P true (RB C b o 0) (DW b o) (AtW1 P C b o ae Fin) m g w) {St:O'->J'->Prop} (hSt:∀g w,St g w->g.status=.running) (hc:h=0\/0<k)
 (hW:∃m,Goes P (h==0) (Out (bS C)) D0 (Xe (Out (bS C)) St) m a w) (T:aC P C b o ae Fin (some h) rel ρ q gs w t) (hr:ρ h=.self k d) (hi:gs[h]?=some a)
 (next:∀bZ fT q' gs' a' w' sl' t',aC P C b o ae Fin (some h) bZ fT q' gs' w' t'->fT h=.self k d->gs'.size=gs.size->gs'[h]?=some a'->St a' w'->(∀j,vS (ρ j) (fT j))->(sU ρ->bZ=rel/\sU fT)->Out (bS C) w w'->VZ P Post gs' w' sl' t' h):Ends P Post (crowd gs w sl) t:=by
 obtain ⟨m,hg⟩:=hW
 refine hold hA uQ hc (Walk.mono (fun _ _ _ x=>xS x) (Walk.vZ (sJ hg))) T hr hi (Out.refl _ _) fun jE iX rR dH a₁ w₁ ib mC km iT lq ig hst had hh=> ?_
 have hrun:=hSt _ _ (hst.1 w₁ (Out.refl _ _))
 refine turn hA uQ hc km iT ig hrun fun Ab wz Jo pw lZ Cb DY lK qH xt uL xJ OO xA=> ?_
 exact next Ab wz Jo pw a₁ lZ Cb DY lK qH (xt.trans lq) uL (hst.1 lZ xA) (fun j=>(had j).trans (xJ j)) (fun hH=>⟨(OO (hh hH).2).1.trans (hh hH).1,(OO (hh hH).2).2⟩) (hst.2.trans xA)
theorem Bo (hc:∀j,j≠0->(ρ j).count<=1):∀n,cnt ρ n<=n+(ρ 0).count
 |0=>nz _
 |n+1=>by
  show cnt ρ n+(ρ n).count<=_
  by_cases e:n=0
  ·subst e
   show 0+_<=_
   omega
  ·have:=Bo hc n
   have:=hc n e
   omega
theorem aC.Bo (T:aC P C b o ae Fin (some 0) rel ρ q gs w t) (hr:ρ 0=.self k d):cnt ρ gs.size<=gs.size+k:=by
 have:=Go.aC.Bo (ρ:=ρ) (fun j hj=>by
  cases hx:ρ j with
  |self k' d'=>exact absurd (eY T (x:=j) (by rw [hx];rfl)) hj
  |_=>simp [aX.count]) gs.size
 rw [hr] at this
 exact this
theorem LD (hA:∀g w,ae g w->g.status=.running) (uQ:∀g w,ae g w->∃m,Goes P true (RB C b o 0) (DW b o) (AtW1 P C b o ae Fin) m g w) (b9:C.on) {dN:O'}
 (T:aC P C b o ae Fin (some 0) rel ρ q gs w t) (hr:ρ 0=.self k 1) (hi:gs[0]?=some a) (hW:Hw P C (Sj P C dN) a w)
 (next:∀bZ fT q' gs' w' sl' t',aC P C b o ae Fin (some 0) bZ fT q' gs' w' t'->fT 0=.self k 0->gs'.size=gs.size->gs'[0]?=some dN->(∀j,j≠0->vS (ρ j) (fT j))->Out (bS C) w w'->Ends P Post (crowd gs' w' sl') t'):Ends P Post (crowd gs w sl) t:=by
 refine AW hA uQ (fun g w x=>x.1) (.inl rfl) hW T hr hi fun jE iX rR dH a₁ w₁ ib mC km iT lq ig xu jo _ jk=>.inl ?_
 obtain ⟨M8,RH,EN,m,cv⟩:=xu
 obtain ⟨Tq,LH,_⟩:=km.word b9 hA iT ig (a':=RH) (es:=#[mh .enable]) (d':=0) rfl (by simp)
 refine ⟨_,_,runT_crowd_go (sl:=ib) ig EN, ?_⟩
 have xC:0<dH.size:=km.cX
 refine hold hA uQ (.inl rfl) (Walk.mono (fun _ _ _ x=>xS x) (Walk.vZ (sJ cv))) LH (O_ _ _ _) (by simp [xC]) (Out.refl _ _) fun Ab wz Jo pw a₂ lZ Cb DY lK qH xt uL EG xJ _=> ?_
 obtain ⟨rfl,xA⟩:=EG
 refine next Ab wz Jo pw lZ Cb DY lK qH (by rw [xt];simpa using lq) uL (fun j hj=>(jo j).trans ?_) (jk.trans xA)
 have:=xJ j
 rw [P_ _ _ hj] at this
 exact this
variable {L:WgLink} {aI:Y'} {aS:Act} {av:Array y_} {aN:Nat} {sg:List Nat} {aV:List x_} {cs:List Y'}
theorem R4 (H:WgLib P L) (hA:∀g w,ae g w->g.status=.running) (uQ:∀g w,ae g w->∃m,Goes P true (RB C b o 0) (DW b o) (AtW1 P C b o ae Fin) m g w) (b9:C.on)
 (T:aC P C b o ae Fin (some 0) rel ρ q gs w t) (hr:ρ 0=.self k 0) (hf:gs.size+k<2147483640)
 (hi:gs[0]?=some (G ((base L.add).at ⟨#[.pointer (some ⟨b,o,none⟩),.int .i64 1]++F_ 115 I',[]⟩ [.code ((addFn L).body.getD .skip)]) (aI.at aS (.inRegion av (aN::sg)::aV)::cs)))
 (next:∀bZ fT q' gs' w' sl' t',aC P C b o ae Fin (some 0) bZ fT q' gs' w' t'->fT 0=.self (k+1) 0->gs'.size=gs.size->gs'[0]?=some (G (aI.at (aS.put ((av[aN]?).bind (·.dst)) (.tuple #[])) (.inRegion av sg::aV)) cs)->(∀j,j≠0->vS (ρ j) (fT j))->Out (bS C) w w'->Ends P Post (crowd gs' w' sl') t'):Ends P Post (crowd gs w sl) t:=by
 obtain ⟨n,TV⟩:=NS H C b o (aI:=aI) (aS:=aS) (av:=av) (aN:=aN) (sg:=sg) (aV:=aV) (cs:=cs)
 have FW:uV b o w:=by obtain ⟨s,m,x⟩:=(T.wg b9).live;exact Live.has ⟨s,m,x⟩
 refine AW hA uQ (fun g w x=>x.1) (.inl rfl) ⟨n,TV w FW⟩ T hr hi fun jE iX rR dH a₁ w₁ ib mC km iT lq ig xu jo _ jk=>.inl ?_
 obtain ⟨M8,RH,EN,cv⟩:=xu
 obtain ⟨Tq,LH,_⟩:=km.word b9 hA iT ig (a':=RH) (es:=#[mh .disable]) (d':=1) rfl (by simp)
 refine ⟨_,_,runT_crowd_go (sl:=ib) ig EN, ?_⟩
 have xC:0<dH.size:=km.cX
 refine AW hA uQ (fun g w x=>x.1) (.inl rfl) cv LH (O_ _ _ _) (by simp [xC]) fun Ab wz Jo pw a₂ lZ Cb DY lK qH xt uL EG xJ _ xA=>.inl ?_
 obtain ⟨Wp,ZR⟩:=EG
 have Kc:pw.size=gs.size:=by rw [xt];simpa using lq
 have hcb:=lK.Bo qH
 have OX:∀j,j≠0->vS (ρ j) (wz j):=fun j hj=>(jo j).trans (by have:=xJ j;rw [P_ _ _ hj] at this;exact this)
 obtain ⟨bp,Q1,hz,Y8⟩:=ZR (cnt wz pw.size) (by omega) (lK.DV b9 qH).2
 obtain ⟨aDk,O9,_,Gb⟩:=lK.added b9 hA qH uL bp (by omega)
 refine ⟨_,_,runT_crowd_go (sl:=Cb) uL Q1, ?_⟩
 have Ks:0<pw.size:=lK.cX
 by_cases hv:cnt wz pw.size=0
 ·
  refine AW hA uQ (fun g w x=>x.1) (.inl rfl) (hz hv) O9 (O_ _ _ _) (by simp [Ks]) fun P2 SV X8 aBs aDa DU N7 X3 NU FV Kb Gf EF KM _ FZ=>.inl ?_
  obtain ⟨Wo,NF,Q0,TU⟩:=EF
  obtain ⟨aDj,VY,_⟩:=NU.word b9 hA FV Gf (a':=NF) (es:=#[mh (.read ⟨b,o+1,none⟩)]) (d':=1) rfl (by simp)
  refine ⟨_,_,runT_crowd_go (sl:=N7) Gf Q0, ?_⟩
  have QQ:0<aBs.size:=NU.cX
  refine LD hA uQ b9 VY (O_ _ _ _) (by simp [QQ]) TU fun Ec IE P7 KX Py I3 PL R8 Kh Ka Kv ET Kn=>next Ec IE P7 KX Py I3 PL R8 Kh ?_ Kv (fun j hj=>(OX j hj).trans ?_) ((((jk.trans xA).trans Gb).trans FZ).trans Kn)
  ·rw [Ka];simp only [X_,Array.size_map];rw [Kb];simpa using Kc
  ·have h3:=KM j
   rw [P_ _ _ hj] at h3
   have h4:=ET j hj
   rw [P_ _ _ hj] at h4
   exact h3.trans h4
 ·refine LD hA uQ b9 O9 (O_ _ _ _) (by simp [Ks]) (Y8 hv) fun Ec IE P7 KX Py I3 PL R8 Kh Ka Kv ET Kn=>next Ec IE P7 KX Py I3 PL R8 Kh ?_ Kv (fun j hj=>(OX j hj).trans ?_) (((jk.trans xA).trans Gb).trans Kn)
  ·rw [Ka];simpa using Kc
  ·have h4:=ET j hj
   rw [P_ _ _ hj] at h4
   exact h4
end
section
open Go Go.Conc Go.Conc.Lib Go.ConcR.Gen
variable {P:U'} {main:Bool} {R:J'->J'->Prop} {D:J'->J'->Array Event->Prop} {Stop:O'->J'->Prop} {I:J'->Prop} {n d:Nat} {b:Y'} {a:Act} {k:List x_} {cs:List Y'} {ops:Array y_} {i:Nat} {rest:List Nat} {o:y_} {w:J'}
theorem Wk.X1 (W:Wk R D I) (E:Event->Prop) (v:M') (ho:ops[i]?=some o) (hw:U_ o (yielded ops a.tmps)=true) (hk:b.kind≠.early)
 (he:∀w,I w->(V' a.eval o).run P w=.ok (.value v) w/\∀e∈(V' a.eval o).events P w #[],E e) (hD:∀w es,(∀e∈es,E e)->D w w es)
 (h:∃n,∀w,I w->Goes P main R D Stop n (G (b.at (a.put o.dst v) (.inRegion ops rest::k)) cs) w):∃n,∀w,I w->Goes P main R D Stop n (G (b.at a (.inRegion ops (i::rest)::k)) cs) w:=by
 obtain ⟨n,h⟩:=h
 refine ⟨n+1,fun w hK=>Goes.step rfl fun w₁ h₁=> ?_⟩
 have sG:=W.keep _ _ h₁ hK
 rw [stepG_value ho hw hk (he w₁ sG).1]
 exact ⟨hD _ _ fun e hm=>(he w₁ sG).2 e (mem_listed hm),h w₁ sG⟩
theorem rS {p:Port} (ho:ops[i]?=some o) (hw:U_ o (yielded ops a.tmps)=true) (hk:b.kind≠.early) (hr:∀w,(V' a.eval o).run P w=.ok (.comm p.cases true p.shape) w) (he:∀w,(V' a.eval o).events P w #[]=#[]):
 gP P main p (G (b.at a (.inRegion ops (i::rest)::k)) cs) (G (b.at a (.inRegion ops (i::rest)::k)) cs):=
 ⟨rfl,rfl,rfl,rfl,fun w=>by rw [stepG_comm ho hw hk (hr w),listed_nil (he w)]⟩
theorem mD {v:M'}:Go.Conc.served (G (b.at a (.inRegion ops (i::rest)::k)) cs) v=G (b.at (a.put ((ops[i]?).bind (·.dst)) v) (.inRegion ops rest::k)) cs:=by
 simp only [Go.Conc.served,G,Frame.finish_at]
def YB (m:Region.Mode) (ops:Array y_):Nat->Array Bool->List Nat->List (List Nat)
 |0,_,acc=>[acc.reverse]
 |fuel+1,listed,acc=>
  if Region.ready m ops listed=[] then [acc.reverse] else (Region.ready m ops listed).flatMap fun i=>YB m ops fuel (listed.setIfInBounds i true) (i::acc)
variable {C:cS}
theorem VL (w:J') (es:Array Event) (h:∀e∈es,NY C i e):DR C i w w es:=⟨Out.refl _ _,h⟩
theorem HU {x k:Nat} (hs:C.St i (.cell ⟨x,k,none⟩)) (fI:¬C.Sh (.cell ⟨x,k,none⟩)):NY C i ⟨.cell ⟨x,k,none⟩,false,false⟩:=
 ⟨.inr ⟨_,rfl,fI,.inr ⟨rfl,hs⟩⟩,by simp,by simp,by simp⟩
end
section
open Go Go.RowKit Go.Conc Go.Conc.Lib Go.ConcR Go.ConcR.Gen
def GH (_:O') (_:J'):Prop:=False
theorem rX (g:O') (w:J') (h:GH g w):g.status=.running:=h.elim
variable {P:U'} {C:cS} {b:Nat}
theorem oU {o:Nat} (g:O') (w:J') (h:GH g w):∃m,Goes P true (RB C b o 0) (DW b o) (AtW1 P C b o GH GH) m g w:=h.elim
def jK (Rs:(Nat->Prop)->(Nat->aX)->Nat->Prop):Prop:=∀rel ρ bZ fT n,Rs rel ρ n->(∀j,j≠0->vS (ρ j) (fT j))->fT 0=ρ 0->(sU ρ->bZ=rel/\sU fT)->Rs bZ fT n
def Alone (rel:Nat->Prop) (ρ:Nat->aX) (_:Nat):Prop:=rel=(fun _=>False)/\sU ρ
theorem zX:jK Alone:=fun rel ρ bZ fT n h _ _ hh=>by
 obtain ⟨h1,h2⟩:=h
 obtain ⟨h3,h4⟩:=hh h2
 exact ⟨h3.trans h1,h4⟩
structure Lay (C:cS) (wl:J'):Prop where
 cut:Cut (bS C) (fy C) wl
 no:∀g r,¬C.Pv g (.obj r)/\¬C.St g (.obj r)
variable {wl w:J'} {T:Nat->Question->Nat} {d:Nat}
theorem bI.j8 (h:bI (wl.re T d) w):bI wl w:=⟨h.size,h.obj,h.os,h.out,h.ic⟩
theorem Cut.j8 {hid gd:Nat->Nat->Prop} (h:Cut hid gd (wl.re T d)):Cut hid gd wl:=⟨h.hid,h.gd⟩
theorem tN {hid gd:Nat->Nat->Prop} (w:J'):Sd hid gd w w #[]:=⟨C_ _,fun _ c _ _ h=>⟨c,h,rfl,fun _ _=>rfl⟩,fun _ _ h _=>h,fun _ o h ho=>⟨o,h,ho⟩,rfl,rfl,rfl,fun e he=>by simp at he⟩
variable {o:Nat} {Post:M'->J'->Prop} {Rs:(Nat->Prop)->(Nat->aX)->Nat->Prop} {ok:w_->Bool}
def Can (P:U') (C:cS) (b o:Nat) (Post:M'->J'->Prop) (k:Nat) (Rs:(Nat->Prop)->(Nat->aX)->Nat->Prop) (wl:J') (g:O'):Prop:=
 ∀rel ρ q gs w sl t,aC P C b o GH GH (some 0) rel ρ q gs w t->ρ 0=.self k 0->Rs rel ρ gs.size->gs[0]?=some g->bI wl w->∀n U,Shut n U wl->Below n U w->Ends P (fun v w'=>Post v w'/\Below n U w') (crowd gs w sl) t
variable {k:Nat} {g:O'}
theorem Can.re (h:Can P C b o Post k Rs wl g) (T:Nat->Question->Nat) (d:Nat):Can P C b o Post k Rs (wl.re T d) g:=fun rel ρ q gs w sl t hT hr hR hi hw n U hs=>h rel ρ q gs w sl t hT hr hR hi hw.j8 n U hs.j8
variable {zM:(Nat->Prop)->(Nat->aX)->Nat->Prop}
theorem Can.mono (h:Can P C b o Post k Rs wl g) (hR:∀rel ρ n,zM rel ρ n->Rs rel ρ n):Can P C b o Post k zM wl g:=fun rel ρ q gs w sl t hT hr hR' hi hw=>h rel ρ q gs w sl t hT hr (hR _ _ _ hR') hi hw
theorem Can.walk (hS:jK Rs) (hL:Lay C wl)
 (hW:∀w n U,bI wl w->Shut n U wl->Walk P true (Out (bS C)) (LO n U (bS C) (fy C)) (fun g' w'=>∃aK,bI aK w'/\Shut n U aK/\Can P C b o Post k Rs aK g') g w):Can P C b o Post k Rs wl g:=by
 intro rel ρ q gs w sl t T hr DC hi hw n U fI lW
 refine hold (h:=0) rX oU (.inl rfl) (((hW w n U hw fI).keeps (fun _ _ ho hb=>hM fI hL.cut hb ho) lW).mono fun _ _ _=>zC hL.no) T hr hi (Out.refl _ _) ?_
 rintro bZ fT q' gs' a' w' sl' t' T' sX hsz lE ⟨⟨aK,gC,qm,hc⟩,Rh⟩ HN hh
 exact hc _ _ _ _ _ _ _ T' sX (hsz▸hS _ _ _ _ _ DC (fun j _=>HN j) (sX.trans hr.symm) hh) lE gC n U qm Rh
variable {g':O'}
theorem Can.ctl (hS:jK Rs) (hL:Lay C wl) (hrun:g.status=.running) (hst:∀w,stepG P true g w=.go g' w #[]) (h:Can P C b o Post k Rs wl g'):Can P C b o Post k Rs wl g:=
 .walk hS hL fun _ n U hw hs=>Walk.gU hrun fun w₁ h₁=>⟨g',w₁,#[],hst w₁,⟨tN w₁,id⟩,.stop fun _ iN=>⟨wl,(hw.outside hL.cut h₁).outside hL.cut iN,hs,h⟩⟩
def Behind (P:U') (C:cS) (b o:Nat) (Post:M'->J'->Prop) (k:Nat) (Rs:(Nat->Prop)->(Nat->aX)->Nat->Prop) (aI:Y') (K:List x_) (cs:List Y') (e:Exit) (a:Act) (w:J'):Prop:=
 match e with
 | .normal=>Cut (bS C) (fy C) w->Can P C b o Post k Rs w (G (aI.at a K) cs)
 | .ret=>Cut (bS C) (fy C) w->∀todo,Can P C b o Post k Rs w (G {aI.at a todo with mode:=.returning} cs)
 |_=>False
variable {aI:Y'} {a:Act} {K:List x_} {cs:List Y'}
theorem Can.code (hp:gM P ok) (hS:jK Rs) (hL:Lay C wl) {c:Code} (hf:OkFr P ok (aI.at a [.code c])) (h:∀T d,c.wp P (Behind P C b o Post k Rs aI K cs) a (wl.re T d)):
 Can P C b o Post k Rs wl (G (aI.at a (.code c::K)) cs):=by
 refine .walk hS hL fun w n U hw fI=> ?_
 refine (zF hp (bS C) (fy C) true cs K hf (Q:=Behind P C b o Post k Rs aI K cs) (fun e a w hq=> ?_) (fun e a w T d _ hq=> ?_) h hL.cut hw fI).bind (Out.refl _) ?_
 ·cases e<;>first|exact .inl rfl|exact .inr rfl|exact hq.elim
 ·cases e<;>first|exact hq.elim|exact fun hc=>(hq hc.j8).re T d|exact fun hc todo=>(hq hc.j8 todo).re T d
 ·rintro g w' ⟨fr,aK,rfl,⟨e,a',hq,hm⟩,hc',gC,qm⟩
  refine .stop fun w₁ h₁=>⟨aK,gC.outside hc' h₁,qm, ?_⟩
  cases e with
  |normal=>rw [hm];exact hq hc'
  |ret=>obtain ⟨todo,hm⟩:=hm;rw [hm];exact hq hc' todo
  |_=>exact hq.elim
variable {α:Type} {fn:w_}
theorem Can.sem (hS:jK Rs) (hL:Lay C wl) (hrun:g.status=.running) {s:Sem α} (hs:ag P s) {nx:α->O'} (hst:∀w v w',s.run P w=.ok v w'->stepG P true g w=.go (nx v) w' (seen P fn (s.events P w #[])))
 (h:∀T d,∃v w',s.run P (wl.re T d)=.ok v w'/\(Cut (bS C) (fy C) w'->Can P C b o Post k Rs w' (nx v))):Can P C b o Post k Rs wl g:=by
 refine .walk hS hL fun w n U hw fI=>Walk.gU hrun fun w₁ h₁=> ?_
 have cv:=hw.outside hL.cut h₁
 obtain ⟨v,w',hr,hc⟩:=h w₁.tape w₁.drawn
 have NL:s.runT P (wl.re w₁.tape w₁.drawn) #[]=(.ok v w',(s.runT P (wl.re w₁.tape w₁.drawn) #[]).2):=by
  have:=Sem.runT_fst P s (wl.re w₁.tape w₁.drawn) #[]
  rw [hr] at this
  rw [<-this]
 have oJ:bI (wl.re w₁.tape w₁.drawn) w₁:=rM cv _ _
 obtain ⟨w2,h3,h4⟩:=oS hs oJ NL trivial (fun _ _=>rfl)
 have h5:s.run P w₁=.ok v w2:=by rw [<-Sem.runT_fst P s w₁ #[],h3];rfl
 have h6:s.events P w₁ #[]=(s.runT P (wl.re w₁.tape w₁.drawn) #[]).2:=by show (s.runT P w₁ #[]).2=_;rw [h3]
 have hcut:Cut (bS C) (fy C) w':=(hL.cut.re w₁.tape w₁.drawn).upd h4.gR
 refine ⟨nx v,w2,_,hst w₁ v w2 h5, ?_,.stop fun DU xo=>⟨w',h4.weak.outside hcut xo,(fI.re _ _).upd h4.gR,hc hcut⟩⟩
 rw [h6]
 exact ⟨tO (hL.cut.re _ _) h4.seen oJ.size,fun hb=>kO (fI.re _ _) hb oJ.size h4.upd⟩
variable {ops:Array y_} {i:Nat} {rest:List Nat}
theorem Can.op (hS:jK Rs) (hL:Lay C wl) {x:y_} (ho:ops[i]?=some x) (hw:U_ x (yielded ops a.tmps)=true) (hk:aI.kind≠.early) (cK:fN P ok x=true)
 (h:∀T d,∃v w',(V' a.eval x).run P (wl.re T d)=.ok (.value v) w'/\(Cut (bS C) (fy C) w'->Can P C b o Post k Rs w' (G (aI.at (a.put x.dst v) (.inRegion ops rest::K)) cs))):
 Can P C b o Post k Rs wl (G (aI.at a (.inRegion ops (i::rest)::K)) cs):=by
 refine .walk hS hL fun w n U EE fI=>Walk.gU rfl fun w₁ h₁=> ?_
 have cv:=EE.outside hL.cut h₁
 obtain ⟨v,w',hr,hc⟩:=h w₁.tape w₁.drawn
 have NL:(V' a.eval x).runT P (wl.re w₁.tape w₁.drawn) #[]=(.ok (.value v) w',((V' a.eval x).runT P (wl.re w₁.tape w₁.drawn) #[]).2):=by
  have:=Sem.runT_fst P (V' a.eval x) (wl.re w₁.tape w₁.drawn) #[]
  rw [hr] at this
  rw [<-this]
 have oJ:bI (wl.re w₁.tape w₁.drawn) w₁:=rM cv _ _
 obtain ⟨w2,h3,h4⟩:=pO (jh cK a) oJ NL (fun _ _=>rfl)
 have h5:(V' a.eval x).run P w₁=.ok (.value v) w2:=by rw [<-Sem.runT_fst P _ w₁ #[],h3]
 have h6:(V' a.eval x).events P w₁ #[]=((V' a.eval x).runT P (wl.re w₁.tape w₁.drawn) #[]).2:=by show ((V' a.eval x).runT P w₁ #[]).2=_;rw [h3]
 have hcut:Cut (bS C) (fy C) w':=(hL.cut.re w₁.tape w₁.drawn).upd h4.gR
 refine ⟨_,w2,_,stepG_value ho hw hk h5, ?_,.stop fun DU xo=>⟨w',h4.weak.outside hcut xo,(fI.re _ _).upd h4.gR,hc hcut⟩⟩
 unfold listed
 rw [h6]
 exact ⟨tO (hL.cut.re _ _) h4.seen oJ.size,fun hb=>kO (fI.re _ _) hb oJ.size h4.upd⟩
variable {x:Code}
theorem jK.s {o:Nat} {f:Y'} {y:Code} (hS:jK Rs) (hL:Lay C wl) (h:Can P C b o Post k Rs wl (G (f.at a (.code x::.code y::K)) cs)):Can P C b o Post k Rs wl (G (f.at a (.code (.seq x y)::K)) cs):=Can.ctl hS hL rfl (fun _=>stepG_seq) h
end
section
open Go Go.RowKit Go.Conc Go.Conc.Lib Go.ConcR Go.ConcR.Gen
open Go.ConcN (sumTo upd sumTo_upd upd_ne upd_same sumTo_congr)
theorem gS (w:J') (c cap:Nat) (buf:Array M') (cl:Bool) (s r:Nat) (tm:Bool) (x:Nat):(w.setChan c cap buf cl s r tm).heap[x]?=if c=x then (if c<w.heap.size then some (.chan cap buf cl s r tm) else none) else w.heap[x]?:=by
 simp only [World.setChan,Y_]
variable {w:J'} {tm:Bool}
theorem ft {c cap:Nat} {buf:Array M'} {cl:Bool} {s r:Nat} {x:Nat} (h:c≠x):(w.setChan c cap buf cl s r tm).heap[x]?=w.heap[x]?:=by
 rw [gS,if_neg h]
variable {ob:Obj}
theorem dW {c:Nat} (ho:w.heap[c]?=some ob) (hc:vV ob=false) (cap:Nat) (buf:Array M') (cl:Bool) (s r:Nat) (tm:Bool) (a:Addr):
 (w.setChan c cap buf cl s r tm).cell? a=w.cell? a/\(w.setChan c cap buf cl s r tm).frozen? a=w.frozen? a:=by
 have hlt:=(cI ho)
 unfold World.cell? World.frozen?
 by_cases e:c=a.block
 ·subst e
  rw [gS,if_pos rfl,if_pos hlt,ho]
  cases ob<;>first|(simp [vV] at hc;done)|exact ⟨rfl,rfl⟩
 ·rw [ft e];exact ⟨rfl,rfl⟩
variable {wl:J'}
theorem bI.chan (h:bI wl w) {c cap:Nat} {buf:Array M'} {s r:Nat} (hc:wl.heap[c]?=some (.chan cap buf false s r tm)):w.heap[c]?=some (.chan cap buf false s r tm):=by
 obtain ⟨o',h1,h2⟩:=h.get hc
 cases h2 with
 |same=>exact h1
 |blind hb=>cases hb
theorem bI.setChan (h:bI wl w) (c cap:Nat) (buf:Array M') (cl:Bool) (s r:Nat) (tm:Bool) (d:Nat):bI (wl.setChan c cap buf cl s r tm) ((w.at d).setChan c cap buf cl s r tm):=by
 refine ⟨by simp [World.setChan,World.at,h.size],fun x p q h1 h2=> ?_,h.os,h.out,fun x p h1=> ?_⟩
 ·rw [gS] at h1 h2
  by_cases e:c=x
  ·rw [if_pos e] at h1 h2
   split at h1
   ·split at h2
    ·cases h1;cases h2;exact .same _
    ·cases h2
   ·cases h1
  ·rw [if_neg e] at h1 h2;exact h.obj x p q h1 h2
 ·rw [gS] at h1
  split at h1
  ·split at h1
   ·cases h1;rfl
   ·cases h1
  ·exact h.ic x p h1
variable {U:J'}
theorem Shut.wy {n:Nat} (h:Shut n U wl) {c cap:Nat} {buf:Array M'} {s r:Nat} (hc:wl.heap[c]?=some (.chan cap buf false s r tm)):n<=c:=by
 by_cases hlt:c<n
 ·obtain ⟨tz,_,h2⟩:=h.obj c _ hlt hc
  cases h2 with
  |other g0 g1 g2 g3=>cases g3
 ·omega
theorem Shut.setChan {n:Nat} (h:Shut n U wl) {c:Nat} (hn:n<=c) (cap:Nat) (buf:Array M') (cl:Bool) (s r:Nat) (tm:Bool):Shut n U (wl.setChan c cap buf cl s r tm):=
 ⟨by simp only [World.setChan,X_];exact h.size,fun b o hb ho=>by rw [ft (by omega)] at ho;exact h.obj b o hb ho⟩
theorem below_setChan {n:Nat} (h:Below n U w) {c:Nat} (hn:n<=c) (d cap:Nat) (buf:Array M') (cl:Bool) (s r:Nat) (tm:Bool):Below n U ((w.at d).setChan c cap buf cl s r tm):=
 ⟨h.os,h.tape,h.output,by simp only [World.setChan,X_];exact h.size,fun b hb=>by rw [ft (by omega)];exact h.block b hb⟩
theorem Shut.Mu {n:Nat} (h:Shut n U wl) {a:Addr} {v:M'} (hv:wl.cell? a=some v) (hf:wl.frozen? a=false):n<=a.block:=by
 by_cases hlt:a.block<n
 ·obtain ⟨c,e,f,hb,hc⟩:=dF hv
  have hsp:=Kd hv
  obtain ⟨tz,_,h2⟩:=h.obj _ _ hlt hb
  obtain ⟨ab,ao,aDn⟩:=a
  cases hsp;simp only at hb hf hlt hc
  cases h2 with
  |cells g=>
   have hk:ao<c.size:=(cI hc)
   rw [p8 hb,g _ hk] at hf;cases hf
  |other g0 g1 g2 g3=>cases g1
 ·omega
theorem Cut.setChan {hid gd:Nat->Nat->Prop} (h:Cut hid gd wl) {c:Nat} (ho:wl.heap[c]?=some ob) (hc:vV ob=false) (cap:Nat) (buf:Array M') (cl:Bool) (s r:Nat) (tm:Bool):Cut hid gd (wl.setChan c cap buf cl s r tm):=
 ⟨fun b k hk=>⟨by simp only [World.setChan,X_];exact (h.hid b k hk).1,(dW ho hc cap buf cl s r tm _).1.trans (h.hid b k hk).2⟩,
  fun b k hk=>⟨by simp only [World.setChan,X_];exact (h.gd b k hk).1,(dW ho hc cap buf cl s r tm _).2.trans (h.gd b k hk).2⟩⟩
variable {C:cS}
theorem Lay.setChan (h:Lay C wl) {c:Nat} (ho:wl.heap[c]?=some ob) (hc:vV ob=false) (cap:Nat) (buf:Array M') (cl:Bool) (s r:Nat) (tm:Bool):Lay C (wl.setChan c cap buf cl s r tm):=⟨h.cut.setChan ho hc _ _ _ _ _ _,h.no⟩
variable {b i:Nat}
theorem Ee {o:Nat} (hno:∀g r,¬C.Pv g (.obj r)/\¬C.St g (.obj r)) {c:Nat} (ho:w.heap[c]?=some ob) (hc:vV ob=false) (cap:Nat) (buf:Array M') (cl:Bool) (s r:Nat) (tm:Bool) (d:Nat):RB C b o i w ((w.at d).setChan c cap buf cl s r tm):=by
 have hsc:=dW (w:=w.at d) (c:=c) ho hc cap buf cl s r tm
 refine ⟨fun _ ⟨s',m',h⟩=>⟨s',m',(hsc _).1.trans h.st,(hsc _).1.trans h.sm,(hsc _).2.trans h.thaw.1,(hsc _).2.trans h.thaw.2⟩,fun x k _=>⟨(hsc _).1,(hsc _).2⟩,fun x hx=> ?_⟩
 rcases hx with hx|hx
 ·exact absurd hx (hno i x).1
 ·exact absurd hx (hno i x).2
variable {P:U'} {o:Nat} {Post:M'->J'->Prop} {Rs zM:(Nat->Prop)->(Nat->aX)->Nat->Prop} {ok:w_->Bool} {k:Nat} {g bp:O'}
def Il (Rs:(Nat->Prop)->(Nat->aX)->Nat->Prop):Prop:=∀rel ρ bZ fT n,Rs rel ρ n->(∀j,j≠0->vS (ρ j) (fT j))->Rs bZ fT n
theorem Il.steady (h:Il Rs):jK Rs:=fun _ _ _ _ _ hR ha _ _=>h _ _ _ _ _ hR ha
variable {g':O'} {S:Loc->Prop} {N:Nat} {aK:J'}
theorem Can.UJ (hS:Il Rs) (hL:Lay C wl) {child:O'} {r:aX}
 (hN:∀rel ρ n,Rs rel ρ n->n=N) (hrun:g.status=.running) (hsp:∀w,stepG P true g w=.spawn g' child w #[])
 (hSp:∀w,bI wl w->∀l,S l->GD w l/\¬C.Sh l/\¬C.Gr l/\∀g,¬C.Pv g l)
 (aM:∀w,bI wl w->(C.on->Live b o w)->∃n,fx P (C.hire N S (fun _=>False)) b o GH GH N r n child w)
 (Ws:r.count=1/\r.dd=0/\r.isLast=false/\r.isSelf=false/\r.loose=true/\∀p h,r≠.shut p h)
 (kD:∀p h,r=.seat p h->∃k',wl.heap[p.chan]?=some (.chan 0 #[] false k' k' false))
 (Gp:∀rel ρ n,Rs rel ρ n->∀p' h',r=.seat p' h'->∀j p SL,j≠0->ρ j=.seat p SL->p.chan=p'.chan->p.out=p'.out)
 (AQ:∀w,bI wl w->bI aK w) (ub:∀n U,Shut n U wl->Shut n U aK)
 (DC:∀rel ρ n,Rs rel ρ n->zM rel (upd (upd ρ 0 (.self k 0)) N r) (N+1))
 (h:Can P (C.hire N S (fun _=>False)) b o Post k zM aK g'):Can P C b o Post (k+1) Rs wl g:=by
 intro rel ρ q gs w sl t T hr hR hi hw tC U fI lW
 refine turn (h:=0) rX oU (.inl rfl) T hr hi hrun fun jE iX rR dH w₁ ib mC km iT lq ig jo Gg jk=>.inl ?_
 have cv:=hw.outside hL.cut jk
 have ov:Rs jE iX dH.size:=by rw [lq];exact hS _ _ _ _ _ hR (fun j _=>jo j)
 have sF:=hN _ _ _ ov
 obtain ⟨f1,f2,f3,f4,f5,f6⟩:=Ws
 obtain ⟨n,hn⟩:=aM w₁ cv (fun b9=>(km.wg b9).live)
 refine ⟨_,_,runT_crowd_spawn (sl:=ib) (i:=0) ig (hsp w₁), ?_⟩
 have lK:=km.UK (a':=g') (child:=child) (S:=S) (Q:=fun _=>False) (r:=r) (n:=n) iT ig (hSp w₁ cv) (fun _ q=>q.elim) (by rw [sF];exact hn) f1 f2 f3 f4 f5 f6 (fun p' h' hp=> ?_) g.frame.fn g.frame.place child.frame.fn
 ·have QT:=km.cX
  have hlt:=QT
  rw [sF] at lK hlt
  refine (congrArg (Ends P _ _) ?_).mp (h _ _ _ _ _ ib _ lK ?_ ?_ ?_ (AQ _ cv) tC U (ub _ _ fI) (hM fI hL.cut lW jk))
  ·rw [sF];rfl
  ·rw [P_ _ _ (by omega),O_]
  ·have hsz:((dH.setIfInBounds 0 g').push child).size=N+1:=by simp [sF]
   rw [hsz]
   exact DC _ _ _ ov
  ·rw [Array.getElem?_push]
   have:(0:Nat)≠dH.size:=by omega
   simp [this,QT]
 ·obtain ⟨k',fS⟩:=kD p' h' hp
  refine ⟨⟨k',cv.chan fS⟩,fun j p SL hj hc=> ?_⟩
  refine Gp _ _ _ ov p' h' hp j p SL (fun e=> ?_) hj hc
  subst e
  rw [iT] at hj;cases hj
variable {L:WgLink} {aI:Y'} {aS:Act} {av:Array y_} {aN:Nat} {sg:List Nat} {aV:List x_} {cs:List Y'}
theorem Can.VU (H:WgLib P L) (hS:Il Rs) (hL:Lay C wl) (b9:C.on) (hN:∀rel ρ n,Rs rel ρ n->n+k<2147483640)
 (h:Can P C b o Post (k+1) Rs wl (G (aI.at (aS.put ((av[aN]?).bind (·.dst)) (.tuple #[])) (.inRegion av sg::aV)) cs)):
 Can P C b o Post k Rs wl (G ((base L.add).at ⟨#[.pointer (some ⟨b,o,none⟩),.int .i64 1]++F_ 115 I',[]⟩ [.code ((addFn L).body.getD .skip)]) (aI.at aS (.inRegion av (aN::sg)::aV)::cs)):=by
 intro rel ρ q gs w sl t T hr hR hi hw tC U fI lW
 refine R4 H rX oU b9 T hr (hN _ _ _ hR) hi ?_
 intro bZ fT q' gs' w' sl' t' T' sX xv lE had ho
 exact h _ _ _ _ _ _ _ T' sX (xv▸hS _ _ _ _ _ hR had) lE (hw.outside hL.cut ho) tC U fI (hM fI hL.cut lW ho)
def Mo (b o:Nat) (l:Loc):Prop:=True/\(l=.cell ⟨b,o,none⟩\/l=.cell ⟨b,o+1,none⟩)
theorem Can.ends (hL:Lay C wl) (hrun:g.status=.running) {v:M'} (hst:∀w,bI wl w->∃es,stepG P true g w=.ended (.done v) w es/\∀e∈es,EvM (bS C) (fy C) w.heap.size e) (xz:∀w,bI wl w->Post v w):Can P C b o Post k Alone wl g:=by
 intro rel ρ q gs w sl t T hr hR hi hw tC U fI lW
 obtain ⟨rfl,hh⟩:=hR
 refine turn (h:=0) rX oU (.inl rfl) T hr hi hrun fun jE iX rR dH w₁ ib mC km iT lq ig jo Gg jk=>.inr ?_
 obtain ⟨rfl,SB⟩:=Gg hh
 have cv:=hw.outside hL.cut jk
 obtain ⟨es,he,hes⟩:=hst w₁ cv
 refine ⟨.done v,w₁,_,ConcN.runT_crowd_ended ig he,fun wm sm=> ?_⟩
 refine km.good iT (fun j hj=> ?_) _ _ hes (fun e _ r _ g=>⟨(hL.no g r).1,fun q=>absurd q (hL.no g r).2⟩) ⟨xz _ cv,hM fI hL.cut lW jk⟩ wm sm
 rcases SB j with q|⟨d,q⟩|q
 ·exact .inr q
 ·exact .inl ⟨d,q⟩
 ·exact absurd (eY km q) hj
structure eh (P:U') (C:cS) (b o:Nat) (ae Fin:O'->J'->Prop) (h:Nat):Prop where
 ne:h≠0
 run:∀g w,ae g w->g.status=.running
 back:∀g w,ae g w->∃m,Goes P true (RB C b o 0) (DW b o) (AtW1 P C b o ae Fin) m g w
variable {ae Fin:O'->J'->Prop} {h:Nat}
theorem eh.mn {o:Nat} (B:eh P C b o ae Fin h):(h==0)=false:=by simp [B.ne]
def gh (h:Nat) (Rs:(Nat->Prop)->(Nat->aX)->Nat->Prop):Prop:=∀rel ρ bZ fT n,Rs rel ρ n->(∀j,j≠h->vS (ρ j) (fT j))->Rs bZ fT n
variable {fT:Nat->aX}
theorem wB {ρ:Nat->aX} (hz:∃s,ρ 0=.wait s) (h:vS (ρ 0) (fT 0)):∃s,fT 0=.wait s:=by
 obtain ⟨s,hs⟩:=hz
 rcases h with e|⟨e,_⟩|⟨s1,s2,_,e⟩
 ·exact ⟨s,e.trans hs⟩
 ·rw [hs] at e;cases e
 ·exact ⟨s2,e⟩
def ay (P:U') (C:cS) (b o:Nat) (ae Fin:O'->J'->Prop) (Post:M'->J'->Prop) (h:Nat) (Rs:(Nat->Prop)->(Nat->aX)->Nat->Prop) (wl:J') (g:O'):Prop:=
 ∀rel ρ q gs w sl t,aC P C b o ae Fin (some h) rel ρ q gs w t->ρ h=.self 1 0->(∃s,ρ 0=.wait s)->Rs rel ρ gs.size->gs[h]?=some g->bI wl w->∀n U,Shut n U wl->Below n U w->Ends P (fun v w'=>Post v w'/\Below n U w') (crowd gs w sl) t
theorem ay.re (hc:ay P C b o ae Fin Post h Rs wl g) (T:Nat->Question->Nat) (d:Nat):ay P C b o ae Fin Post h Rs (wl.re T d) g:=fun rel ρ q gs w sl t hT hr hz hR hi hw n U hs=>hc rel ρ q gs w sl t hT hr hz hR hi hw.j8 n U hs.j8
theorem ay.walk (B:eh P C b o ae Fin h) (hS:gh h Rs) (hL:Lay C wl)
 (hW:∀w n U,bI wl w->Shut n U wl->Walk P false (Out (bS C)) (LO n U (bS C) (fy C)) (fun g' w'=>∃aK,bI aK w'/\Shut n U aK/\ay P C b o ae Fin Post h Rs aK g') g w):ay P C b o ae Fin Post h Rs wl g:=by
 intro rel ρ q gs w sl t T hr hz DC hi hw n U fI lW
 have SD:=hW w n U hw fI
 rw [<-B.mn] at SD
 refine hold (h:=h) B.run B.back (.inr Nat.one_pos) ((SD.keeps (fun _ _ ho hb=>hM fI hL.cut hb ho) lW).mono fun _ _ _=>zC hL.no) T hr hi (Out.refl _ _) ?_
 rintro bZ fT q' gs' a' w' sl' t' T' sX hsz lE ⟨⟨aK,gC,qm,hc⟩,Rh⟩ HN hh
 exact hc _ _ _ _ _ _ _ T' sX (wB hz (HN 0)) (hsz▸hS _ _ _ _ _ DC (fun j _=>HN j)) lE gC n U qm Rh
theorem ay.ctl (B:eh P C b o ae Fin h) (hS:gh h Rs) (hL:Lay C wl) (hrun:g.status=.running) (hst:∀w,stepG P false g w=.go g' w #[]) (hc:ay P C b o ae Fin Post h Rs wl g'):ay P C b o ae Fin Post h Rs wl g:=
 .walk B hS hL fun _ n U hw hs=>Walk.gU hrun fun w₁ h₁=>⟨g',w₁,#[],hst w₁,⟨tN w₁,id⟩,.stop fun _ iN=>⟨wl,(hw.outside hL.cut h₁).outside hL.cut iN,hs,hc⟩⟩
def iM (P:U') (C:cS) (b o:Nat) (ae Fin:O'->J'->Prop) (Post:M'->J'->Prop) (h:Nat) (Rs:(Nat->Prop)->(Nat->aX)->Nat->Prop) (aI:Y') (K:List x_) (cs:List Y') (e:Exit) (a:Act) (w:J'):Prop:=
 match e with
 | .normal=>Cut (bS C) (fy C) w->ay P C b o ae Fin Post h Rs w (G (aI.at a K) cs)
 | .ret=>Cut (bS C) (fy C) w->∀todo,ay P C b o ae Fin Post h Rs w (G {aI.at a todo with mode:=.returning} cs)
 |_=>False
variable {a:Act} {K:List x_}
theorem ay.code (B:eh P C b o ae Fin h) (hp:gM P ok) (hS:gh h Rs) (hL:Lay C wl) {c:Code} (hf:OkFr P ok (aI.at a [.code c])) (hc:∀T d,c.wp P (iM P C b o ae Fin Post h Rs aI K cs) a (wl.re T d)):
 ay P C b o ae Fin Post h Rs wl (G (aI.at a (.code c::K)) cs):=by
 refine .walk B hS hL fun w n U hw fI=> ?_
 refine (zF hp (bS C) (fy C) false cs K hf (Q:=iM P C b o ae Fin Post h Rs aI K cs) (fun e a w hq=> ?_) (fun e a w T d _ hq=> ?_) hc hL.cut hw fI).bind (Out.refl _) ?_
 ·cases e<;>first|exact .inl rfl|exact .inr rfl|exact hq.elim
 ·cases e<;>first|exact hq.elim|exact fun hc=>(hq hc.j8).re T d|exact fun hc todo=>(hq hc.j8 todo).re T d
 ·rintro g w' ⟨fr,aK,rfl,⟨e,a',hq,hm⟩,hc',gC,qm⟩
  refine .stop fun w₁ h₁=>⟨aK,gC.outside hc' h₁,qm, ?_⟩
  cases e with
  |normal=>rw [hm];exact hq hc'
  |ret=>obtain ⟨todo,hm⟩:=hm;rw [hm];exact hq hc' todo
  |_=>exact hq.elim
theorem ay.call (B:eh P C b o ae Fin h) (hp:gM P ok) (hS:gh h Rs) (hL:Lay C wl) {c:Y'} {f:w_} (h1:ok f=true) (h2:rU P f=true) {args:Array M'}
 (hc:∀T d,Calls P f args (wl.re T d) fun e w'=>∃v,e=.returned v/\(Cut (bS C) (fy C) w'->ay P C b o ae Fin Post h Rs w' (G (c.finish v) cs))):ay P C b o ae Fin Post h Rs wl (G (Frame.enter P f args .normal) (c::cs)):=by
 refine .walk B hS hL fun w n U hw fI=> ?_
 refine (zG hp (bS C) (fy C) false c cs h1 h2 (R:=fun v w'=>Cut (bS C) (fy C) w'->ay P C b o ae Fin Post h Rs w' (G (c.finish v) cs)) (fun v w T d hq hc=>(hq hc.j8).re T d) hc hL.cut hw fI).bind (Out.refl _) ?_
 rintro g w' ⟨v,aK,rfl,hq,hc',gC,qm⟩
 exact .stop fun w₁ h₁=>⟨aK,gC.outside hc' h₁,qm,hq hc'⟩
variable {ops:Array y_} {rest:List Nat}
theorem ay.op (B:eh P C b o ae Fin h) (hS:gh h Rs) (hL:Lay C wl) {x:y_} (ho:ops[i]?=some x) (hw:U_ x (yielded ops a.tmps)=true) (hk:aI.kind≠.early) (cK:fN P ok x=true)
 (hx:∀T d,∃v w',(V' a.eval x).run P (wl.re T d)=.ok (.value v) w'/\(Cut (bS C) (fy C) w'->ay P C b o ae Fin Post h Rs w' (G (aI.at (a.put x.dst v) (.inRegion ops rest::K)) cs))):
 ay P C b o ae Fin Post h Rs wl (G (aI.at a (.inRegion ops (i::rest)::K)) cs):=by
 refine .walk B hS hL fun w n U EE fI=>Walk.gU rfl fun w₁ h₁=> ?_
 have cv:=EE.outside hL.cut h₁
 obtain ⟨v,w',hr,hc⟩:=hx w₁.tape w₁.drawn
 have NL:(V' a.eval x).runT P (wl.re w₁.tape w₁.drawn) #[]=(.ok (.value v) w',((V' a.eval x).runT P (wl.re w₁.tape w₁.drawn) #[]).2):=by
  have:=Sem.runT_fst P (V' a.eval x) (wl.re w₁.tape w₁.drawn) #[]
  rw [hr] at this
  rw [<-this]
 have oJ:bI (wl.re w₁.tape w₁.drawn) w₁:=rM cv _ _
 obtain ⟨w2,h3,h4⟩:=pO (jh cK a) oJ NL (fun _ _=>rfl)
 have h5:(V' a.eval x).run P w₁=.ok (.value v) w2:=by rw [<-Sem.runT_fst P _ w₁ #[],h3]
 have h6:(V' a.eval x).events P w₁ #[]=((V' a.eval x).runT P (wl.re w₁.tape w₁.drawn) #[]).2:=by show ((V' a.eval x).runT P w₁ #[]).2=_;rw [h3]
 have hcut:Cut (bS C) (fy C) w':=(hL.cut.re w₁.tape w₁.drawn).upd h4.gR
 refine ⟨_,w2,_,stepG_value ho hw hk h5, ?_,.stop fun DU xo=>⟨w',h4.weak.outside hcut xo,(fI.re _ _).upd h4.gR,hc hcut⟩⟩
 unfold listed
 rw [h6]
 exact ⟨tO (hL.cut.re _ _) h4.seen oJ.size,fun hb=>kO (fI.re _ _) hb oJ.size h4.upd⟩
variable {kk:Nat}
theorem ay.closes (B:eh P C b o ae Fin h) (hS:gh h Rs) (hL:Lay C wl) (b9:C.on) {c:Nat} (gv:wl.heap[c]?=some (.chan 0 #[] false kk kk false)) (hrun:g.status=.running)
 (hst:∀w,w.heap[c]?=some (.chan 0 #[] false kk kk false)->stepG P false g w=.go g' (w.setChan c 0 #[] true kk kk false) (closeEvents c)) (QP:mayWake P g=true) (xw:g'.status=.running)
 (KD:∀rel ρ n,Rs rel ρ n->∀j p home,j≠0->j≠h->ρ j=.seat p home->p.chan=c->∃z ok,p=.recv c z ok/\∀bp w,home bp w->∃m,Goes P false (RB C b o j) (DR C j) (AtR0 P C b o j) m (Go.Conc.served bp (recvd ok z false)) w)
 (DC:∀rel ρ n,Rs rel ρ n->zM rel (fun j=>bD c (ρ j)) n)
 (hc:ay P C b o ae Fin Post h zM (wl.setChan c 0 #[] true kk kk false) g'):ay P C b o ae Fin Post h Rs wl g:=by
 intro rel ρ q gs w sl t T hr hz hR hi hw tC U fI lW
 refine turn (h:=h) B.run B.back (.inr Nat.one_pos) T hr hi hrun fun jE iX rR dH w₁ ib mC km iT lq ig jo Gg jk=>.inl ?_
 have cv:=hw.outside hL.cut jk
 have ov:Rs jE iX dH.size:=by rw [lq];exact hS _ _ _ _ _ hR (fun j _=>jo j)
 have CH:=wB hz (jo 0)
 have tZ:=cv.chan gv
 have hlt:h<dH.size:=(cI ig)
 obtain ⟨Jo,lK⟩:=km.closed b9 B.run iT ig (a':=g') tZ (fun g=>⟨(hL.no g c).2,(hL.no g c).1⟩) QP xw (fun j p home hj hc=>by
  have KI:j≠h:=by rintro rfl;rw [iT] at hj;cases hj
  have Nn:j≠0:=by
   rintro rfl
   obtain ⟨s,hs⟩:=CH
   rw [hs] at hj;cases hj
  exact ⟨by omega,KD _ _ _ ov j p home Nn KI hj hc⟩)
 have xu:stepG P (h==0) g w₁=.go g' (w₁.setChan c 0 #[] true kk kk false) (closeEvents c):=by rw [B.mn];exact hst w₁ tZ
 refine ⟨_,_,runT_crowd_go (sl:=ib) (i:=h) ig xu, ?_⟩
 refine hc _ _ _ _ _ ib _ lK (by simp only [iT,bD]) ?_ ?_ (by simp [hlt]) (cv.setChan c 0 #[] true kk kk false w₁.drawn) tC U (fI.setChan (fI.wy gv) _ _ _ _ _ _) (below_setChan (hM fI hL.cut lW jk) (fI.wy gv) w₁.drawn _ _ _ _ _ _)
 ·obtain ⟨s,hs⟩:=CH
  exact ⟨s,by simp only [hs,bD]⟩
 ·have hsz:((dH.map (woken P g g' (w₁.setChan c 0 #[] true kk kk false))).setIfInBounds h g').size=dH.size:=by simp
  rw [hsz]
  exact DC _ _ _ ov
variable {f:Y'}
variable {x:Code}
theorem eh.s {y:Code} (B:eh P C b o ae Fin h) (q:ay P C b o ae Fin Post h Rs wl (G (f.at a (.code x::.code y::K)) cs)) (hS:gh h Rs:=by assumption) (hL:Lay C wl:=by assumption):ay P C b o ae Fin Post h Rs wl (G (f.at a (.code (.seq x y)::K)) cs):=ay.ctl B hS hL rfl (fun _=>stepG_seq) q
variable {j:Nat} {l:List Nat}
theorem eh.r [i:Rg ops l] (B:eh P C b o ae Fin h) (q:ay P C b o ae Fin Post h Rs wl (G (f.at a (.inRegion ops l::K)) cs)) (hS:gh h Rs:=by assumption) (hL:Lay C wl:=by assumption):ay P C b o ae Fin Post h Rs wl (G (f.at a (.code (.region j ops false)::K)) cs):=ay.ctl B hS hL rfl (fun _=>zb) q
theorem eh.e (B:eh P C b o ae Fin h) (q:ay P C b o ae Fin Post h Rs wl (G (f.at a (K)) cs)) (hS:gh h Rs:=by assumption) (hL:Lay C wl:=by assumption):ay P C b o ae Fin Post h Rs wl (G (f.at a (.inRegion ops []::K)) cs):=ay.ctl B hS hL rfl (fun _=>stepG_region_end) q
theorem eh.c {y:Code} {c:Operand} {t:Bool} (B:eh P C b o ae Fin h) (hc:a.eval c=.bool t) (q:ay P C b o ae Fin Post h Rs wl (G (f.at a (.code (if t then x else y)::K)) cs)) (hS:gh h Rs:=by assumption) (hL:Lay C wl:=by assumption):ay P C b o ae Fin Post h Rs wl (G (f.at a (.code (.cond c x y)::K)) cs):=ay.ctl B hS hL rfl (fun _=>stepG_cond hc) q
theorem eh.t {y:Code} {c:Operand} (B:eh P C b o ae Fin h) (hc:a.eval c=.bool true) (q:ay P C b o ae Fin Post h Rs wl (G (f.at a (.code x::K)) cs)) (hS:gh h Rs:=by assumption) (hL:Lay C wl:=by assumption):ay P C b o ae Fin Post h Rs wl (G (f.at a (.code (.cond c x y)::K)) cs):=ay.ctl B hS hL rfl (fun _=>stepG_cond hc) q
theorem eh.z {y:Code} {c:Operand} (B:eh P C b o ae Fin h) (hc:a.eval c=.bool false) (q:ay P C b o ae Fin Post h Rs wl (G (f.at a (.code y::K)) cs)) (hS:gh h Rs:=by assumption) (hL:Lay C wl:=by assumption):ay P C b o ae Fin Post h Rs wl (G (f.at a (.code (.cond c x y)::K)) cs):=ay.ctl B hS hL rfl (fun _=>stepG_cond hc) q
end
section
open Go Go.Conc Go.Conc.Lib Go.ConcR Go.ConcR.Gen
open Go.ConcN (sumTo upd sumTo_upd upd_ne upd_same sumTo_congr)
variable {P:U'} {C:cS} {b o:Nat} {Post:M'->J'->Prop} {Rs zM:(Nat->Prop)->(Nat->aX)->Nat->Prop} {ok:w_->Bool} {k:Nat} {wl:J'} {g bp:O'}
structure Eqd {α:Type} (a b:α):Prop where
 out:a=b
variable {aI:Y'} {a:Act} {K:List x_} {cs:List Y'}
theorem Can.cY (hp:gM P ok) (hS:jK Rs) (hL:Lay C wl) {c:Code} (hf:OkFr P ok (aI.at a [.code c])) (h:∀T d W,Eqd W (wl.re T d)->∀B,Eqd B (Behind P C b o Post k Rs aI K cs)->c.wp P B a W):
 Can P C b o Post k Rs wl (G (aI.at a (.code c::K)) cs):=Can.code hp hS hL hf fun T d=>h T d _ ⟨rfl⟩ _ ⟨rfl⟩
def db (B:Nat) (rel:Nat->Prop) (ρ:Nat->aX) (n:Nat):Prop:=Alone rel ρ n/\n<=B
theorem cT (B:Nat):jK (db B):=fun rel ρ bZ fT n h ha h0 hh=>⟨zX rel ρ bZ fT n h.1 ha h0 hh,h.2⟩
variable {B:Nat}
theorem db.mono {B':Nat} (h:B<=B'):∀rel ρ n,db B rel ρ n->db B' rel ρ n:=fun _ _ _ hh=>⟨hh.1,D_ hh.2 h⟩
variable {aK:J'}
theorem Can.NH {b' o':Nat} {Rn:Nat->(Nat->Prop)->(Nat->aX)->Nat->Prop} (hL:Lay C wl) (my:cx b' o' wl 0 0) (AQ:∀w,bI wl w->bI aK w) (ub:∀n U,n<=b'->Shut n U wl->Shut n U aK)
 (DC:∀N rel ρ,0<N->N<=B->Alone rel ρ N->(∀j,(ρ j).isSelf=true->j=0)->Rn N rel ρ N) (h:∀N,0<N->N<=B->Can P (C.anew N (Mo b' o') True ⟨b',o',none⟩) b' o' Post 0 (Rn N) aK g):Can P C b o Post 0 (db B) wl g:=by
 intro rel ρ q gs w sl t T hr hR hi hw tC U fI lW
 obtain ⟨⟨rfl,hh⟩,hB⟩:=hR
 have nh:∀j v,wl.cell? ⟨b',j,none⟩=some v->¬C.Sh (.cell ⟨b',j,none⟩)/\¬C.Gr (.cell ⟨b',j,none⟩):=fun j v hv=>
  ⟨fun q=>absurd (hv.symm.trans (hL.cut.hid b' j (.inl q)).2) (by simp),fun q=>absurd (hv.symm.trans (hL.cut.hid b' j (.inr (.inl q))).2) (by simp)⟩
 have lK:=T.anew hr hh True b' o' GH GH (fun _=>⟨⟨hw.cell my.st,hw.cell my.sm,hw.frozen my.st my.thaw.1,hw.frozen my.sm my.thaw.2⟩,fun j hj=>by
  rcases hj with rfl|rfl
  ·exact nh _ _ my.st
  ·exact nh _ _ my.sm⟩)
 exact h gs.size T.cX hB _ _ _ _ _ _ _ lK hr (DC _ _ _ T.cX hB ⟨rfl,hh⟩ (fun j q=>eY T q)) hi (AQ _ hw) tC U (ub _ _ (fI.Mu my.st my.thaw.1) fI) lW
end
section
open Go Go.RowKit Go.Conc Go.Conc.Lib Go.ConcR Go.ConcR.Gen
open Go.ConcN (sumTo upd sumTo_upd upd_ne upd_same sumTo_congr)
variable {P:U'} {C:cS} {b o:Nat} {ae Fin:O'->J'->Prop} {who who':Option Nat} {rel bZ:Nat->Prop} {ρ fT:Nat->aX} {q:Nat->Nat} {gs gs':Array O'} {w w':J'} {t t' u:Trace} {sl:Option (Nat × Nat)}
variable {Post:M'->J'->Prop} {h k d:Nat} {a:O'}
theorem GL {n:Nat} (h0:h≠0) (hr:ρ h=.self 1 0) (hlt:h<n) (hw:dy b o ρ n w):dy b o (upd ρ h .done) n w:=by
 have e0:upd ρ h .done 0=ρ 0:=P_ _ _ (ru h0)
 have el:∀j,(upd ρ h .done j).isLast=(ρ j).isLast:=fun j=>by
  by_cases e:j=h
  ·subst e;rw [O_,hr];rfl
  ·rw [P_ _ _ e]
 have ec:cnt (upd ρ h .done) n=cnt ρ n:=js hlt (by rw [hr];rfl)
 have er:∀i r,r≠.done->r≠.self 1 0->(upd ρ h .done i=r↔ρ i=r):=fun i r h1 h2=>by
  by_cases e:i=h
  ·subst e;rw [O_,hr];exact ⟨fun e=>absurd e.symm h1,fun e=>absurd e.symm h2⟩
  ·rw [P_ _ _ e]
 unfold dy at hw ⊢
 rw [e0,ec]
 simp only [el,er _ .ky (by simp) (by simp),er _ .kx (by simp) (by simp),er _ .ku (by simp) (by simp)]
 exact hw
theorem aC.leaves {n:Nat} (T:aC P C b o ae Fin (some h) rel ρ q gs w t) (hr:ρ h=.self 1 0) (h0:h≠0) (hi:gs[h]?=some a) (hg:Goes P false (RB C b o h) (DR C h) (AtR0 P C b o h) n a w):
 aC P C b o ae Fin (some h) rel (upd ρ h .done) (upd q h n) gs w t:=by
 have hlt:h<gs.size:=(cI hi)
 have b9:C.on:=T.jw (i:=h) (by rw [hr];exact Nat.one_ne_zero)
 have jW:cnt (upd ρ h .done) gs.size=cnt ρ gs.size:=js hlt (by rw [hr];rfl)
 have ho:∀{j:Nat} {r:aX},r≠.done->upd ρ h .done j=r->j≠h/\ρ j=r:=fun {j r} hn e=>by
  by_cases ej:j=h
  ·subst ej;rw [O_] at e;exact absurd e.symm hn
  ·rw [P_ _ _ ej] at e;exact ⟨ej,e⟩
 refine ⟨T.ok,T.ad,T.yk,T.IB,fun g hg=> ?_,T.old,T.plain,T.CG,T.mO, ?_,fun i y hy=> ?_,fun i lE=> ?_,fun i p home e=>T.chans i p home (ho (by simp) e).2,fun i j p p' h₁ iN e e'=>T.apart i j p p' h₁ iN (ho (by simp) e).2 (ho (by simp) e').2,fun i p home e=>T.shuts i p home (ho (by simp) e).2,fun i k d e=>T.one i k d (ho (by simp) e).2,fun x hx=> ?_,by rw [jW];exact T.few,fun c=>GL h0 hr hlt (T.wg c),fun c=>absurd b9 c,T.cX,fun e1 e2=> ?_⟩
 ·obtain ⟨d,e⟩:=T.Ls g hg
  rw [P_ _ _ (by rintro rfl;rw [hr] at e;cases e)]
  exact ⟨d,e⟩
 ·have e1:(fun j=>(upd ρ h .done j).dd)=fun j=>(ρ j).dd:=by
   funext j
   by_cases e:j=h
   ·subst e;rw [O_,hr];rfl
   ·rw [P_ _ _ e]
  rw [e1]
  refine T.tr.n9 (fun p hp=>.inl hp) (fun z a ha hm hs _=>⟨fun hk=>.inl hk,fun g hg hl=>.inr ?_⟩)
  rcases hl with hl|hl
  ·refine .inl ?_
   by_cases e:g=h
   ·subst e;rw [O_];rfl
   ·rw [P_ _ _ e];exact hl
  ·exact .inr hl
 ·by_cases e:i=h
  ·subst e
   rw [hi] at hy;obtain rfl:=some_inj hy
   rw [O_,O_]
   exact ⟨by omega,hg⟩
  ·rw [P_ _ _ e,P_ _ _ e];exact T.eD i y hy
 ·rw [P_ _ _ (by omega)];exact T.above i lE
 ·obtain rfl:=some_inj hx
  rw [O_];exact .inr (.inr rfl)
 ·rw [P_ _ _ (ru h0)] at e1 ⊢
  exact T.awake e1 e2
variable {Rs zM:(Nat->Prop)->(Nat->aX)->Nat->Prop} {wl:J'} {g gm:O'}
theorem ay.leaves (B:eh P C b o ae (Fs P C gm) h) (hL:Lay C wl) (hg:∀w,bI wl w->(C.on->Live b o w)->∃n,Goes P false (RB C b o h) (DR C h) (AtR0 P C b o h) n g w)
 {B₁:Nat} (hn:∀rel ρ n,Rs rel ρ n->n<=B₁) (eU:∀rel ρ n,Rs rel ρ n->∀j,j≠0->j≠h->(ρ j).leaving=true\/ρ j=.none) (hc:Can P C b o Post 0 (db B₁) wl gm):ay P C b o ae (Fs P C gm) Post h Rs wl g:=by
 intro rel ρ q gs w sl t T hr hz hR hi hw n U fI lW
 obtain ⟨s,hs⟩:=hz
 obtain ⟨n',iJ⟩:=hg w hw (fun b9=>(T.wg b9).live)
 have km:=T.leaves hr B.ne hi iJ
 refine join B.run B.back km (s:=s) (by rw [P_ _ _ (ru B.ne)];exact hs) (fun j hj=> ?_) fun iX rR dH a₁ w₁ ib mC lK qH xt uL lI CO hq=> ?_
 ·by_cases e:j=h
  ·subst e;rw [O_];exact .inl rfl
  ·rw [P_ _ _ e];exact eU _ _ _ hR j hj e
 obtain ⟨m,hg⟩:=lI
 have UR:sU iX:=fun j=>by
  by_cases e:j=0
  ·subst e;rw [qH];exact .inr (.inr rfl)
  ·rcases hq j e with ⟨d,h⟩|h
   ·exact .inr (.inl ⟨d,h⟩)
   ·exact .inl h
 refine hold B.run B.back (.inl rfl) (Walk.mono (fun _ _ _ x=>xS x) (Walk.vZ (sJ hg))) lK qH uL (Out.refl _ _) fun P2 SV X8 aBs aDa DU N7 X3 NU FV Kb Gf EF KM UO=> ?_
 obtain ⟨rfl,FZ⟩:=EF
 obtain ⟨rfl,hh⟩:=UO UR
 exact hc _ _ _ _ _ _ _ (NU.Jm (by rw [FV];simp) GH GH) FV ⟨⟨rfl,hh⟩,by rw [Kb,xt];exact hn _ _ _ hR⟩ Gf (hw.outside hL.cut (CO.trans FZ)) n U fI (hM fI hL.cut lW (CO.trans FZ))
variable {g':O'} {N:Nat}
theorem Can.leads (hS:Il Rs) (hL:Lay C wl) {child:O'}
 (hN:∀rel ρ n,Rs rel ρ n->n=N) (hrun:g.status=.running) (hsp:∀w,stepG P true g w=.spawn g' child w #[]) (b9:C.on)
 (Ut:∀w,Live b o w->∃n,Goes P true (RB C b o 0) (DW b o) (AtKd P C b o ae) n g' w)
 (DC:∀rel ρ n,Rs rel ρ n->zM rel (upd (upd ρ 0 (.wait .w0)) N (.self 1 0)) (N+1))
 (hc:ay P C b o ae Fin Post N zM wl child):Can P C b o Post 1 Rs wl g:=by
 intro rel ρ q gs w sl t T hr hR hi hw tC U fI lW
 refine turn (h:=0) rX oU (.inl rfl) T hr hi hrun fun jE iX rR dH w₁ ib mC km iT lq ig jo Gg jk=>.inl ?_
 have cv:=hw.outside hL.cut jk
 have ov:Rs jE iX dH.size:=by rw [lq];exact hS _ _ _ _ _ hR (fun j _=>jo j)
 have sF:=hN _ _ _ ov
 obtain ⟨n,hn⟩:=Ut w₁ (km.wg b9).live
 refine ⟨_,_,runT_crowd_spawn (sl:=ib) (i:=0) ig (hsp w₁), ?_⟩
 have lK:=(km.Jm (by rw [iT];simp) ae Fin).led (a':=g') (child:=child) iT ig hn g.frame.fn g.frame.place child.frame.fn
 have QT:=km.cX
 rw [sF] at lK
 have hlt:0<N:=by omega
 refine (congrArg (Ends P _ _) ?_).mp (hc _ _ _ _ _ ib _ lK (O_ _ _ _) ⟨.w0,by rw [P_ _ _ (by omega),O_]⟩ ?_ ?_ cv tC U fI (hM fI hL.cut lW jk))
 ·rw [sF];rfl
 ·have hsz:((dH.setIfInBounds 0 g').push child).size=N+1:=by simp [sF]
  rw [hsz]
  exact DC _ _ _ ov
 ·rw [Array.getElem?_push]
  simp [sF]
variable {bp:O'}
variable {pH:Port} {j kk:Nat}
theorem ay.passes (B:eh P C b o ae Fin h) (hS:gh h Rs) (hL:Lay C wl) {p pn:Port} {home hn:O'->J'->Prop} (fH:gP P false pH g bp)
 (hj:∀rel ρ n,Rs rel ρ n->ρ j=.seat p home) (KI:j≠h) (hch:p.chan=pH.chan) (Ui:p.out≠pH.out)
 (TY:∀rel ρ n i p' pq,Rs rel ρ n->(∃s,ρ 0=.wait s)->i≠h->ρ i=.seat p' pq->p'.chan=pH.chan->p'.out≠pH.out->i=j)
 (gv:wl.heap[pH.chan]?=some (.chan 0 #[] false kk kk false))
 (hrh:∀w,bI (wl.setChan pH.chan 0 #[] false (kk+1) (kk+1) false) w->(C.on->Live b o w)->∃n,fx P C b o ae Fin h (.seat pn hn) n (Go.Conc.served bp (pH.gets p)) w)
 (kD:∃k',wl.heap[pn.chan]?=some (.chan 0 #[] false k' k' false))
 (Gp:∀rel ρ n,Rs rel ρ n->ρ h=.self 1 0->(∃s,ρ 0=.wait s)->∀x y p p' h₁ iN,upd (upd ρ j (.self 1 0)) h (.seat pn hn) x=.seat p h₁->upd (upd ρ j (.self 1 0)) h (.seat pn hn) y=.seat p' iN->p.chan=p'.chan->p.out=p'.out)
 (DC:∀rel ρ n,Rs rel ρ n->zM rel (upd (upd ρ j (.self 1 0)) h (.seat pn hn)) n)
 (hc:∀a₂ w,home a₂ w->bI wl w->ay P C b o ae Fin Post j zM (wl.setChan pH.chan 0 #[] false (kk+1) (kk+1) false) (Go.Conc.served a₂ (p.gets pH))):ay P C b o ae Fin Post h Rs wl g:=by
 intro rel ρ q gs w sl t T hr hz hR hi hw tC U fI lW
 have xH:=fH
 rw [<-B.mn] at xH
 refine meet (h:=h) B.run B.back (.inr Nat.one_pos) T hr hi (a₂:=bp) (pH:=pH) xH ⟨j,p,home,hj _ _ _ hR,hch,Ui⟩ ?_
 intro jE iX rR dH w₁ ib mC i Ys Nc a₂ FO pw lZ DY km iT lq jo jk qJ vB MX Re QH UT tZ M
 obtain rfl:=TY _ _ _ i Ys Nc hR hz qJ vB Re QH
 have uH:=(hj _ _ _ hR).symm.trans vB
 simp only [aX.seat.injEq] at uH
 obtain ⟨rfl,rfl⟩:=uH
 have cv:=hw.outside hL.cut jk
 have ER:=cv.chan gv
 rw [tZ] at ER
 simp only [n_,Obj.chan.injEq] at ER
 obtain ⟨_,_,_,rfl,_⟩:=ER
 obtain ⟨d,hwd⟩:=M.world
 have ov:Rs jE iX gs.size:=hS _ _ _ _ _ hR (fun j _=>jo j)
 have CH:=wB hz (jo 0)
 have Zr:i≠0:=fun e=>by
  obtain ⟨s,hs⟩:=hz
  rw [e,hs] at vB;cases vB
 have OA:bI (wl.setChan pH.chan 0 #[] false (FO+1) (FO+1) false) lZ:=by rw [hwd];exact cv.setChan _ _ _ _ _ _ _ _
 have UA:C.on->Live b o lZ:=fun b9=>by
  have:=(Ee (C:=C) (b:=b) (o:=o) (i:=h) hL.no tZ rfl 0 #[] false (FO+1) (FO+1) false d).live b9 ((km.wg b9).live)
  rw [hwd];exact this
 obtain ⟨n,bH⟩:=hrh lZ OA UA
 have xC:h<dH.size:=by rw [lq];exact (cI hi)
 have lK:=km.Fi (D:=C) (who':=some i) (ri:=.self 1 0) (rh:=.seat pn hn) (ni:=0) (nh:=n) iT rfl (.inl rfl) MX qJ xC tZ (fun g=>⟨(hL.no g _).2,(hL.no g _).1⟩) M trivial bH rfl rfl rfl rfl rfl rfl (fun s=>by simp) (fun s=>by simp) (fun p' h' hp=> ?_) (fun p' h'=>⟨by simp,by simp⟩)
  (Gp _ _ _ ov iT CH) (.inr ⟨rfl,rfl,.inr (.inl rfl)⟩)
 ·refine hc a₂ w₁ UT cv _ _ _ _ _ _ _ lK (by rw [P_ _ _ qJ,O_]) ?_ (DC _ _ _ ?_) M.two OA tC U ?_ ?_
  ·rw [P_ _ _ (ru B.ne),P_ _ _ (ru Zr)];exact CH
  ·rw [M.size,lq];exact ov
  ·exact fI.setChan (fI.wy gv) _ _ _ _ _ _
  ·rw [hwd];exact below_setChan (hM fI hL.cut lW jk) (fI.wy gv) _ _ _ _ _ _ _
 ·rcases hp with hp|hp
  ·cases hp
  ·cases hp
   obtain ⟨k',fS⟩:=kD
   exact ⟨k',cv.chan fS⟩
end
section
open Go Go.Conc Go.Conc.Lib Go.ConcR Go.ConcR.Gen
def jd (ops:Array y_):Nat->Array Bool->List (List Nat)
 |0,_=>[[]]
 |fuel+1,listed=>if (Region.ready .any ops listed).isEmpty then [[]] else (Region.ready .any ops listed).flatMap fun i=>(jd ops fuel (listed.setIfInBounds i true)).map (i::·)
theorem MU (ops:Array y_):∀(fuel t:Nat) (listed:Array Bool),Region.linearise.go .any ops fuel t listed []∈jd ops fuel listed:=by
 intro fuel
 induction fuel with
 |zero=>intro t listed;simp [Region.linearise.go,jd]
 |succ fuel ih=>
  intro t listed
  simp only [Region.linearise.go]
  change (match (Region.ready .any ops listed)[t % (Region.ready .any ops listed).length]? with
   |some i=>Region.linearise.go .any ops fuel (t / (Region.ready .any ops listed).length) (listed.setIfInBounds i true) [i]
   |none=>[].reverse)∈_
  cases hi:(Region.ready .any ops listed)[t % (Region.ready .any ops listed).length]? with
  |none=>
   have Y9:Region.ready .any ops listed=[]:=by
    cases hr:Region.ready .any ops listed with
    |nil=>rfl
    |cons x xs=>
     rw [hr] at hi
     have hlt:t % (x::xs).length<(x::xs).length:=Nat.mod_lt _ (by simp)
     simp at hi
     simp at hlt
     omega
   simp [jd,Y9]
  |some i=>
   have hm:=List.mem_of_getElem? hi
   have hne:(Region.ready .any ops listed).isEmpty=false:=by
    cases hr:Region.ready .any ops listed with
    |nil=>rw [hr] at hm;cases hm
    |cons x xs=>rfl
   simp only []
   rw [linearise_go_acc,List.reverse_singleton,List.singleton_append]
   simp only [jd,hne,qp,if_false,List.mem_flatMap,List.mem_map]
   exact ⟨i,hm,_,ih _ _,rfl⟩
variable {P:U'} {C:cS} {b o:Nat} {Post:M'->J'->Prop} {Rs:(Nat->Prop)->(Nat->aX)->Nat->Prop} {k:Nat} {wl:J'} {ok:w_->Bool}
variable {ae Fin:O'->J'->Prop} {h₀:Nat}
variable {aI:Y'} {a:Act} {id:Nat} {ops:Array y_} {K:List x_} {cs:List Y'}
theorem ay.drawn (hm:P.follows .mixedOrders=true) (B:eh P C b o ae Fin h₀) (hS:gh h₀ Rs) (hL:Lay C wl) {l:List (List Nat)} (hl:jd ops ops.size (F_ ops.size false)=l) (h:∀p∈l,ay P C b o ae Fin Post h₀ Rs wl (G (aI.at a (.inRegion ops p::K)) cs)):
 ay P C b o ae Fin Post h₀ Rs wl (G (aI.at a (.code (.region id ops true)::K)) cs):=by
 refine ay.walk B hS hL fun _ n U hw fI=>Walk.gU rfl fun w₁ h₁=> ?_
 have cv:=hw.outside hL.cut h₁
 refine ⟨_,_,#[],stepG_region_draw,⟨⟨C_ _,fun _ c _ _ h=>⟨c,h,rfl,fun _ _=>rfl⟩,fun _ _ h _=>h,fun _ o h ho=>⟨o,h,ho⟩,rfl,rfl,rfl,fun e he=>by simp at he⟩,fun hb=>⟨hb.os,hb.tape,hb.output,hb.size,hb.block⟩⟩,.stop fun lZ iN=>⟨wl, ?_,fI, ?_⟩⟩
 ·exact bI.outside (w:={w₁ with drawn:=w₁.drawn+1}) ⟨cv.size,cv.obj,cv.os,cv.out,cv.ic⟩ hL.cut iN
 ·simp only [Region.schedule,hm,Bool.true_or,if_true]
  exact h _ (hl▸MU ops _ _ _)
variable {i:Nat} {rest:List Nat}
theorem ay.Wh (B:eh P C b o ae Fin h₀) (hS:gh h₀ Rs) (hL:Lay C wl) {x:y_} (ho:ops[i]?=some x) (hw:U_ x (yielded ops a.tmps)=true) (hk:aI.kind≠.early) (cK:fN P ok x=true)
 (h:∀T d,∃w',(V' a.eval x).run P (wl.re T d)=.ok .skip w'/\(Cut (bS C) (fy C) w'->ay P C b o ae Fin Post h₀ Rs w' (G (aI.at (a.put x.dst I') (.inRegion ops rest::K)) cs))):
 ay P C b o ae Fin Post h₀ Rs wl (G (aI.at a (.inRegion ops (i::rest)::K)) cs):=by
 refine ay.walk B hS hL fun w n U EE fI=>Walk.gU rfl fun w₁ h₁=> ?_
 have cv:=EE.outside hL.cut h₁
 obtain ⟨w',hr,hc⟩:=h w₁.tape w₁.drawn
 have NL:(V' a.eval x).runT P (wl.re w₁.tape w₁.drawn) #[]=(.ok .skip w',((V' a.eval x).runT P (wl.re w₁.tape w₁.drawn) #[]).2):=by
  have:=Sem.runT_fst P (V' a.eval x) (wl.re w₁.tape w₁.drawn) #[]
  rw [hr] at this
  rw [<-this]
 have oJ:bI (wl.re w₁.tape w₁.drawn) w₁:=rM cv _ _
 obtain ⟨w2,h3,h4⟩:=pO (jh cK a) oJ NL (fun _ _=>rfl)
 have h5:(V' a.eval x).run P w₁=.ok .skip w2:=by rw [<-Sem.runT_fst P _ w₁ #[],h3]
 have h6:(V' a.eval x).events P w₁ #[]=((V' a.eval x).runT P (wl.re w₁.tape w₁.drawn) #[]).2:=by show ((V' a.eval x).runT P w₁ #[]).2=_;rw [h3]
 have hcut:Cut (bS C) (fy C) w':=(hL.cut.re w₁.tape w₁.drawn).upd h4.gR
 refine ⟨_,w2,_,stepG_none ho hw hk h5, ?_,.stop fun DU xo=>⟨w',h4.weak.outside hcut xo,(fI.re _ _).upd h4.gR,hc hcut⟩⟩
 unfold listed
 rw [h6]
 exact ⟨tO (hL.cut.re _ _) h4.seen oJ.size,fun hb=>kO (fI.re _ _) hb oJ.size h4.upd⟩
variable {main:Bool} {b:Y'} {k:List x_} {o:y_} {w:J'} {f:w_} {fn:Func} {c:Code} {args:Array Operand} {ats:Array TypeId} {p q:M'}
theorem I1 (ho:ops[i]?=some o) (hw:U_ o (yielded ops a.tmps)=true) (hk:b.kind≠.early) (hop:o.op=.call {callee:=.value (.func f),args,argTypes:=ats})
 (hf:P.funcs[f]?=some fn) (lV:(fn.name== "runtime.NumGoroutine")=false) (hb:fn.body=some c):
 stepG P main (G (b.at a (.inRegion ops (i::rest)::k)) cs) w=.go (G (Frame.enter P f (args.map a.eval) .normal) (b.at a (.inRegion ops (i::rest)::k)::cs)) w #[]:=by
 have A8:fn.body.isNone=false:=by rw [hb];rfl
 rw [stepG_enter ho hw hk (run_call_body hop hf lV A8)]
 have:listed P b.fn a o w=#[]:=by unfold listed;rw [events_call_body hop hf lV A8];exact seen_none P _
 rw [this]
theorem bY {vs:Array M'} (ho:ops[i]?=some o) (hw:U_ o (yielded ops a.tmps)=true) (hk:b.kind≠.early) (hop:o.op=.call {callee:=.value (.func f),args,argTypes:=ats})
 (hf:P.funcs[f]?=some fn) (lV:(fn.name== "runtime.NumGoroutine")=false) (hb:fn.body=some c) (ha:args.map a.eval=vs):
 stepG P main (G (b.at a (.inRegion ops (i::rest)::k)) cs) w=.go (G (Frame.enter P f vs .normal) (b.at a (.inRegion ops (i::rest)::k)::cs)) w #[]:=by
 rw [<-ha];exact I1 ho hw hk hop hf lV hb
theorem ma:stepG P main (G (b.at a (.code .ret::k)) cs) w=.go (G {b.at a (.code .ret::k) with mode:=.returning} cs) w #[]:=stepG_ret'
variable {L:WgLink}
theorem I2 (H:WgLib P L) (ho:ops[i]?=some o) (hw:U_ o (yielded ops a.tmps)=true) (hk:b.kind≠.early) (hop:o.op=.call {callee:=.value (.func L.add),args:=args,argTypes:=ats}) (ha:args.map a.eval=#[p,q]):
 stepG P main (G (b.at a (.inRegion ops (i::rest)::k)) cs) w=.go (G ((base L.add).at ⟨#[p,q]++F_ 115 I',[]⟩ [.code ((addFn L).body.getD .skip)]) (b.at a (.inRegion ops (i::rest)::k)::cs)) w #[]:=by
 rw [i6 ho hw hk hop H.f_add (c:=(addFn L).body.getD .skip) rfl rfl,ha]
 rfl
theorem Mx (H:WgLib P L) (ho:ops[i]?=some o) (hw:U_ o (yielded ops a.tmps)=true) (hk:b.kind≠.early) (hop:o.op=.call {callee:=.value (.func L.wait),args:=args,argTypes:=ats}) (ha:args.map a.eval=#[p]):
 stepG P main (G (b.at a (.inRegion ops (i::rest)::k)) cs) w=.go (G ((base L.wait).at ⟨#[p]++F_ 83 I',[]⟩ [.code ((waitFn L).body.getD .skip)]) (b.at a (.inRegion ops (i::rest)::k)::cs)) w #[]:=by
 rw [i6 ho hw hk hop H.f_wait (c:=(waitFn L).body.getD .skip) rfl rfl,ha]
 rfl
end
section
open Go Go.Conc Go.Conc.Lib Go.ConcR Go.ConcR.Gen Go.RowKit
variable {ops:Array y_} {D:Array Bool} {i:Nat}
theorem tj (h:i∈Region.ready .any ops D):∃o,ops[i]?=some o/\i<ops.size/\D.getD i true=false/\∀e∈o.after,Region.binds .any e=true->D.getD e.on false=true:=by
 unfold Region.ready at h
 rw [List.mem_filter] at h
 obtain ⟨h1,h2⟩:=h
 have hlt:i<ops.size:=by simpa using h1
 refine ⟨ops[i],H_ hlt,hlt, ?_, ?_⟩
 ·have:=(T_ _ _▸h2).1;simpa using this
 ·have h3:=(T_ _ _▸h2).2
  rw [H_ hlt] at h3
  simp only [Option.map_some,A_,Array.all_eq_true] at h3
  intro e he hb
  obtain ⟨j,hj,rfl⟩:=Array.mem_iff_getElem.1 he
  have:=h3 j hj
  rw [hb] at this
  simpa using this
def ui (ops:Array y_):Bool:=(List.range ops.size).all fun i=>((ops[i]?).map fun o=>o.after.all fun e=>decide (e.on<i)).getD false
theorem xX (hs:D.size=ops.size) (hb:ui ops=true) (h:Region.ready .any ops D=[]):∀i,i<ops.size->D.getD i false=true:=by
 intro i
 induction i using Nat.strongRecOn with
 |_ i ih=>
  intro hi
  refine Classical.byContradiction fun hn=> ?_
  have hm:i∈Region.ready .any ops D:=by
   unfold Region.ready
   rw [List.mem_filter]
   refine ⟨by simpa using hi, ?_⟩
   have eo:=(List.all_eq_true.1 hb) i (by simpa using hi)
   rw [H_ hi] at eo ⊢
   simp only [Option.map_some,A_,Array.all_eq_true,decide_eq_true_eq] at eo
   rw [T_]
   refine ⟨?_, ?_⟩
   ·have hl:i<D.size:=hs▸hi
    simp [Array.getD,hl] at hn ⊢
    exact hn
   ·simp only [Option.map_some,A_,Array.all_eq_true]
    intro j hj
    have hlt:=eo j hj
    rw [ih _ hlt (by omega),Bool.or_true]
  rw [h] at hm;cases hm
def fU (ops:Array y_) (t:Nat):Option Nat:=(List.range ops.size).find? fun i=>((ops[i]?).bind (·.dst))==some t
def rT (ops:Array y_) (n:Nat):Bool:=(List.range ops.size).all fun i=>match (ops[i]?).bind (·.dst) with
 |none=>true
 |some t=>fU ops t==some i&&decide (t<n)
def nC (ops:Array y_) (base:Array M') (vals:Nat->M') (D:Array Bool) (t:Nat):M':=
 match fU ops t with
 |some i=>if D.getD i false then vals i else base.getD t I'
 |none=>base.getD t I'
structure iz (ops:Array y_) (base:Array M') (vals:Nat->M') (D:Array Bool) (a:Act):Prop where
 defers:a.defers=[]
 size:a.tmps.size=base.size
 at_:∀t,t<base.size->a.tmps.getD t I'=nC ops base vals D t
theorem qR {t:Nat} (h:fU ops t=some i):(ops[i]?).bind (·.dst)=some t:=by
 have:=List.find?_some h
 simpa using this
variable {j:Nat}
theorem bq:(D.setIfInBounds i true).getD j false=if i=j/\i<D.size then true else D.getD j false:=by
 simp only [r_,Y_]
 by_cases e:i=j
 ·subst e
  by_cases h:i<D.size
  ·simp [h]
  ·simp [h]
 ·simp [e]
variable {base:Array M'} {vals yV:Nat->M'} {a:Act}
theorem iz.val (h:iz ops base vals D a) {t:Nat} (hw:fU ops t=some j) (hd:D.getD j false=true) (ht:t<base.size):a.eval (.tmp t)=vals j:=by
 show a.tmps.getD t I'=_
 rw [h.at_ t ht];unfold nC;rw [hw];simp only [hd,if_true]
theorem iz.old (h:iz ops base vals D a) {t:Nat} (hw:fU ops t=none) (ht:t<base.size):a.eval (.tmp t)=base.getD t I':=by
 show a.tmps.getD t I'=_
 rw [h.at_ t ht];unfold nC;rw [hw]
theorem iz.put (h:iz ops base vals D a) (ho:rT ops base.size=true) (hi:i<ops.size) (hD:D.size=ops.size) (hn:D.getD i true=false) {o:y_} (Gc:ops[i]?=some o) (hv:∀j,D.getD j false=true->yV j=vals j):iz ops base yV (D.setIfInBounds i true) (a.put o.dst (yV i)):=by
 have iw:=(List.all_eq_true.1 ho) i (by simpa using hi)
 rw [Gc] at iw
 simp only [Option.bind_some] at iw
 have Me:i<D.size:=by omega
 have dS:∀t,t<base.size->fU ops t≠some i->nC ops base yV (D.setIfInBounds i true) t=nC ops base vals D t:=fun t ht hne=>by
  unfold nC
  cases hw:fU ops t with
  |none=>rfl
  |some j=>
   have vG:i≠j:=fun e=>hne (by rw [hw,e])
   simp only [bq,vG,false_and,if_false]
   by_cases hd:D.getD j false=true
   ·rw [if_pos hd,if_pos hd,hv j hd]
   ·rw [if_neg hd,if_neg hd]
 cases Q8:o.dst with
 |none=>
  refine ⟨h.defers,h.size,fun t ht=> ?_⟩
  refine (h.at_ t ht).trans (dS t ht fun e=> ?_).symm
  have:=qR e
  rw [Gc] at this
  simp only [Option.bind_some,Q8] at this
  cases this
 |some t0=>
  rw [Q8] at iw
  simp only [T_,beq_iff_eq,decide_eq_true_eq] at iw
  refine ⟨h.defers,by simp [Act.put,h.size],fun t ht=> ?_⟩
  show (a.tmps.setIfInBounds t0 (yV i)).getD t I'=_
  by_cases e:t0=t
  ·subst e
   unfold nC
   rw [iw.1]
   simp only [bq,true_and,Me,if_true]
   simp [r_,Y_,h.size,ht]
  ·have h1:(a.tmps.setIfInBounds t0 (yV i)).getD t I'=a.tmps.getD t I':=by
    simp [r_,Y_,e]
   rw [h1,h.at_ t ht]
   refine (dS t ht fun e1=> ?_).symm
   have:=qR e1
   rw [Gc] at this
   simp only [Option.bind_some,Q8,n_] at this
   exact e this
def FC (ops:Array y_) (base:Array M') (vals:Nat->M') (t:Nat):M':=match fU ops t with
 |some i=>vals i
 |none=>base.getD t I'
def slotsOf (ops:Array y_) (base:Array M') (vals:Nat->M'):Array M':=((List.range base.size).map (FC ops base vals)).toArray
theorem iz.done (h:iz ops base vals D a) (hd:∀i,i<ops.size->D.getD i false=true):a=⟨slotsOf ops base vals,[]⟩:=by
 obtain ⟨ts,ds⟩:=a
 have h1:ds=[]:=h.defers
 have h2:ts=slotsOf ops base vals:=by
  have hsz:ts.size=base.size:=h.size
  apply Array.ext
  ·rw [hsz];simp [slotsOf]
  ·intro t h3 h4
   have h5:=h.at_ t (hsz▸h3)
   have htb:t<base.size:=hsz▸h3
   have h6:ts.getD t I'=ts[t]:=by simp [r_,h3]
   have h7:(slotsOf ops base vals)[t]=FC ops base vals t:=by
    have h8:(slotsOf ops base vals)[t]?=some (FC ops base vals t):=by simp [slotsOf,htb]
    rw [H_ h4] at h8
    exact Option.some.inj h8
   rw [<-h6,h7]
   refine h5.trans ?_
   unfold FC nC
   cases hw:fU ops t with
   |none=>rfl
   |some i=>
    have hi:i<ops.size:=by
     have:=qR hw
     cases hx:ops[i]? with
     |none=>rw [hx] at this;cases this
     |some o=>exact (cI hx)
    simp only [hd i hi,if_true]
 rw [h1,h2]
theorem oQ (ops:Array y_) (base:Array M') (vals:Nat->M'):iz ops base vals (F_ ops.size false) ⟨base,[]⟩:=by
 refine ⟨rfl,rfl,fun t ht=> ?_⟩
 unfold nC
 cases hw:fU ops t with
 |none=>rfl
 |some i=>
  have:(F_ ops.size false).getD i false=false:=by
   simp only [r_,Array.getElem?_replicate]
   split<;>rfl
  simp only [this,qp,if_false]
variable {P:U'} {C:cS} {b o:Nat} {ae Fin:O'->J'->Prop} {Post:M'->J'->Prop} {h₀:Nat} {wl:J'} {ok:w_->Bool} {T:Type} {Rs:T->(Nat->Prop)->(Nat->aX)->Nat->Prop}
variable {aI:Y'} {id:Nat} {K:List x_} {cs:List Y'}
theorem ay.any (hm:P.follows .mixedOrders=true) (B:eh P C b o ae Fin h₀) (hS:∀x,gh h₀ (Rs x)) {base:Array M'}
 (ho:rT ops base.size=true) (hb:ui ops=true) (vals:T->Nat->M') (Wd:Array Bool->T->J'->Prop) (hW:∀D x w,Wd D x w->Lay C w) {kP:T} (h0:Wd (F_ ops.size false) kP wl)
 (hstep:∀i o',ops[i]?=some o'->∀D x w a rest,D.size=ops.size->iz ops base (vals x) D a->Wd D x w->D.getD i false=false->(∀e∈o'.after,Region.binds .any e=true->D.getD e.on false=true)->
  (∀x' w',(∀j,D.getD j false=true->vals x' j=vals x j)->Wd (D.setIfInBounds i true) x' w'->ay P C b o ae Fin Post h₀ (Rs x') w' (G (aI.at (a.put o'.dst (vals x' i)) (.inRegion ops rest::K)) cs))->
  ay P C b o ae Fin Post h₀ (Rs x) w (G (aI.at a (.inRegion ops (i::rest)::K)) cs))
 (A6:∀D x w,(∀i,i<ops.size->D.getD i false=true)->Wd D x w->ay P C b o ae Fin Post h₀ (Rs x) w (G (aI.at ⟨slotsOf ops base (vals x),[]⟩ K) cs)):
 ay P C b o ae Fin Post h₀ (Rs kP) wl (G (aI.at ⟨base,[]⟩ (.code (.region id ops true)::K)) cs):=by
 refine ay.drawn hm B (hS kP) (hW _ _ _ h0) rfl ?_
 have key:∀fuel D x w a,D.size=ops.size->iz ops base (vals x) D a->Wd D x w->(∀i,i<ops.size->D.getD i false=true)\/(∃l,l=(List.range ops.size).filter (fun i=> !D.getD i true)/\l.length<=fuel)->∀p∈jd ops fuel D,ay P C b o ae Fin Post h₀ (Rs x) w (G (aI.at a (.inRegion ops p::K)) cs):=by
  intro fuel
  have fin:∀D x w a,iz ops base (vals x) D a->Wd D x w->(∀i,i<ops.size->D.getD i false=true)->ay P C b o ae Fin Post h₀ (Rs x) w (G (aI.at a (.inRegion ops []::K)) cs):=fun D x w a bc hw hd=>by
   refine ay.ctl B (hS x) (hW _ _ _ hw) rfl (fun _=>stepG_region_end) ?_
   rw [bc.done hd]
   exact A6 D x w hd hw
  induction fuel with
  |zero=>
   intro D x w a hD bc hw hl p hp
   simp only [jd,List.mem_singleton] at hp
   subst hp
   refine fin D x w a bc hw ?_
   rcases hl with hl|⟨l,hl,hlen⟩
   ·exact hl
   ·intro i hi
    refine Classical.byContradiction fun hn=> ?_
    have Ge:i∈l:=by
     rw [hl,List.mem_filter]
     refine ⟨by simpa using hi, ?_⟩
     have hlt:i<D.size:=hD▸hi
     simp [Array.getD,hlt] at hn ⊢
     exact hn
    cases l with
    |nil=>cases Ge
    |cons y ys=>simp at hlen
  |succ fuel ih=>
   intro D x w a hD bc hw hl p hp
   unfold jd at hp
   by_cases he:(Region.ready .any ops D).isEmpty=true
   ·rw [if_pos he,List.mem_singleton] at hp
    subst hp
    refine fin D x w a bc hw (xX hD hb ?_)
    cases hr:Region.ready .any ops D with
    |nil=>rfl
    |cons y ys=>rw [hr] at he;cases he
   ·rw [if_neg he,List.mem_flatMap] at hp
    obtain ⟨i,hi,hp⟩:=hp
    rw [List.mem_map] at hp
    obtain ⟨q,hq,rfl⟩:=hp
    obtain ⟨o',h1,h2,h3,h4⟩:=tj hi
    have Me:i<D.size:=by omega
    have O0:D.getD i false=false:=by simp [Array.getD,Me] at h3 ⊢;exact h3
    refine hstep i o' h1 D x w a q hD bc hw O0 h4 fun x' w' hv gC=> ?_
    refine ih (D.setIfInBounds i true) x' w' _ (by simpa using hD) (bc.put ho h2 hD h3 h1 hv) gC ?_ q hq
    rcases hl with hl|⟨l,hl,hlen⟩
    ·exact absurd (hl i h2) (by rw [O0];simp)
    ·refine .inr ⟨_,rfl, ?_⟩
     have Ge:i∈l:=by
      rw [hl,List.mem_filter]
      exact ⟨by simpa using h2,by rw [h3];rfl⟩
     have hle:((List.range ops.size).filter fun j=> !(D.setIfInBounds i true).getD j true).length<l.length:=by
      rw [hl]
      have yG:((List.range ops.size).filter fun j=> !(D.setIfInBounds i true).getD j true)=(l.filter fun j=>decide (j≠i)):=by
       rw [hl,List.filter_filter]
       apply List.filter_congr
       intro j hj
       have EL:j<ops.size:=by simpa using hj
       have UI:j<D.size:=by omega
       by_cases e:i=j
       ·subst e;simp [Array.getD,Me]
       ·have e':¬j=i:=fun h=>e h.symm
        simp [Array.getD,UI,e',e]
      rw [yG,<-hl]
      exact List.length_filter_lt_length_iff_exists.2 ⟨i,Ge,by simp⟩
     omega
 refine key _ _ _ _ _ (by simp) (oQ ops base (vals kP)) h0 (.inr ⟨_,rfl, ?_⟩)
 exact D_ (List.length_filter_le _ _) (by simp)
variable {zM:(Nat->Prop)->(Nat->aX)->Nat->Prop} {rest:List Nat}
theorem ay.dY (B:eh P C b o ae Fin h₀) (hS:gh h₀ zM) (hL:Lay C wl) {x:y_} (ho:ops[i]?=some x) (hg:x.guard=none) (hk:aI.kind≠.early) (cK:fN P ok x=true) {v:M'}
 (hx:∀T d,(V' a.eval x).run P (wl.re T d)=.ok (.value v) (wl.re T d)) (hc:ay P C b o ae Fin Post h₀ zM wl (G (aI.at (a.put x.dst v) (.inRegion ops rest::K)) cs)):
 ay P C b o ae Fin Post h₀ zM wl (G (aI.at a (.inRegion ops (i::rest)::K)) cs):=
 ay.op (ok:=ok) B hS hL ho (by simp [U_,hg]) hk cK fun T d=>⟨v,wl.re T d,hx T d,fun _=>hc.re T d⟩
theorem iz.vv {base:Array M'} (h:iz ops base vals D a) (v:M') (t j:Nat) (hd:D.getD j false=true) (hw:fU ops t=some j:=by kernel_rfl) (ht:t<base.size:=by exact Gl _ (by decide)) (e:vals j=v:=by exact rfl):a.eval (.tmp t)=v/\a.tmps[t]?.getD I'=v:=vw ((h.val hw hd ht).trans e)
theorem iz.oo {base:Array M'} (h:iz ops base vals D a) (v:M') (t:Nat) (e:base.getD t I'=v:=by exact HI _) (hw:fU ops t=none:=by kernel_rfl) (ht:t<base.size:=by exact Gl _ (by decide)):a.eval (.tmp t)=v/\a.tmps[t]?.getD I'=v:=vw ((h.old hw ht).trans e)
theorem dq {o:y_} (h:∀e∈o.after,Region.binds .any e=true->D.getD e.on false=true) (j:Nat) (m:(⟨j,.data⟩:Edge)∈o.after:=by simp):D.getD j false=true:=h _ m rfl
end
end Go.aC
