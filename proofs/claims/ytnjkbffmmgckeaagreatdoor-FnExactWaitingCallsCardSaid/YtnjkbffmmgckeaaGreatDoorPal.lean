/-
  The hall and its crew, in company: a question is asked and answered, the hall is as it was.
-/
import Derived.Lib.Overlaps
import Derived.Lib.AppendZerosOnto
import Derived.MapKept
import Derived.Laws.IdiomCopy
import Derived.Laws.Externs
import Derived.Test.YtnjkbffmmgckeaaGreatDoorPaa
import Derived.Test.YtnjkbffmmgckeaaGreatDoorPag
import Derived.Test.YtnjkbffmmgckeaaGreatDoorPak
set_option linter.all false
set_option maxRecDepth 100000
set_option maxHeartbeats 32000000
open Go renaming undef->I',World->J',Value->M',Goroutine->O',TypeId->Q',Frame->Y',Item->x_,Oper->y_
open Go.RowKit renaming Hid->f_
open Option renaming getD_some->A_
open Nat renaming le_refl->C_,lt_of_lt_of_le->E_
open Array renaming replicate->F_
open List renaming getElem?_eq_getElem->G_,length_append->K_,length_take->Q_
open Go.Lib renaming itoa->L_
open Go.Proofs.Tryz renaming prog->p_
open Go.Proofs.Tryz
namespace Go.aC.Of
section
open Go Go.Conc Go.Conc.Lib Go.ConcR Go.ConcR.Gen Go.aC Go.Proofs
open Go.RowKit hiding Hid
open Go.ConcN (upd upd_ne upd_same)
section
variable {A:Ha} {S:Hs} {vw vb vr va vt:M'} {w w':J'}
variable {x:Nat}
theorem aQ.pf (h:aQ A S vw vb vr va vt w) (k:gN x w w') (hx:Ch w x):aQ A S vw vb vr va vt w':=by
 obtain ⟨kk,hx⟩:=hx
 have hs:∀(r:Nat) (cs:Array M') (e:Q') (f:Nat × Nat),w.heap[r]?=some (Obj.cells cs e f)->w'.heap[r]?=some (Obj.cells cs e f):=fun r cs e f hr=>k.blk r _ hr (fun e1=>by rw [e1,hx] at hr;cases hr)
 have hm:∀{r:Nat} {K:Type} {enc:K->M'} {f:K->Option M'},ed w r enc f->ed w' r enc f:=fun {r K enc f} hr=>by
  obtain ⟨es,cl,h1,h2⟩:=hr.ex
  exact ⟨es,cl,k.blk r _ h1 (fun e1=>by rw [e1,hx] at h1;cases h1),h2⟩
 have own:∀{B e s n:Nat} {v:M'} {xs:List M'},w.ownsRow B e s v n xs->w'.ownsRow B e s v n xs:=fun {B e s n v xs} hr=>⟨hr.1,hr.2.imp id fun ⟨g,cap,cur,h1,h2,h3,h4⟩=>⟨g,cap,cur,h1,h2,hs _ _ _ _ h3,h4⟩⟩
 exact ⟨h.ok,Nat.le_trans h.big k.size,hs _ _ _ _ h.box,fun i hi=>(k.cells _ _ (h.lines i hi)).1,hm h.on,hm h.of,hm h.rc,own h.wait,own h.back,own h.recs,own h.log,own h.cg,h.apart⟩
structure bN (C:cS) (A:Ha) (N0 h:Nat) (us:List Od) (L:Nat->Os) (w:J'):Prop where
 len:us.length=A.m
 small:A.m<=999/\∀j v,j≠0->(L j).od=some v->∃i,i<us.length/\j=N0+i
 live:∀i (hi:i<us.length),L (N0+i)=.live us[i]
 n0:∀i,i<us.length->N0+i≠0/\N0+i≠h
 ap:Apart L
 fo:BB C L
 kM:∀j v,j≠0->(L j).od=some v->Ch w v.x/\v.x<A.B
 cells:∀i (hi:i<us.length),w.cell? ⟨A.ob,i,none⟩=some (.chan (some us[i].x))/\w.cell? ⟨us[i].bt,0,none⟩=some (.chan (some us[i].x))/\us[i].bt<A.B/\us[i].bt≠A.hb
theorem dX {m r:Nat} {K:Type} {enc:K->M'} {f:K->Option M'} (hm:ed w m enc f) (hr:∀es c,w.heap[r]?≠some (.map es c)):r≠m:=fun e=>by
 obtain ⟨es,cl,h1,_⟩:=hm.ex
 exact hr es cl (e▸h1)
variable {C:cS} {N0 h:Nat} {us:List Od} {L:Nat->Os}
theorem bN.fr (K:bN C A N0 h us L w) (H:aQ A S vw vb vr va vt w) (F:Fr A w w'):bN C A N0 h us L w':=by
 refine ⟨K.len,K.small,K.live,K.n0,K.ap,K.fo,fun j v hj hv=> ?_,fun i hi=> ?_⟩
 ·obtain ⟨⟨kk,hk⟩,hb⟩:=K.kM j v hj hv
  have nm:∀es c,w.heap[v.x]?≠some (.map es c):=fun es c e=>by rw [hk] at e;cases e
  refine ⟨⟨kk, ?_⟩,hb⟩
  rw [F.block v.x hb (fun e=>by have:=H.box;rw [<-e,hk] at this;cases this) (dX H.on nm) (dX H.of nm) (dX H.rc nm)]
  exact hk
 ·obtain ⟨h1,h2,h3,h4⟩:=K.cells i hi
  have nm:∀{r o:Nat} {v:M'},w.cell? ⟨r,o,none⟩=some v->∀es c,w.heap[r]?≠some (.map es c):=fun {r o v} hr es c e=>by simp [World.cell?,e] at hr
  refine ⟨?_, ?_,h3,h4⟩
  ·rw [World.cell?_of_block (F.block A.ob H.ok.ob H.ok.d3.1 (dX H.on (nm h1)) (dX H.of (nm h1)) (dX H.rc (nm h1)))];exact h1
  ·rw [World.cell?_of_block (F.block _ h3 h4 (dX H.on (nm h2)) (dX H.of (nm h2)) (dX H.rc (nm h2)))];exact h2
def told (us:List Od) (i:Nat) (kind call:Int):List Od:=us.modify i fun u=>⟨u.bt,u.x,if kind=1 then call else u.k⟩
variable {i:Nat}
theorem BU {j:Nat} {kind call:Int} (hi:i<us.length) (hj:j<(told us i kind call).length):(told us i kind call)[j]=if i=j then ⟨us[i].bt,us[i].x,if kind=1 then call else us[i].k⟩ else us[j]'(by simpa [told] using hj):=by
 unfold told at hj ⊢
 rw [List.getElem_modify]
 split
 ·rename_i e;subst e;rfl
 ·rfl
theorem bN.told (K:bN C A N0 h us L w) (hi:i<us.length) {kind call:Int} (k:gN us[i].x w w') (hc:Ch w' us[i].x):bN C A N0 h (told us i kind call) (upd L (N0+i) (.live ⟨us[i].bt,us[i].x,if kind=1 then call else us[i].k⟩)) w':=by
 have hlen:(Of.told us i kind call).length=us.length:=by simp [Of.told]
 have ye:∀j v,j≠0->(upd L (N0+i) (.live ⟨us[i].bt,us[i].x,if kind=1 then call else us[i].k⟩) j).od=some v->∃v',(L j).od=some v'/\v'.x=v.x/\v'.bt=v.bt:=fun j v hj hv=>by
  by_cases e:j=N0+i
  ·subst e
   rw [upd_same] at hv
   simp only [Os.od,Option.some.injEq] at hv
   subst hv
   exact ⟨us[i],by rw [K.live i hi];rfl,rfl,rfl⟩
  ·rw [upd_ne _ _ e] at hv
   exact ⟨v,hv,rfl,rfl⟩
 refine ⟨by rw [hlen];exact K.len,⟨K.small.1,fun j v hj hv=>by obtain ⟨v',h1,_⟩:=ye j v hj hv;rw [hlen];exact K.small.2 j v' hj h1⟩,fun j hj=> ?_,fun j hj=>K.n0 j (hlen▸hj),fun a c u v ha hc' ZT hu hv=> ?_,⟨K.fo.on,K.fo.no,fun j u hj hu=> ?_⟩,fun j v hj hv=> ?_,fun j hj=> ?_⟩
 ·rw [BU hi]
  by_cases e:i=j
  ·subst e;rw [if_pos rfl,upd_same]
  ·rw [if_neg e,upd_ne _ _ (by omega)];exact K.live j (hlen▸hj)
 ·obtain ⟨u',h1,h2,_⟩:=ye a u ha hu
  obtain ⟨v',h3,h4,_⟩:=ye c v hc' hv
  rw [<-h2,<-h4];exact K.ap a c u' v' ha hc' ZT h1 h3
 ·obtain ⟨u',h1,_,h3⟩:=ye j u hj hu
  rw [<-h3];exact K.fo.ks j u' hj h1
 ·obtain ⟨v',h1,h2,_⟩:=ye j v hj hv
  obtain ⟨⟨kk,hk⟩,hb⟩:=K.kM j v' hj h1
  rw [<-h2]
  refine ⟨?_,hb⟩
  by_cases e:v'.x=us[i].x
  ·rw [e];exact hc
  ·exact ⟨kk,k.blk _ _ hk e⟩
 ·have EL:j<us.length:=hlen▸hj
  obtain ⟨h1,h2,h3,h4⟩:=K.cells j EL
  rw [BU hi]
  by_cases e:i=j
  ·subst e;rw [if_pos rfl];exact ⟨(k.cells _ _ h1).1,(k.cells _ _ h2).1,h3,h4⟩
  ·rw [if_neg e];exact ⟨(k.cells _ _ h1).1,(k.cells _ _ h2).1,h3,h4⟩
end
section
variable {C:cS} {b N N0 h:Nat} {L:Nat->Os} {us:List Od} {A:Ha} {S:Hs} {vw vb vr va vt:M'} {ae Fin:O'->J'->Prop} {Post:M'->J'->Prop} {wl:J'} {aI:Y'} {aS:Act} {av:Array y_} {aN:Nat} {ak:List Nat} {aV:List x_} {cs:List Y'}
variable {i:Nat}
theorem RZ (B:eh p_ C b 0 ae Fin h) (hL:Lay C wl) (H:aQ A S vw vb vr va vt wl) (K:bN C A N0 h us L wl) (hi:i<us.length) {kind call:Int}
 (hc:∀aK,Lay C aK->aQ A S vw vb vr va vt aK->bN C A N0 h (told us i kind call) (upd L (N0+i) (.live ⟨us[i].bt,us[i].x,if kind=1 then call else us[i].k⟩)) aK->gN us[i].x wl aK->ay p_ C b 0 ae Fin Post h (aY b N h (upd L (N0+i) (.live ⟨us[i].bt,us[i].x,if kind=1 then call else us[i].k⟩))) aK (G (aI.at (aS.put ((av[aN]?).bind (·.dst)) (.int .i64 (if kind=1 then call else us[i].k))) (.inRegion av ak::aV)) cs)):
 ay p_ C b 0 ae Fin Post h (aY b N h L) wl (G ((base 101).at ⟨#[.pointer (some ⟨A.hb,0,none⟩),.int .i64 ((i+1:Nat):Int),.int .i64 kind,.int .i64 call]++F_ 21 I',[]⟩ [.code dv]) (aI.at aS (.inRegion av (aN::ak)::aV)::cs)):=by
 obtain ⟨h1,h2,h3,h4⟩:=K.cells i hi
 have hm:=K.len
 have hsm:=K.small.1
 refine ask B hL K.ap K.fo (fun j v hj hv=>(K.kM j v hj hv).1) (K.n0 i hi).1 (K.n0 i hi).2 (K.live i hi) (n:=A.m) (by omega) (by omega) H.c.2.2.2.1 h1 h2 fun aK fJ hk hch=> ?_
 have hx:=(K.kM (N0+i) us[i] (K.n0 i hi).1 (by rw [K.live i hi];rfl)).1
 exact hc aK fJ (H.pf hk hx) (K.told hi hk hch) hk
end
def aU (A:Ha) (w:J'):Prop:=(∃g cs e f,Tryz.prog.globalNamed "internal/strconv.uint64pow10" =some g/\g<A.B/\g≠A.hb/\w.heap[g]?=some (Obj.cells cs e f)/\cs=(Lib.pow10Tab.map fun z=>Value.int .u64 z).toArray)/\A.n0<=A.B/\∀g cs e f,g<A.n0->g≠A.hb->A.h0[g]?=some (Obj.cells cs e f)->w.heap[g]?=some (Obj.cells cs e f)
section
variable {A:Ha} {S:Hs} {vw vb vr va vt:M'} {w w':J'}
theorem aU.is (h:aU A w):Lib.TabIs p_ w "internal/strconv.uint64pow10" .u64 Lib.pow10Tab:=by
 obtain ⟨⟨g,cs,e,f,h1,_,_,h4,h5⟩,_⟩:=h
 unfold Lib.TabIs World.var?
 rw [h1];simp only [Option.bind_some,h4,h5]
theorem aU.fr (h:aU A w) (H:aQ A S vw vb vr va vt w) (F:Fr A w w'):aU A w':=by
 obtain ⟨⟨g,cs,e,f,h1,h2,h3,h4,h5⟩,h7,h8⟩:=h
 have nm:∀{g:Nat} {cs:Array M'} {e:Q'} {f:Nat × Nat},w.heap[g]?=some (Obj.cells cs e f)->∀es c,w.heap[g]?≠some (.map es c):=fun {g cs e f} h4 es c e1=>by rw [h4] at e1;cases e1
 refine ⟨⟨g,cs,e,f,h1,h2,h3,by rw [F.block g h2 h3 (dX H.on (nm h4)) (dX H.of (nm h4)) (dX H.rc (nm h4))];exact h4,h5⟩,h7,fun g cs e f hg hb hh=> ?_⟩
 have h4:=h8 g cs e f hg hb hh
 rw [F.block g (by omega) hb (dX H.on (nm h4)) (dX H.of (nm h4)) (dX H.rc (nm h4))];exact h4
theorem aU.PO (h:aU A w) (H:aQ A S vw vb vr va vt w):Ik A w:=fun _ F=>(h.fr H F).is
variable {x:Nat}
theorem aU.pf (h:aU A w) (k:gN x w w') (hx:Ch w x):aU A w':=by
 obtain ⟨⟨g,cs,e,f,h1,h2,h3,h4,h5⟩,h7,h8⟩:=h
 obtain ⟨kk,hx⟩:=hx
 exact ⟨⟨g,cs,e,f,h1,h2,h3,k.blk g _ h4 (fun e1=>by rw [e1,hx] at h4;cases h4),h5⟩,h7,fun g cs e f hg hb hh=>k.blk g _ (h8 g cs e f hg hb hh) (fun e1=>by have:=h8 g cs e f hg hb hh;rw [e1,hx] at this;cases this)⟩
end
noncomputable def iL:Code:=f139.body.getD .skip
theorem pB {p q r s:M'}:Frame.enter p_ 101 #[p,q,r,s] .normal=(base 101).at ⟨#[p,q,r,s]++F_ 21 I',[]⟩ [.code dv]:=by kernel_rfl
def dL:Bs:=[99,97,108,108,32]
def iZ (S:Hs) (i:Nat) (r:Rec) (op:Int):Hs:={S with recs:=S.recs.set i {r with op:=op,heard:=S.clock}}
section
variable {C:cS} {b N N0 h:Nat} {L:Nat->Of.Os} {us:List Od} {A:Ha} {S:Hs} {vw vb vr va vt:M'} {ae Fin:O'->J'->Prop} {Post:M'->J'->Prop} {wl:J'} {aI:Y'} {aS:Act} {av:Array y_} {aN:Nat} {ak:List Nat} {aV:List x_} {cs:List Y'}
variable {i:Nat}
theorem PN (B:eh p_ C b 0 ae Fin h) (hL:Lay C wl) (H:aQ A S vw vb vr va vt wl) (K:bN C A N0 h us L wl) (hT:aU A wl) (hi:i<us.length) {c:Int}
 (hc:∀aK z,Lay C aK->aQ A S vw vb vr va vt aK->bN C A N0 h (told us i 1 c) (upd L (N0+i) (.live ⟨us[i].bt,us[i].x,c⟩)) aK->aU A aK->
  ay p_ C b 0 ae Fin Post h (aY b N h (upd L (N0+i) (.live ⟨us[i].bt,us[i].x,c⟩))) aK (G ((base 139).at ⟨#[.pointer (some ⟨A.hb,0,none⟩),.int .i64 ((i+1:Nat):Int),.int .i64 c,I',I',I',.string ⟨#[]⟩,I',.pointer (some ⟨A.hb,0,none⟩),.int .i64 ((i+1:Nat):Int),.int .i64 c,z,I',I',I',I',I',I',I',I',I',I',I',I',I',I',I',I',I'],[]⟩ [.code (az 2 iL)]) cs)):
 ay p_ C b 0 ae Fin Post h (aY b N h L) wl (G ((base 139).at ⟨#[.pointer (some ⟨A.hb,0,none⟩),.int .i64 ((i+1:Nat):Int),.int .i64 c]++F_ 26 I',[]⟩ [.code iL]) cs):=by
 have hS:=aH b N h L
 have ea:(#[.pointer (some ⟨A.hb,0,none⟩),.int .i64 ((i+1:Nat):Int),.int .i64 c]++F_ 26 I':Array M')=#[.pointer (some ⟨A.hb,0,none⟩),.int .i64 ((i+1:Nat):Int),.int .i64 c,I',I',I',I',I',I',I',I',I',I',I',I',I',I',I',I',I',I',I',I',I',I',I',I',I',I']:=by kernel_rfl
 rw [ea]
 have e1:iL=.seq (ai 0 iL) (.seq (ai 1 iL) (az 2 iL)):=by kernel_rfl
 rw [e1]
 generalize hK:[Item.code (az 2 iL)]=K0 at *
 generalize Mc:((i+1:Nat):Int)=iv at *
 simp only [ai,iL,f139,A_]
 iterate 9 refine B.n ?_
 refine ay.ctl B hS hL rfl (fun _=>bY (vs:=#[.pointer (some ⟨A.hb,0,none⟩),.int .i64 iv,.int .i64 1,.int .i64 c]) rfl rfl (by k_ne) rfl func101 rfl rfl (by kernel_rfl)) ?_
 rw [pB]
 subst Mc
 refine RZ B hL H K hi fun aK fJ H' K' fS=> ?_
 have T':=hT.pf fS (K.kM (N0+i) us[i] (K.n0 i hi).1 (by rw [K.live i hi];rfl)).1
 have uh:=aH b N h (upd L (N0+i) (.live ⟨us[i].bt,us[i].x,c⟩))
 simp only [if_true] at K' ⊢
 walk_nrm
 refine B.e ?_
 subst hK
 exact hc aK _ fJ H' K' T'
theorem PM (B:eh p_ C b 0 ae Fin h) (hL:Lay C wl) (H:aQ A S vw vb vr va vt wl) (K:bN C A N0 h us L wl) (hT:aU A wl) {iv c:Int} {r:Nat} (mj:S.rc c=some r) (hr:r<S.recs.length) (wi:S.recs.length<=100000) (c0:0<=c) (c1:c<=1000000) {z:M'}
 (hc:∀aK,Lay C aK->aQ A (iZ S r S.recs[r] iv) vw vb vr va vt aK->bN C A N0 h us L aK->aU A aK->
  ay p_ C b 0 ae Fin Post h (aY b N h L) aK (G (aI.at (aS.put ((av[aN]?).bind (·.dst)) (.string ⟨(dL++L_ c).toArray⟩)) (.inRegion av ak::aV)) cs)):
 ay p_ C b 0 ae Fin Post h (aY b N h L) wl (G ((base 139).at ⟨#[.pointer (some ⟨A.hb,0,none⟩),.int .i64 iv,.int .i64 c,I',I',I',.string ⟨#[]⟩,I',.pointer (some ⟨A.hb,0,none⟩),.int .i64 iv,.int .i64 c,z,I',I',I',I',I',I',I',I',I',I',I',I',I',I',I',I',I'],[]⟩ [.code (az 2 iL)]) (aI.at aS (.inRegion av (aN::ak)::aV)::cs)):=by
 have hS:=aH b N h L
 refine B.p (aF (by kernel_rfl) rfl rfl ⟨_,func139⟩) (fun T d Bh hB=> ?_)
 have H0:=aa (H.heap (w':=wl.re T d) rfl)
 have K0:f_ (bN C A N0 h us L (wl.re T d)):=⟨K.len,K.small,K.live,K.n0,K.ap,K.fo,K.kM,K.cells⟩
 have T0:f_ (aU A (wl.re T d)):=hT
 have hno:=aa hL.no
 clear H K hT hL
 generalize wl.re T d=w0 at *
 simp only [az,iL,f139,A_]
 obtain ⟨g,cap,_,ev,_⟩:=cz H0.out.recs (Nat.lt_of_le_of_lt (Nat.zero_le _) hr)
 have ev:=aa ev
 go_wp2_with fail
 refine (jL H0.out mj hr ev.out wi).mono ?_
 rintro e w3 ⟨rfl,hh,F3⟩
 have H3:=aa (H0.out.heap hh)
 have Ig:=H3.out.c.2.2.2.2.2.2.2.2.1
 obtain ⟨x1,x2⟩:=H3.out.pQ ev.out hr (k:=2) (by decide)
 have H4:=H3.out.Ac ev.out hr (k:=2) (by decide) (v:=.int .i64 iv) (r:={S.recs[r] with op:=iv}) rfl
 have VP:=H4.1.c.2.2.2.2.2.2.2.2.1
 obtain ⟨x3,x4⟩:=H4.1.pQ (i:=r) (g:=g) (cap:=cap) (by rw [ev.out];simp) (by simpa using hr) (k:=4) (by decide)
 have H5:=H4.1.Ac (i:=r) (g:=g) (cap:=cap) (by rw [ev.out];simp) (by simpa using hr) (k:=4) (by decide) (v:=.int .i64 S.clock) (r:={S.recs[r] with op:=iv,heard:=S.clock}) (by simp [Rec.cells])
 replace H5:=aa (And.intro H5.1 (F3.trans (H4.2.trans H5.2)))
 simp [Rec.cells] at x1 x3
 simp only at VP
 clear H4 F3 H3 Ig
 go_wp2_with fail
 generalize (w3.setCell ⟨g,r * 7+2,none⟩ (.int .i64 iv)).setCell ⟨g,r * 7+4,none⟩ (.int .i64 S.clock)=w5 at H5 ⊢
 obtain ⟨H6,F6⟩:=H5.out
 simp only [List.set_set] at H6
 have T6:=T0.out.fr H0.out F6
 have K6:=aa (K0.out.fr H0.out F6)
 refine (si (T6.PO H6) c (by omega) (by omega)).mono ?_
 rintro e w7 ⟨rfl,hg⟩
 have F7:=Fr.kept H6.big hg (fun _ e=>by cases e)
 have H7:=aa (H6.more hg)
 have K7:=aa (K6.out.fr H6 F7)
 have T7:=aa (T6.fr H6 F7)
 have hlen:=Lib.itoa_length_le c (by omega) (by omega)
 have nU:¬(9223372036854775807<5+(L_ c).length):=by omega
 clear H6 F6 T6 K6 F7 hg H5 H0 K0 T0 x1 x2 x3 x4 VP
 go_wp2_with fail
 subst hB
 intro hcut todo
 have jv:Lay C w7:=⟨hcut,hno.out⟩
 refine ay.ctl B hS jv rfl (fun _=>aZ rfl rfl func139 rfl) ?_
 have:=hc w7 jv H7.out K7.out T7.out
 rw [<-vQ] at this
 exact this
theorem cg (B:eh p_ C b 0 ae Fin h) (hL:Lay C wl) (H:aQ A S vw vb vr va vt wl) (K:bN C A N0 h us L wl) (hT:aU A wl) (hi:i<us.length) {c:Int} {r:Nat} (mj:S.rc c=some r) (hr:r<S.recs.length) (wi:S.recs.length<=100000) (c0:0<=c) (c1:c<=1000000)
 (hc:∀aK,Lay C aK->aQ A (iZ S r S.recs[r] ((i+1:Nat):Int)) vw vb vr va vt aK->bN C A N0 h (told us i 1 c) (upd L (N0+i) (.live ⟨us[i].bt,us[i].x,c⟩)) aK->aU A aK->
  ay p_ C b 0 ae Fin Post h (aY b N h (upd L (N0+i) (.live ⟨us[i].bt,us[i].x,c⟩))) aK (G (aI.at (aS.put ((av[aN]?).bind (·.dst)) (.string ⟨(dL++L_ c).toArray⟩)) (.inRegion av ak::aV)) cs)):
 ay p_ C b 0 ae Fin Post h (aY b N h L) wl (G ((base 139).at ⟨#[.pointer (some ⟨A.hb,0,none⟩),.int .i64 ((i+1:Nat):Int),.int .i64 c]++F_ 26 I',[]⟩ [.code iL]) (aI.at aS (.inRegion av (aN::ak)::aV)::cs)):=
 PN B hL H K hT hi fun _ _ fJ H' K' T'=>PM B fJ H' K' T' mj hr wi c0 c1 hc
end
theorem S4 (us:List Od) (i:Nat) (call:Int):told us i 0 call=us:=by
 unfold told
 apply List.ext_getElem (by simp)
 intro j h1 h2
 rw [List.getElem_modify]
 split
 ·rename_i e;subst e;simp
 ·rfl
noncomputable def cD:Code:=f123.body.getD .skip
section
variable {C:cS} {b N N0 h:Nat} {L:Nat->Of.Os} {us:List Od} {A:Ha} {S:Hs} {vw vb vr va vt:M'} {ae Fin:O'->J'->Prop} {Post:M'->J'->Prop} {wl:J'} {aI:Y'} {aS:Act} {av:Array y_} {aN:Nat} {ak:List Nat} {aV:List x_} {cs:List Y'}
variable {i:Nat}
theorem O8 (B:eh p_ C b 0 ae Fin h) (hL:Lay C wl) (H:aQ A S vw vb vr va vt wl) (K:bN C A N0 h us L wl) (hT:aU A wl) (hi:i<us.length) {call:Int}
 (hc:∀aK,Lay C aK->aQ A S vw vb vr va vt aK->bN C A N0 h us L aK->aU A aK->ay p_ C b 0 ae Fin Post h (aY b N h L) aK (G (aI.at (aS.put ((av[aN]?).bind (·.dst)) (.int .i64 us[i].k)) (.inRegion av ak::aV)) cs)):
 ay p_ C b 0 ae Fin Post h (aY b N h L) wl (G ((base 101).at ⟨#[.pointer (some ⟨A.hb,0,none⟩),.int .i64 ((i+1:Nat):Int),.int .i64 0,.int .i64 call]++F_ 21 I',[]⟩ [.code dv]) (aI.at aS (.inRegion av (aN::ak)::aV)::cs)):=by
 refine RZ B hL H K hi fun aK fJ H' K' fS=> ?_
 have T':=hT.pf fS (K.kM (N0+i) us[i] (K.n0 i hi).1 (by rw [K.live i hi];rfl)).1
 rw [S4] at K'
 have e0:((0:Int)=1)=False:=by simp
 simp only [e0,if_false] at K' ⊢
 have eL:upd L (N0+i) (.live ⟨us[i].bt,us[i].x,us[i].k⟩)=L:=by
  funext j
  by_cases e:j=N0+i
  ·subst e;rw [upd_same,K.live i hi]
  ·rw [upd_ne _ _ e]
 rw [eL] at K' ⊢
 exact hc aK fJ H' K' T'
theorem P9 (B:eh p_ C b 0 ae Fin h) (hL:Lay C wl) (H:aQ A S vw vb vr va vt wl) (K:bN C A N0 h us L wl) (hT:aU A wl) (hi:i<us.length)
 (hc:∀aK,Lay C aK->aQ A S vw vb vr va vt aK->bN C A N0 h us L aK->aU A aK->
  ay p_ C b 0 ae Fin Post h (aY b N h L) aK (G ((base 123).at ⟨#[.pointer (some ⟨A.hb,0,none⟩),.int .i64 ((i+1:Nat):Int),I',I',.string ⟨#[]⟩,I',.pointer (some ⟨A.hb,0,none⟩),.int .i64 ((i+1:Nat):Int),.int .i64 us[i].k,.bool (decide (us[i].k≠0)),I',I',I',I',I',I',I',I',I',I',I',I',I',I',I',I',I',I',I',I',I',I',I',I',I'],[]⟩ [.code (az 1 (ai 1 cD)),.code (az 2 cD)]) cs)):
 ay p_ C b 0 ae Fin Post h (aY b N h L) wl (G ((base 123).at ⟨#[.pointer (some ⟨A.hb,0,none⟩),.int .i64 ((i+1:Nat):Int)]++F_ 33 I',[]⟩ [.code cD]) cs):=by
 have hS:=aH b N h L
 have ea:(#[.pointer (some ⟨A.hb,0,none⟩),.int .i64 ((i+1:Nat):Int)]++F_ 33 I':Array M')=#[.pointer (some ⟨A.hb,0,none⟩),.int .i64 ((i+1:Nat):Int),I',I',I',I',I',I',I',I',I',I',I',I',I',I',I',I',I',I',I',I',I',I',I',I',I',I',I',I',I',I',I',I',I']:=by kernel_rfl
 rw [ea]
 have e1:cD=.seq (ai 0 cD) (.seq (.seq (ai 0 (ai 1 cD)) (az 1 (ai 1 cD))) (az 2 cD)):=by kernel_rfl
 rw [e1]
 generalize hK:[Item.code (az 1 (ai 1 cD)),Item.code (az 2 cD)]=K0 at *
 have hcK:∀{wl:J'} {a:Act},ay p_ C b 0 ae Fin Post h (aY b N h L) wl (G ((base 123).at a (.code (ai 0 (ai 1 cD))::K0)) cs)->ay p_ C b 0 ae Fin Post h (aY b N h L) wl (G ((base 123).at a (.code (ai 0 (ai 1 cD))::K0)) cs):=fun h=>h
 generalize Mc:((i+1:Nat):Int)=iv at *
 refine B.s ?_
 generalize hR:[Item.code (Code.seq (.seq (ai 0 (ai 1 cD)) (az 1 (ai 1 cD))) (az 2 cD))]=R0
 simp only [ai,cD,f123,A_]
 iterate 3 refine B.n ?_
 subst hR
 iterate 2 refine B.n ?_
 rw [hK]
 simp only [ai,cD,f123,A_]
 iterate 3 refine B.n ?_
 refine ay.ctl B hS hL rfl (fun _=>bY (vs:=#[.pointer (some ⟨A.hb,0,none⟩),.int .i64 iv,.int .i64 0,.int .i64 0]) rfl rfl (by k_ne) rfl func101 rfl rfl (by kernel_rfl)) ?_
 rw [pB]
 subst Mc
 refine O8 B hL H K hT hi fun aK fJ H' K' T'=> ?_
 walk_nrm
 refine B.o (.bool (decide (us[i].k≠0))) (fun T d=> ?_) ?_
 ·by_cases e:us[i].k=0<;>go_simp
 walk_nrm
 refine B.e ?_
 have:=hc aK fJ H' K' T'
 exact this
end
variable {A:Ha} {S:Hs} {vb vr va vt:M'} {w w':J'} {ws:List (Int × Int)}
theorem aQ.Af {vw:M'} (h:aQ A S vw vb vr va vt w) {v:M'} (hg:w.grownBy w' vw.ownBlock) (ho:w'.ownsRow A.B 84 2 v ws.length (ax ws)):
 aQ A {S with wait:=ws} v vb vr va vt (w'.setCell ⟨A.hb,7,none⟩ v)/\Fr A w (w'.setCell ⟨A.hb,7,none⟩ v):=
 h.grown hg (fun g e=>pU h.wait g e) (k:=7) (v:=v) (S':={S with wait:=ws}) rfl rfl rfl rfl rfl ho (bU h.back h.wait (by decide) hg) (bU h.recs h.wait (by decide) hg) (bU h.log h.wait (by decide) hg) (bU h.cg h.wait (by decide) hg) h.apart
def l8:Bs:=[116,97,108,107,115]
def qB:Bs:=[110,111,110,101]
def zf (A:Ha) (i:Nat) (k:Int):Array M':=#[.pointer (some ⟨A.hb,0,none⟩),.int .i64 ((i+1:Nat):Int),I',I',.string ⟨#[]⟩,I',.pointer (some ⟨A.hb,0,none⟩),.int .i64 ((i+1:Nat):Int),.int .i64 k,.bool (decide (k≠0)),I',I',I',I',I',I',I',I',I',I',I',I',I',I',I',I',I',I',I',I',I',I',I',I',I']
theorem Dg {p q r:M'}:Frame.enter p_ 139 #[p,q,r] .normal=(base 139).at ⟨#[p,q,r]++F_ 26 I',[]⟩ [.code iL]:=by kernel_rfl
section
variable {C:cS} {b N N0 h:Nat} {L:Nat->Of.Os} {us:List Od} {vw:M'} {ae Fin:O'->J'->Prop} {Post:M'->J'->Prop} {wl:J'} {aI:Y'} {aS:Act} {av:Array y_} {aN:Nat} {ak:List Nat} {aV:List x_} {cs:List Y'}
variable {i:Nat} {k:Int}
theorem Ef (B:eh p_ C b 0 ae Fin h) (hL:Lay C wl) (hk:k≠0)
 (hc:ay p_ C b 0 ae Fin Post h (aY b N h L) wl (G (aI.at (aS.put ((av[aN]?).bind (·.dst)) (.string ⟨l8.toArray⟩)) (.inRegion av ak::aV)) cs)):
 ay p_ C b 0 ae Fin Post h (aY b N h L) wl (G ((base 123).at ⟨zf A i k,[]⟩ [.code (az 1 (ai 1 cD)),.code (az 2 cD)]) (aI.at aS (.inRegion av (aN::ak)::aV)::cs)):=by
 have hS:=aH b N h L
 refine B.p (aF (by kernel_rfl) rfl rfl ⟨_,func123⟩) (fun T d Bh hB=> ?_)
 have hd:decide (k≠0)=true:=by simp [hk]
 unfold zf
 rw [hd]
 simp only [ai,az,cD,f123,A_]
 go_wp2_with fail
 subst hB
 intro hcut todo
 have jv:Lay C (wl.re T d):=⟨hcut,hL.no⟩
 refine ay.ctl B hS jv rfl (fun _=>aZ rfl rfl func123 rfl) ?_
 exact hc.re T d
theorem Hh (B:eh p_ C b 0 ae Fin h) (hL:Lay C wl) (H:aQ A S vw vb vr va vt wl) (hw:S.wait=[])
 (hc:ay p_ C b 0 ae Fin Post h (aY b N h L) wl (G (aI.at (aS.put ((av[aN]?).bind (·.dst)) (.string ⟨qB.toArray⟩)) (.inRegion av ak::aV)) cs)):
 ay p_ C b 0 ae Fin Post h (aY b N h L) wl (G ((base 123).at ⟨zf A i 0,[]⟩ [.code (az 1 (ai 1 cD)),.code (az 2 cD)]) (aI.at aS (.inRegion av (aN::ak)::aV)::cs)):=by
 have hS:=aH b N h L
 refine B.p (aF (by kernel_rfl) rfl rfl ⟨_,func123⟩) (fun T d Bh hB=> ?_)
 have hd:decide ((0:Int)≠0)=false:=by simp
 unfold zf
 rw [hd]
 simp only [ai,az,cD,f123,A_]
 go_wp2_with fail
 subst hB
 intro hcut
 have jv:Lay C (wl.re T d):=⟨hcut,hL.no⟩
 refine B.s ?_
 refine ay.code (ok:=il) B pA hS jv (aF (by kernel_rfl) rfl rfl ⟨_,func123⟩) ?_
 intro T' d'
 rw [Oa]
 generalize hB:iM p_ C b 0 ae Fin Post h (aY b N h L) _ _ _=Bh
 replace hB:=aa hB
 obtain ⟨a,cap,ev⟩:=aE H.wait
 have c7:(wl.re T' d').cell? ⟨A.hb,7,none⟩=some vw:=H.c.2.2.2.2.1
 rw [ev,hw] at c7
 simp only [List.length_nil] at c7
 have ir:=aa hc
 clear hc hcut jv
 go_wp2_with fail
 subst hB
 intro hcut todo
 have jv:Lay C (wl.re T' d'):=⟨hcut,hL.no⟩
 refine ay.ctl B hS jv rfl (fun _=>aZ rfl rfl func123 rfl) ?_
 exact ir.out.re T' d'
theorem Hj (B:eh p_ C b 0 ae Fin h) (hL:Lay C wl) (H:aQ A S vw vb vr va vt wl) (K:bN C A N0 h us L wl) (hT:aU A wl) (hi:i<us.length) {p:Int × Int} (hw:S.wait=p::ws) (AQ:S.wait.length<=1000) {r:Nat} (mj:S.rc p.1=some r) (hr:r<S.recs.length) (wi:S.recs.length<=100000) (c0:0<=p.1) (c1:p.1<=1000000)
 (hc:∀aK jA,Lay C aK->aQ A (iZ {S with wait:=ws} r S.recs[r] ((i+1:Nat):Int)) jA vb vr va vt aK->bN C A N0 h (told us i 1 p.1) (upd L (N0+i) (.live ⟨us[i].bt,us[i].x,p.1⟩)) aK->aU A aK->
  ay p_ C b 0 ae Fin Post h (aY b N h (upd L (N0+i) (.live ⟨us[i].bt,us[i].x,p.1⟩))) aK (G (aI.at (aS.put ((av[aN]?).bind (·.dst)) (.string ⟨(dL++L_ p.1).toArray⟩)) (.inRegion av ak::aV)) cs)):
 ay p_ C b 0 ae Fin Post h (aY b N h L) wl (G ((base 123).at ⟨zf A i 0,[]⟩ [.code (az 1 (ai 1 cD)),.code (az 2 cD)]) (aI.at aS (.inRegion av (aN::ak)::aV)::cs)):=by
 have hS:=aH b N h L
 refine B.p (aF (by kernel_rfl) rfl rfl ⟨_,func123⟩) (fun T d Bh hB=> ?_)
 have hd:decide ((0:Int)≠0)=false:=by simp
 unfold zf
 rw [hd]
 have ir:=aa hc
 clear hc
 simp only [ai,az,cD,f123,A_]
 go_wp2_with fail
 subst hB
 intro hcut
 have jv:Lay C (wl.re T d):=⟨hcut,hL.no⟩
 refine ay.re (wl:=wl) ?_ T d
 clear hcut jv
 refine B.s ?_
 refine B.p (aF (by kernel_rfl) rfl rfl ⟨_,func123⟩) (fun T d Bh hB=> ?_)
 obtain ⟨g,cap,_,ev,_⟩:=cz H.wait (by rw [hw];simp)
 have hlen:S.wait.length=ws.length+1:=by rw [hw];rfl
 have c7:∀T d,(wl.re T d).cell? ⟨A.hb,7,none⟩=some vw:=fun _ _=>H.c.2.2.2.2.1
 rw [ev,hlen] at c7
 obtain ⟨y1,_⟩:=H.wE ev (k:=0) (by rw [hw];simp)
 have EE:S.wait[0]'(by rw [hw];simp)=p:=by simp only [hw];rfl
 rw [EE] at y1
 have y1:∀T d,(wl.re T d).cell? ⟨g,0,none⟩=some (.int .i64 p.1):=fun _ _=>(show wl.cell? ⟨g,0,none⟩=_ by simpa using y1)
 have Dx:((ws.length:Int)+1=0)=False:=by simp;omega
 have CP:(0:Int)<(ws.length:Int)+1:=by omega
 go_wp2_with fail
 subst hB
 intro hcut
 clear hcut
 refine ay.re (wl:=wl) ?_ T d
 refine B.s ?_
 refine B.p (aF (by kernel_rfl) rfl rfl ⟨_,func123⟩) (fun T d Bh hB=> ?_)
 go_wp2_with fail
 subst hB
 intro hcut
 clear hcut
 refine ay.re (wl:=wl) ?_ T d
 refine B.s ?_
 refine B.p (aF (by kernel_rfl) rfl rfl ⟨_,func123⟩) (fun T d Bh hB=> ?_)
 have bR:(wl.re T d).ownsRow A.B 84 2 (.slice (some ⟨g,0,none⟩) (ws.length+1) cap) (ws.length+1) (ax (p::ws)):=by
  have:=(H.heap (w':=wl.re T d) rfl).wait
  rw [ev,hlen,hw] at this;exact this
 have CU:=aa (NN bR)
 have H0:=aa (H.heap (w':=wl.re T d) rfl)
 have K0:f_ (bN C A N0 h us L (wl.re T d)):=⟨K.len,K.small,K.live,K.n0,K.ap,K.fo,K.kM,K.cells⟩
 have T0:f_ (aU A (wl.re T d)):=hT
 have hno:=aa hL.no
 have c7':=c7 T d
 replace hS:=aa hS
 clear H K hT hL bR y1 c7
 generalize wl.re T d=w0 at *
 go_wp2_with fail
 refine CU.out.mono ?_
 rintro e w2 ⟨rfl,ho,hg⟩
 have Mf:vw.ownBlock=some g:=by rw [ev];rfl
 have hgB:=(H0.out.wait.lt g Mf).1
 have Ba:=H0.out.ok.hb
 have hne:some A.hb≠some g:=fun e=>by injection e with e;omega
 have c7b:=hg.cell (a:=⟨A.hb,7,none⟩) c7' hne
 have f7b:w2.frozen? ⟨A.hb,7,none⟩=false:=(World.frozen?_of_block (hg.block A.hb (E_ Ba H0.out.big) hne)).trans (H0.out.z 7)
 have hp:=aa (H0.out.Af (v:=.slice (some ⟨g,0,none⟩) ws.length cap) (ws:=ws) (by rw [Mf];exact hg) ho)
 clear hg ho CU c7'
 go_wp2_with fail
 subst hB
 intro hcut
 generalize w2.setCell ⟨A.hb,7,none⟩ (.slice (some ⟨g,0,none⟩) ws.length cap)=w3 at *
 obtain ⟨H3,F3⟩:=hp.out
 have K3:=K0.out.fr H0.out F3
 have T3:=T0.out.fr H0.out F3
 have gA:Lay C w3:=⟨hcut,hno.out⟩
 have hS:=hS.out
 generalize Mc:((i+1:Nat):Int)=iv at *
 generalize hq:(((ws.length:Int)+1==0):Bool)=Yr
 iterate 3 refine B.n ?_
 refine B.o (.int .i64 iv) (fun T d=> ?_) ?_
 ·go_simp
  omega
 walk_nrm
 refine B.n ?_
 refine ay.ctl B hS gA rfl (fun _=>bY (vs:=#[.pointer (some ⟨A.hb,0,none⟩),.int .i64 iv,.int .i64 p.1]) rfl rfl (by k_ne) rfl func139 rfl rfl (by kernel_rfl)) ?_
 rw [Dg]
 subst Mc
 refine cg B gA H3 K3 T3 hi mj hr wi c0 c1 fun aK fJ H' K' T'=> ?_
 have uh:=aH b N h (upd L (N0+i) (.live ⟨us[i].bt,us[i].x,p.1⟩))
 walk_nrm
 iterate 2 refine B.n ?_
 refine ay.ctl B uh fJ rfl (fun _=>ma) ?_
 refine ay.ctl B uh fJ rfl (fun _=>aZ rfl rfl func123 rfl) ?_
 exact ir.out aK _ fJ H' K' T'
end
def og (S:Hs) (us:List Od) (i:Nat):Hs × List Od × Bs:=
 match us[i]? with
 |none=>(S,us,[])
 |some u=>if u.k≠0 then (S,us,l8) else match S.wait with
  |[]=>(S,us,qB)
  |p::ws=>match S.rc p.1 with
   |none=>(S,us,[])
   |some r=>match S.recs[r]? with
    |none=>(S,us,[])
    |some x=>(iZ {S with wait:=ws} r x ((i+1:Nat):Int),told us i 1 p.1,dL++L_ p.1)
def Behind (C:cS) (b N N0 h:Nat) (A:Ha) (va vt:M') (ae Fin:O'->J'->Prop) (Post:M'->J'->Prop) (aI:Y') (aS:Act) (av:Array y_) (aN:Nat) (ak:List Nat) (aV:List x_) (cs:List Y') (R:Hs × List Od × Bs):Prop:=
 ∀aK L',Lay C aK->cQ A va vt R.1 aK->bN C A N0 h R.2.1 L' aK->aU A aK->
  ay p_ C b 0 ae Fin Post h (aY b N h L') aK (G (aI.at (aS.put ((av[aN]?).bind (·.dst)) (.string ⟨R.2.2.toArray⟩)) (.inRegion av ak::aV)) cs)
section
variable {C:cS} {b N N0 h:Nat} {L:Nat->Of.Os} {us:List Od} {ae Fin:O'->J'->Prop} {Post:M'->J'->Prop} {wl:J'} {aI:Y'} {aS:Act} {av:Array y_} {aN:Nat} {ak:List Nat} {aV:List x_} {cs:List Y'}
variable {i:Nat}
theorem Qa (B:eh p_ C b 0 ae Fin h) (hL:Lay C wl) (H:cQ A va vt S wl) (K:bN C A N0 h us L wl) (hT:aU A wl) (hi:i<us.length) (cK:rC S)
 (hc:Behind C b N N0 h A va vt ae Fin Post aI aS av aN ak aV cs (og S us i)):
 ay p_ C b 0 ae Fin Post h (aY b N h L) wl (G ((base 123).at ⟨#[.pointer (some ⟨A.hb,0,none⟩),.int .i64 ((i+1:Nat):Int)]++F_ 33 I',[]⟩ [.code cD]) (aI.at aS (.inRegion av (aN::ak)::aV)::cs)):=by
 obtain ⟨vw,vb,vr,H⟩:=H
 refine P9 B hL H K hT hi fun aK fJ H' K' T'=> ?_
 have hu:us[i]?=some us[i]:=G_ hi
 by_cases hk:us[i].k≠0
 ·have hR:og S us i=(S,us,l8):=by unfold og;rw [hu];simp only [if_pos hk]
  rw [hR] at hc
  exact Ef B fJ hk (hc aK L fJ ⟨_,_,_,H'⟩ K' T')
 ·have vF:us[i].k=0:=Classical.byContradiction hk
  rw [vF]
  cases hw:S.wait with
  |nil=>
   have hR:og S us i=(S,us,qB):=by unfold og;rw [hu];simp only [if_neg hk,hw]
   rw [hR] at hc
   exact Hh B fJ H' hw (hc aK L fJ ⟨_,_,_,H'⟩ K' T')
  |cons p ws=>
   have h0:0<S.wait.length:=by rw [hw];simp
   obtain ⟨x,r,_,mj,hr⟩:=cK.has 0 h0
   have jX:=cK.call 0 h0
   have hp:S.wait[0]=p:=by simp only [hw];rfl
   rw [hp] at mj jX
   have hR:og S us i=(iZ {S with wait:=ws} r S.recs[r] ((i+1:Nat):Int),told us i 1 p.1,dL++L_ p.1):=by
    unfold og
    rw [hu]
    simp only [if_neg hk,hw,mj,G_ hr]
   rw [hR] at hc
   exact Hj B fJ H' K' T' hi hw cK.wl mj hr cK.recs jX.1 jX.2 fun Pz jA Rt H'' K'' T''=>hc Pz _ Rt ⟨_,_,_,H''⟩ K'' T''
end
noncomputable def cy:Code:=f124.body.getD .skip
def sP (A:Ha) (i:Nat) (k:Int):Array M':=#[.pointer (some ⟨A.hb,0,none⟩),.int .i64 ((i+1:Nat):Int),I',I',.string ⟨#[]⟩,I',I',.pointer (some ⟨A.hb,0,none⟩),.int .i64 ((i+1:Nat):Int),.int .i64 k,.bool (decide (k≠0)),I',I',I',I',I',I',I',I',I',I',I',I',I',I',I',I',I',I',I',I',I',I',I',I',I',I',I',I',I',I',I',I']
section
variable {C:cS} {b N N0 h:Nat} {L:Nat->Of.Os} {us:List Od} {vw:M'} {ae Fin:O'->J'->Prop} {Post:M'->J'->Prop} {wl:J'} {aI:Y'} {aS:Act} {av:Array y_} {aN:Nat} {ak:List Nat} {aV:List x_} {cs:List Y'}
variable {i:Nat}
theorem RS (B:eh p_ C b 0 ae Fin h) (hL:Lay C wl) (H:aQ A S vw vb vr va vt wl) (K:bN C A N0 h us L wl) (hT:aU A wl) (hi:i<us.length)
 (hc:∀aK,Lay C aK->aQ A S vw vb vr va vt aK->bN C A N0 h us L aK->aU A aK->
  ay p_ C b 0 ae Fin Post h (aY b N h L) aK (G ((base 124).at ⟨sP A i us[i].k,[]⟩ [.code (az 1 (ai 1 cy)),.code (az 2 cy)]) cs)):
 ay p_ C b 0 ae Fin Post h (aY b N h L) wl (G ((base 124).at ⟨#[.pointer (some ⟨A.hb,0,none⟩),.int .i64 ((i+1:Nat):Int)]++F_ 41 I',[]⟩ [.code cy]) cs):=by
 have hS:=aH b N h L
 have ea:(#[.pointer (some ⟨A.hb,0,none⟩),.int .i64 ((i+1:Nat):Int)]++F_ 41 I':Array M')=#[.pointer (some ⟨A.hb,0,none⟩),.int .i64 ((i+1:Nat):Int),I',I',I',I',I',I',I',I',I',I',I',I',I',I',I',I',I',I',I',I',I',I',I',I',I',I',I',I',I',I',I',I',I',I',I',I',I',I',I',I',I']:=by kernel_rfl
 rw [ea]
 have e1:cy=.seq (ai 0 cy) (.seq (.seq (ai 0 (ai 1 cy)) (az 1 (ai 1 cy))) (az 2 cy)):=by kernel_rfl
 rw [e1]
 generalize hK:[Item.code (az 1 (ai 1 cy)),Item.code (az 2 cy)]=K0 at *
 generalize Mc:((i+1:Nat):Int)=iv at *
 refine B.s ?_
 generalize hR:[Item.code (Code.seq (.seq (ai 0 (ai 1 cy)) (az 1 (ai 1 cy))) (az 2 cy))]=R0
 simp only [ai,cy,f124,A_]
 iterate 3 refine B.n ?_
 subst hR
 iterate 2 refine B.n ?_
 rw [hK]
 simp only [ai,cy,f124,A_]
 iterate 3 refine B.n ?_
 refine ay.ctl B hS hL rfl (fun _=>bY (vs:=#[.pointer (some ⟨A.hb,0,none⟩),.int .i64 iv,.int .i64 0,.int .i64 0]) rfl rfl (by k_ne) rfl func101 rfl rfl (by kernel_rfl)) ?_
 rw [pB]
 subst Mc
 refine O8 B hL H K hT hi fun aK fJ H' K' T'=> ?_
 walk_nrm
 refine B.o (.bool (decide (us[i].k≠0))) (fun T d=> ?_) ?_
 ·by_cases e:us[i].k=0<;>go_simp
 walk_nrm
 refine B.e ?_
 have:=hc aK fJ H' K' T'
 exact this
variable {k:Int}
theorem Ff (B:eh p_ C b 0 ae Fin h) (hL:Lay C wl) (hk:k≠0)
 (hc:ay p_ C b 0 ae Fin Post h (aY b N h L) wl (G (aI.at (aS.put ((av[aN]?).bind (·.dst)) (.string ⟨l8.toArray⟩)) (.inRegion av ak::aV)) cs)):
 ay p_ C b 0 ae Fin Post h (aY b N h L) wl (G ((base 124).at ⟨sP A i k,[]⟩ [.code (az 1 (ai 1 cy)),.code (az 2 cy)]) (aI.at aS (.inRegion av (aN::ak)::aV)::cs)):=by
 have hS:=aH b N h L
 refine B.p (aF (by kernel_rfl) rfl rfl ⟨_,func124⟩) (fun T d Bh hB=> ?_)
 have hd:decide (k≠0)=true:=by simp [hk]
 unfold sP
 rw [hd]
 simp only [ai,az,cy,f124,A_]
 go_wp2_with fail
 subst hB
 intro hcut todo
 have jv:Lay C (wl.re T d):=⟨hcut,hL.no⟩
 refine ay.ctl B hS jv rfl (fun _=>aZ rfl rfl func124 rfl) ?_
 exact hc.re T d
theorem Ib (B:eh p_ C b 0 ae Fin h) (hL:Lay C wl) (H:aQ A S vw vb vr va vt wl) (hw:S.back=[])
 (hc:ay p_ C b 0 ae Fin Post h (aY b N h L) wl (G (aI.at (aS.put ((av[aN]?).bind (·.dst)) (.string ⟨qB.toArray⟩)) (.inRegion av ak::aV)) cs)):
 ay p_ C b 0 ae Fin Post h (aY b N h L) wl (G ((base 124).at ⟨sP A i 0,[]⟩ [.code (az 1 (ai 1 cy)),.code (az 2 cy)]) (aI.at aS (.inRegion av (aN::ak)::aV)::cs)):=by
 have hS:=aH b N h L
 refine B.p (aF (by kernel_rfl) rfl rfl ⟨_,func124⟩) (fun T d Bh hB=> ?_)
 have hd:decide ((0:Int)≠0)=false:=by simp
 unfold sP
 rw [hd]
 simp only [ai,az,cy,f124,A_]
 go_wp2_with fail
 subst hB
 intro hcut
 have jv:Lay C (wl.re T d):=⟨hcut,hL.no⟩
 refine B.s ?_
 refine ay.code (ok:=il) B pA hS jv (aF (by kernel_rfl) rfl rfl ⟨_,func124⟩) ?_
 intro T' d'
 rw [Oa]
 generalize hB:iM p_ C b 0 ae Fin Post h (aY b N h L) _ _ _=Bh
 replace hB:=aa hB
 obtain ⟨a,cap,ev⟩:=aE H.back
 have c7:(wl.re T' d').cell? ⟨A.hb,8,none⟩=some vb:=H.c.2.2.2.2.2.1
 rw [ev,hw] at c7
 simp only [List.length_nil] at c7
 have ir:=aa hc
 clear hc hcut jv
 go_wp2_with fail
 subst hB
 intro hcut todo
 have jv:Lay C (wl.re T' d'):=⟨hcut,hL.no⟩
 refine ay.ctl B hS jv rfl (fun _=>aZ rfl rfl func124 rfl) ?_
 exact ir.out.re T' d'
end
variable {ks:List Int}
theorem aQ.FG {vw:M'} (h:aQ A S vw vb vr va vt w) {v:M'} (hg:w.grownBy w' vb.ownBlock) (hv:v.ownBlock=vb.ownBlock) (ho:w'.ownsRow A.B 3 1 v ks.length (ks.map (Value.int .i64))):
 aQ A {S with back:=ks} vw v vr va vt (w'.setCell ⟨A.hb,8,none⟩ v)/\Fr A w (w'.setCell ⟨A.hb,8,none⟩ v):=by
 have J8:vt.ownBlock=none\/vt.ownBlock≠vb.ownBlock:=by
  rcases h.apart with e|e
  ·rw [e];exact oT _
  ·exact .inr (Ne.symm e)
 exact h.grown hg (fun g e=>pU h.back g e) (k:=8) (v:=v) (S':={S with back:=ks}) rfl rfl rfl rfl rfl (bU h.wait h.back (by decide) hg) ho (bU h.recs h.back (by decide) hg) (bU h.log h.back (by decide) hg) (h.cg.kept hg J8) (by rw [hv];exact h.apart)
theorem lX (S:Hs):gf S= -1\/∃l,∃hl:l<S.lines.length,gf S=(l:Nat)/\S.on S.lines[l]=none:=by
 unfold gf
 cases h:S.lines.findIdx? (fun x=>(S.on x).isNone) with
 |none=>exact .inl rfl
 |some l=>
  obtain ⟨hl,h1,_⟩:=List.findIdx?_eq_some_iff_getElem.1 h
  exact .inr ⟨l,hl,rfl,by simpa using h1⟩
def qN:Bs:=[98,117,115,121]
section
variable {C:cS} {b N N0 h:Nat} {L:Nat->Of.Os} {us:List Od} {vw:M'} {ae Fin:O'->J'->Prop} {Post:M'->J'->Prop} {wl:J'} {aI:Y'} {aS:Act} {av:Array y_} {aN:Nat} {ak:List Nat} {aV:List x_} {cs:List Y'}
variable {i:Nat}
theorem Ie (B:eh p_ C b 0 ae Fin h) (hL:Lay C wl) (H:aQ A S vw vb vr va vt wl) {c:Int} (hw:S.back=c::ks) (hn:S.lines.length<=1000) (jV:gf S= -1)
 (hc:ay p_ C b 0 ae Fin Post h (aY b N h L) wl (G (aI.at (aS.put ((av[aN]?).bind (·.dst)) (.string ⟨qN.toArray⟩)) (.inRegion av ak::aV)) cs)):
 ay p_ C b 0 ae Fin Post h (aY b N h L) wl (G ((base 124).at ⟨sP A i 0,[]⟩ [.code (az 1 (ai 1 cy)),.code (az 2 cy)]) (aI.at aS (.inRegion av (aN::ak)::aV)::cs)):=by
 have hS:=aH b N h L
 refine B.p (aF (by kernel_rfl) rfl rfl ⟨_,func124⟩) (fun T d Bh hB=> ?_)
 have hd:decide ((0:Int)≠0)=false:=by simp
 unfold sP
 rw [hd]
 have ir:=aa hc
 clear hc
 simp only [ai,az,cy,f124,A_]
 go_wp2_with fail
 subst hB
 intro hcut
 clear hcut
 refine ay.re (wl:=wl) ?_ T d
 refine B.s ?_
 refine B.p (aF (by kernel_rfl) rfl rfl ⟨_,func124⟩) (fun T d Bh hB=> ?_)
 obtain ⟨g,cap,_,ev,_⟩:=cz H.back (by rw [hw];simp)
 have hlen:S.back.length=ks.length+1:=by rw [hw];rfl
 have c8:∀T d,(wl.re T d).cell? ⟨A.hb,8,none⟩=some vb:=fun _ _=>H.c.2.2.2.2.2.1
 rw [ev,hlen] at c8
 have Dx:((ks.length:Int)+1=0)=False:=by simp;omega
 have CP:(0:Int)<(ks.length:Int)+1:=by omega
 go_wp2_with fail
 subst hB
 intro hcut
 clear hcut
 refine ay.re (wl:=wl) ?_ T d
 refine B.s ?_
 refine B.p (aF (by kernel_rfl) rfl rfl ⟨_,func124⟩) (fun T d Bh hB=> ?_)
 have dJ:=aa (kK (H.heap (w':=wl.re T d) rfl) hn)
 go_wp2_with fail
 refine dJ.out.mono ?_
 rintro e w2 ⟨rfl,rfl⟩
 rw [jV]
 go_wp2_with fail
 subst hB
 intro hcut
 clear hcut
 refine ay.re (wl:=wl) ?_ T d
 refine B.s ?_
 refine B.p (aF (by kernel_rfl) rfl rfl ⟨_,func124⟩) (fun T d Bh hB=> ?_)
 go_wp2_with fail
 subst hB
 intro hcut todo
 have jv:Lay C (wl.re T d):=⟨hcut,hL.no⟩
 refine ay.ctl B hS jv rfl (fun _=>aZ rfl rfl func124 rfl) ?_
 exact ir.out.re T d
theorem Ic (B:eh p_ C b 0 ae Fin h) (hL:Lay C wl) (H:aQ A S vw vb vr va vt wl) (K:bN C A N0 h us L wl) (hT:aU A wl) (hi:i<us.length) {c:Int} (hw:S.back=c::ks) (hn:S.lines.length<=1000) (wi:S.recs.length<=90000) (c0:0<=c) (c1:c<=1000000) {l:Nat} (hl:l<S.lines.length) (jV:gf S=(l:Nat)) {S2:Hs} (KP:S2=conn {S with back:=ks} c l S.lines[l]) (l':S.recs.length<S2.recs.length)
 (hc:∀aK qS qb,Lay C aK->aQ A (iZ S2 S.recs.length S2.recs[S.recs.length] ((i+1:Nat):Int)) vw qS qb va vt aK->bN C A N0 h (told us i 1 c) (upd L (N0+i) (.live ⟨us[i].bt,us[i].x,c⟩)) aK->aU A aK->
  ay p_ C b 0 ae Fin Post h (aY b N h (upd L (N0+i) (.live ⟨us[i].bt,us[i].x,c⟩))) aK (G (aI.at (aS.put ((av[aN]?).bind (·.dst)) (.string ⟨(dL++L_ c).toArray⟩)) (.inRegion av ak::aV)) cs)):
 ay p_ C b 0 ae Fin Post h (aY b N h L) wl (G ((base 124).at ⟨sP A i 0,[]⟩ [.code (az 1 (ai 1 cy)),.code (az 2 cy)]) (aI.at aS (.inRegion av (aN::ak)::aV)::cs)):=by
 have hS:=aH b N h L
 refine B.p (aF (by kernel_rfl) rfl rfl ⟨_,func124⟩) (fun T d Bh hB=> ?_)
 have hd:decide ((0:Int)≠0)=false:=by simp
 unfold sP
 rw [hd]
 have ir:=aa hc
 clear hc
 simp only [ai,az,cy,f124,A_]
 go_wp2_with fail
 subst hB
 intro hcut
 clear hcut
 refine ay.re (wl:=wl) ?_ T d
 refine B.s ?_
 refine B.p (aF (by kernel_rfl) rfl rfl ⟨_,func124⟩) (fun T d Bh hB=> ?_)
 obtain ⟨g,cap,_,ev,_⟩:=cz H.back (by rw [hw];simp)
 have hlen:S.back.length=ks.length+1:=by rw [hw];rfl
 have c8:∀T d,(wl.re T d).cell? ⟨A.hb,8,none⟩=some vb:=fun _ _=>H.c.2.2.2.2.2.1
 rw [ev,hlen] at c8
 have Dx:((ks.length:Int)+1=0)=False:=by simp;omega
 have CP:(0:Int)<(ks.length:Int)+1:=by omega
 go_wp2_with fail
 subst hB
 intro hcut
 clear hcut
 refine ay.re (wl:=wl) ?_ T d
 refine B.s ?_
 refine B.p (aF (by kernel_rfl) rfl rfl ⟨_,func124⟩) (fun T d Bh hB=> ?_)
 have dJ:=aa (kK (H.heap (w':=wl.re T d) rfl) hn)
 go_wp2_with fail
 refine dJ.out.mono ?_
 rintro e w2 ⟨rfl,rfl⟩
 rw [jV]
 have uK:(0:Int)<=(l:Int):=by omega
 have Mb:((l:Int)<0)=False:=by simp
 go_wp2_with fail
 subst hB
 intro hcut
 clear hcut
 refine ay.re (wl:=wl) ?_ T d
 refine B.s ?_
 refine B.p (aF (by kernel_rfl) rfl rfl ⟨_,func124⟩) (fun T d Bh hB=> ?_)
 go_wp2_with fail
 subst hB
 intro hcut
 clear hcut
 refine ay.re (wl:=wl) ?_ T d
 refine B.s ?_
 refine B.p (aF (by kernel_rfl) rfl rfl ⟨_,func124⟩) (fun T d Bh hB=> ?_)
 have ho:=H.back
 rw [ev,hlen,hw] at ho
 have y1:∀T d,(wl.re T d).cell? ⟨g,0,none⟩=some (.int .i64 c):=fun _ _=>(ho.cellAt 0 (by omega)).trans rfl
 go_wp2_with fail
 subst hB
 intro hcut
 clear hcut
 refine ay.re (wl:=wl) ?_ T d
 refine B.s ?_
 refine B.p (aF (by kernel_rfl) rfl rfl ⟨_,func124⟩) (fun T d Bh hB=> ?_)
 have bR:(wl.re T d).ownsRow A.B 3 1 (.slice (some ⟨g,0,none⟩) (c::ks).length cap) (c::ks).length ((c::ks).map (Value.int .i64)):=ho
 have CU:=aa (Gt bR (i:=0) (by simp))
 have H0:=aa (H.heap (w':=wl.re T d) rfl)
 have K0:f_ (bN C A N0 h us L (wl.re T d)):=⟨K.len,K.small,K.live,K.n0,K.ap,K.fo,K.kM,K.cells⟩
 have T0:f_ (aU A (wl.re T d)):=hT
 have hno:=aa hL.no
 have VO:=c8 T d
 replace hS:=aa hS
 clear H K hT hL bR y1 c8 dJ ho
 generalize wl.re T d=w0 at *
 go_wp2_with fail
 refine CU.out.mono ?_
 rintro e w2 ⟨rfl,ho,hg⟩
 have Mf:vb.ownBlock=some g:=by rw [ev];rfl
 have hgB:=(H0.out.back.lt g Mf).1
 have Ba:=H0.out.ok.hb
 have hne:some A.hb≠some g:=fun e=>by injection e with e;omega
 have c8b:=hg.cell (a:=⟨A.hb,8,none⟩) VO hne
 have f8b:w2.frozen? ⟨A.hb,8,none⟩=false:=(World.frozen?_of_block (hg.block A.hb (E_ Ba H0.out.big) hne)).trans (H0.out.z 8)
 have hp:=aa (H0.out.FG (v:=.slice (some ⟨g,0,none⟩) ks.length cap) (ks:=ks) (by rw [Mf];exact hg) (by rw [Mf];rfl) ho)
 clear hg ho CU VO
 go_wp2_with fail
 subst hB
 intro hcut
 generalize w2.setCell ⟨A.hb,8,none⟩ (.slice (some ⟨g,0,none⟩) ks.length cap)=w3 at *
 have gA:Lay C w3:=⟨hcut,hno.out⟩
 clear hcut
 refine B.s ?_ (hS:=hS.out)
 refine B.p (aF (by kernel_rfl) rfl rfl ⟨_,func124⟩) (fun T d Bh hB=> ?_) (hS:=hS.out)
 have H3:=aa (hp.out.1.heap (w':=w3.re T d) rfl)
 have K3:f_ (bN C A N0 h us L (w3.re T d)):=by
  have k3:=K0.out.fr H0.out hp.out.2
  exact ⟨k3.len,k3.small,k3.live,k3.n0,k3.ap,k3.fo,k3.kM,k3.cells⟩
 have T3:f_ (aU A (w3.re T d)):=by
  have t3:=T0.out.fr H0.out hp.out.2
  exact t3
 have xG:=aa (oy H3.out (c:=c) (l:=l) hl hn (by show S.recs.length<=100000;omega) (by omega) (by omega) (Fr.refl A (w3.re T d)))
 clear hp K0 T0 H0 c8b f8b gA
 generalize w3.re T d=w4 at *
 go_wp2_with fail
 refine xG.out.mono ?_
 rintro e w5 ⟨rfl,⟨qb,H5⟩,F5⟩
 have H5:=aa H5
 have K5:=aa (K3.out.fr H3.out F5)
 have T5:=aa (T3.out.fr H3.out F5)
 clear F5 K3 T3 H3 xG
 go_wp2_with fail
 subst hB
 intro hcut
 have qu:Lay C w5:=⟨hcut,hno.out⟩
 have hS:=hS.out
 have mj:S2.rc c=some S.recs.length:=by rw [KP];show (if c=c then _ else _)=_;rw [if_pos rfl]
 have H6:aQ A S2 vw (.slice (some ⟨g,0,none⟩) ks.length cap) qb va vt w5:=by rw [KP];exact H5.out
 have YX:S2.recs.length<=100000:=by rw [KP];show (S.recs++[_]).length<=_;rw [K_];simp;omega
 generalize Mc:((i+1:Nat):Int)=iv at *
 iterate 3 refine B.n ?_
 refine B.o (.int .i64 iv) (fun T d=> ?_) ?_
 ·go_simp
  omega
 walk_nrm
 refine B.n ?_
 refine ay.ctl B hS qu rfl (fun _=>bY (vs:=#[.pointer (some ⟨A.hb,0,none⟩),.int .i64 iv,.int .i64 c]) rfl rfl (by k_ne) rfl func139 rfl rfl (by kernel_rfl)) ?_
 rw [Dg]
 subst Mc
 refine cg B qu H6 K5.out T5.out hi mj l' YX c0 c1 fun aK fJ H' K' T'=> ?_
 have uh:=aH b N h (upd L (N0+i) (.live ⟨us[i].bt,us[i].x,c⟩))
 walk_nrm
 iterate 2 refine B.n ?_
 refine ay.ctl B uh fJ rfl (fun _=>ma) ?_
 refine ay.ctl B uh fJ rfl (fun _=>aZ rfl rfl func124 rfl) ?_
 exact ir.out aK _ _ fJ H' K' T'
end
def lY (S:Hs) (us:List Od) (i:Nat):Hs × List Od × Bs:=
 match us[i]? with
 |none=>(S,us,[])
 |some u=>if u.k≠0 then (S,us,l8) else match S.back with
  |[]=>(S,us,qB)
  |c::ks=>if gf S<0 then (S,us,qN) else match S.lines[(gf S).toNat]? with
   |none=>(S,us,[])
   |some x=>(iZ (conn {S with back:=ks} c (gf S).toNat x) S.recs.length (kT {S with back:=ks} c (gf S).toNat) ((i+1:Nat):Int),told us i 1 c,dL++L_ c)
structure Ft (S:Hs):Prop where
 lines:S.lines.length<=1000
 recs:S.recs.length<=90000
 back:∀c∈S.back,0<=c/\c<=1000000
section
variable {C:cS} {b N N0 h:Nat} {L:Nat->Of.Os} {us:List Od} {ae Fin:O'->J'->Prop} {Post:M'->J'->Prop} {wl:J'} {aI:Y'} {aS:Act} {av:Array y_} {aN:Nat} {ak:List Nat} {aV:List x_} {cs:List Y'}
variable {i:Nat}
theorem Ly (B:eh p_ C b 0 ae Fin h) (hL:Lay C wl) (H:cQ A va vt S wl) (K:bN C A N0 h us L wl) (hT:aU A wl) (hi:i<us.length) (cK:Ft S)
 (hc:Behind C b N N0 h A va vt ae Fin Post aI aS av aN ak aV cs (lY S us i)):
 ay p_ C b 0 ae Fin Post h (aY b N h L) wl (G ((base 124).at ⟨#[.pointer (some ⟨A.hb,0,none⟩),.int .i64 ((i+1:Nat):Int)]++F_ 41 I',[]⟩ [.code cy]) (aI.at aS (.inRegion av (aN::ak)::aV)::cs)):=by
 obtain ⟨vw,vb,vr,H⟩:=H
 refine RS B hL H K hT hi fun aK fJ H' K' T'=> ?_
 have hu:us[i]?=some us[i]:=G_ hi
 by_cases hk:us[i].k≠0
 ·have hR:lY S us i=(S,us,l8):=by unfold lY;rw [hu];simp only [if_pos hk]
  rw [hR] at hc
  exact Ff B fJ hk (hc aK L fJ ⟨_,_,_,H'⟩ K' T')
 ·have vF:us[i].k=0:=Classical.byContradiction hk
  rw [vF]
  cases hw:S.back with
  |nil=>
   have hR:lY S us i=(S,us,qB):=by unfold lY;rw [hu];simp only [if_neg hk,hw]
   rw [hR] at hc
   exact Ib B fJ H' hw (hc aK L fJ ⟨_,_,_,H'⟩ K' T')
  |cons c ks=>
   have jX:=cK.back c (by rw [hw];simp)
   rcases lX S with hf|⟨l,hl,hf,_⟩
   ·have hR:lY S us i=(S,us,qN):=by
     unfold lY
     rw [hu]
     simp only [if_neg hk,hw,hf]
     rfl
    rw [hR] at hc
    exact Ie B fJ H' hw cK.lines hf (hc aK L fJ ⟨_,_,_,H'⟩ K' T')
   ·have hn:¬(((l:Nat):Int)<0):=by omega
    have hx:(conn {S with back:=ks} c l S.lines[l]).recs[S.recs.length]'(by simp [conn])=kT {S with back:=ks} c l:=by simp [conn]
    have hR:lY S us i=(iZ (conn {S with back:=ks} c l S.lines[l]) S.recs.length (kT {S with back:=ks} c l) ((i+1:Nat):Int),told us i 1 c,dL++L_ c):=by
     unfold lY
     rw [hu]
     simp only [if_neg hk,hw,hf,if_neg hn,Int.toNat_natCast,G_ hl]
    rw [hR,<-hx] at hc
    exact Ic B fJ H' K' T' hi hw cK.lines cK.recs jX.1 jX.2 hl hf rfl (by simp [conn]) fun Pz qS qb Rt H'' K'' T''=>hc Pz _ Rt ⟨_,_,_,H''⟩ K'' T''
end
section
variable {C:cS} {b N N0 h:Nat} {L:Nat->Of.Os} {us:List Od} {ae Fin:O'->J'->Prop} {Post:M'->J'->Prop} {wl:J'} {aI:Y'} {aS:Act} {av:Array y_} {aN:Nat} {ak:List Nat} {aV:List x_} {cs:List Y'}
theorem PD (B:eh p_ C b 0 ae Fin h) (hL:Lay C wl) (H:cQ A va vt S wl) (K:bN C A N0 h us L wl) (hT:aU A wl) (cK:rC S) {n:Int} (n0:0<=n) (n1:n<=1000000) (k0:0<=S.clock) (k1:S.clock<=1000000)
 (hc:Behind C b N N0 h A va vt ae Fin Post aI aS av aN ak aV cs ((waited A.P S n).1,us,(waited A.P S n).2)):
 ay p_ C b 0 ae Fin Post h (aY b N h L) wl (G (Frame.enter p_ 125 #[.pointer (some ⟨A.hb,0,none⟩),.int .i64 n] .normal) (aI.at aS (.inRegion av (aN::ak)::aV)::cs)):=by
 have hS:=aH b N h L
 obtain ⟨vw,vb,vr,H⟩:=H
 refine ay.call (ok:=il) B pA hS hL (by kernel_rfl) (by kernel_rfl) fun T d=> ?_
 have H0:=H.heap (w':=wl.re T d) rfl
 have K0:bN C A N0 h us L (wl.re T d):=⟨K.len,K.small,K.live,K.n0,K.ap,K.fo,K.kM,K.cells⟩
 have T0:aU A (wl.re T d):=hT
 refine (IP H0 cK n0 n1 k0 k1 (T0.PO H0) (Fr.refl A _)).mono ?_
 rintro e w' ⟨rfl,H',F'⟩
 refine ⟨_,rfl,fun hcut=> ?_⟩
 rw [Frame.finish_at]
 exact hc w' L ⟨hcut,hL.no⟩ H' (K0.fr H0 F') (T0.fr H0 F')
end
end
section
open Go Go.Conc Go.aC Go.Proofs
open Go.RowKit hiding Hid
variable {P:Program} {w:J'}
theorem mE (d:Nat) {t e:Q'} {dir:ChanDir} (h:P.underlying t=some (.chan dir e)) (a b:Option Nat):(Op.equalIn (d+1) t (.chan a) (.chan b)).run P w=.ok (a==b) w:=by
 rw [Op.equalIn];simp [run_underlying h]
theorem rY {t e:Q'} {dir:ChanDir} (h:P.underlying t=some (.chan dir e)) (a:Option Nat):(binOp .neq t (.chan a) (.chan none)).run P w=.ok (.bool a.isSome) w:=by
 simp only [binOp]
 simp [Op.equal,Op.maxDepth,mE 9999 h]
 try (cases a<;>rfl)
theorem De {t e:Q'} {dir:ChanDir} (h:P.underlying t=some (.chan dir e)) (a:Option Nat):(binOp .eql t (.chan a) (.chan none)).run P w=.ok (.bool a.isNone) w:=by
 simp only [binOp]
 simp [Op.equal,Op.maxDepth,mE 9999 h]
 try (cases a<;>rfl)
section
variable {B:Nat} {v:M'} {zs:List Int}
variable {g:Nat}
theorem ze (h:w.ownsRow B 3 1 v zs.length (zs.map (Value.int .i64))) {cap:Nat} (hv:v=.slice (some ⟨g,0,none⟩) zs.length cap) (j:Nat) (hj:j<zs.length):w.cell? ⟨g,0+j,none⟩=some (.int .i64 (zs.getD j 0)):=by
 rw [hv] at h
 rw [Nat.zero_add,h.cellAt j (by omega)]
 simp [List.getElem?_map,G_ hj,List.getD_eq_getElem?_getD]
theorem nW (h:w.ownsRow B 3 1 v zs.length (zs.map (Value.int .i64))) (hb:zs.length<=1000000) (x:Int):Calls p_ 127 #[v,.int .i64 x] w fun e w'=>e=.returned (.bool (zs.contains x))/\w'=w:=by
 rcases h.2 with ⟨h0,h1⟩|⟨g,cap,cur,h1,_⟩
 ·have hz:zs=[]:=List.length_eq_zero_iff.1 h1
  subst hz
  rw [h0]
  exact Tryz.slices_Contains_int_empty none 0 x w
 ·have:=Tryz.slices_Contains_int g 0 zs.length cap zs x w (C_ _) (by omega) (fun j hj=>ze h h1 j hj)
  rw [List.take_length] at this
  rw [h1];exact this
theorem Hz (h:w.ownsRow B 3 1 v zs.length (zs.map (Value.int .i64))) (hb:zs.length<=1000000) (x:Int):Calls p_ 132 #[v,.int .i64 x] w fun e w'=>e=.returned (.int .i64 (Lib.idxOf zs x))/\w'=w:=by
 rcases h.2 with ⟨h0,h1⟩|⟨g,cap,cur,h1,_⟩
 ·have hz:zs=[]:=List.length_eq_zero_iff.1 h1
  subst hz
  rw [h0]
  exact Tryz.slices_Index_int_empty none 0 x w
 ·have:=Tryz.slices_Index_int g 0 zs.length cap zs x w (C_ _) (by omega) (fun j hj=>ze h h1 j hj)
  rw [List.take_length] at this
  rw [h1];exact this
end
end
section
open Go Go.Conc Go.Conc.Lib Go.ConcR Go.ConcR.Gen Go.aC Go.Proofs
open Go.RowKit hiding Hid
open Go.ConcN (upd upd_ne upd_same)
noncomputable def bF:Code:=f121.body.getD .skip
def tT:Bs:=[107,110,111,119,110]
section
variable {C:cS} {b N N0 h:Nat} {L:Nat->Of.Os} {us:List Od} {A:Ha} {S:Hs} {vw vb vr va vt:M'} {ae Fin:O'->J'->Prop} {Post:M'->J'->Prop} {wl:J'} {aI:Y'} {aS:Act} {av:Array y_} {aN:Nat} {ak:List Nat} {aV:List x_} {cs:List Y'}
theorem D9 (B:eh p_ C b 0 ae Fin h) (hL:Lay C wl) (H:aQ A S vw vb vr va vt wl) {c pt:Int} (lW:S.back.length<=1000000) (hk:(S.of c).isSome=true\/S.back.contains c=true)
 (hc:ay p_ C b 0 ae Fin Post h (aY b N h L) wl (G (aI.at (aS.put ((av[aN]?).bind (·.dst)) (.string ⟨tT.toArray⟩)) (.inRegion av ak::aV)) cs)):
 ay p_ C b 0 ae Fin Post h (aY b N h L) wl (G ((base 121).at ⟨#[.pointer (some ⟨A.hb,0,none⟩),.int .i64 c,.int .i64 pt]++F_ 77 I',[]⟩ [.code bF]) (aI.at aS (.inRegion av (aN::ak)::aV)::cs)):=by
 have hS:=aH b N h L
 have ea:(#[.pointer (some ⟨A.hb,0,none⟩),.int .i64 c,.int .i64 pt]++F_ 77 I':Array M')=#[.pointer (some ⟨A.hb,0,none⟩),.int .i64 c,.int .i64 pt,I',I',I',I',I',I',I',I',I',I',I',I',I',I',I',I',I',I',I',I',I',I',I',I',I',I',I',I',I',I',I',I',I',I',I',I',I',I',I',I',I',I',I',I',I',I',I',I',I',I',I',I',I',I',I',I',I',I',I',I',I',I',I',I',I',I',I',I',I',I',I',I',I',I',I',I',I']:=by kernel_rfl
 rw [ea]
 have e1:bF=.seq (ai 0 bF) (.seq (ai 1 bF) (az 2 bF)):=by kernel_rfl
 rw [e1]
 refine B.s ?_
 refine B.p (aF (by kernel_rfl) rfl rfl ⟨_,func121⟩) (fun T d Bh hB=> ?_)
 simp only [ai,bF,f121,A_]
 go_wp2_with fail
 subst hB
 intro hcut
 clear hcut
 refine ay.re (wl:=wl) ?_ T d
 refine B.s ?_
 refine B.p (aF (by kernel_rfl) rfl rfl ⟨_,func121⟩) (fun T d Bh hB=> ?_)
 have ir:=aa hc
 have c5:(wl.re T d).cell? ⟨A.hb,5,none⟩=some (.map (some A.m2)):=H.c.2.2.1
 have c8:(wl.re T d).cell? ⟨A.hb,8,none⟩=some vb:=H.c.2.2.2.2.2.1
 have kE:=H.of.heap (w':=wl.re T d) rfl
 have sY:=aa (nW (w:=wl.re T d) (H.heap (w':=wl.re T d) rfl).back lW c)
 have hno:=aa hL.no
 obtain ⟨ab,cb,K8⟩:=aE H.back
 rw [K8] at c8 sY
 clear hc hL H
 simp only [ai,bF,f121,A_]
 cases hx:S.of c with
 |some x=>
  have nT:(binOp .neq 78 (.chan (some x)) (.chan none)).run p_ (wl.re T d)=.ok (.bool true) (wl.re T d):=rY Tryz.underlying78 (some x)
  go_wp2_with (at_lookup;refine cU _ rfl _ _ 72 false rfl pe Tryz.underlying72 A.m2 rfl kE c rfl qQ ?_;simp only [hx,Option.map_some,A_,Bool.false_eq_true,if_false])
  subst hB
  intro hcut todo
  have jv:Lay C (wl.re T d):=⟨hcut,hno.out⟩
  refine ay.ctl B hS jv rfl (fun _=>aZ rfl rfl func121 rfl) ?_
  exact ir.out.re T d
 |none=>
  have nT:(binOp .neq 78 (.chan none) (.chan none)).run p_ (wl.re T d)=.ok (.bool false) (wl.re T d):=rY Tryz.underlying78 none
  have yL:S.back.contains c=true:=by rcases hk with h|h;rw [hx] at h;cases h;exact h
  rw [yL] at sY
  go_wp2_with (at_lookup;refine cU _ rfl _ _ 72 false rfl pe Tryz.underlying72 A.m2 rfl kE c rfl qQ ?_;simp only [hx,Option.map_none,Option.getD_none,Bool.false_eq_true,if_false])
  refine sY.out.mono ?_
  rintro e w2 ⟨rfl,rfl⟩
  go_wp2_with fail
  subst hB
  intro hcut todo
  have jv:Lay C (wl.re T d):=⟨hcut,hno.out⟩
  refine ay.ctl B hS jv rfl (fun _=>aZ rfl rfl func121 rfl) ?_
  exact ir.out.re T d
end
end
end Go.aC.Of
namespace Go.aC
open Go Go.Conc Go.Conc.Lib Go.ConcR Go.ConcR.Gen Go.RowKit
section
variable {P:Program} {C:cS} {b o h:Nat} {ae Fin:O'->J'->Prop} {Post:M'->J'->Prop} {Rs:(Nat->Prop)->(Nat->aX)->Nat->Prop} {wl:J'}
variable {i:Nat}
theorem ay.look (B:eh P C b o ae Fin h) (hS:gh h Rs) (hL:Lay C wl) {aI:Y'} {a:Act} {K:List x_} {cs:List Y'} {ops:Array y_} {rest:List Nat} {x:y_} (ho:ops[i]?=some x) (hw:Region.wanted x (yielded ops a.tmps)=true) (hk:aI.kind≠.early) {v:M'}
 (hx:∀w,bI wl w->(execOp a.eval x).run P w=.ok (.value v) w/\∀fn,seen P fn ((execOp a.eval x).events P w #[])=#[])
 (hc:ay P C b o ae Fin Post h Rs wl (G (aI.at (a.put x.dst v) (.inRegion ops rest::K)) cs)):
 ay P C b o ae Fin Post h Rs wl (G (aI.at a (.inRegion ops (i::rest)::K)) cs):=by
 refine .walk B hS hL fun w n U EE fI=>Walk.gU rfl fun w₁ h₁=> ?_
 have cv:=EE.outside hL.cut h₁
 obtain ⟨h5,h6⟩:=hx w₁ cv
 refine ⟨_,w₁,_,stepG_value ho hw hk h5, ?_,.stop fun DU xo=>⟨wl,cv.outside hL.cut xo,fI,hc⟩⟩
 unfold listed
 rw [h6]
 exact ⟨tN w₁,id⟩
end
variable {w:J'}
theorem bI.plain {wl:J'} (h:bI wl w) {b:Nat} {c:Array M'} {e:Q'} (hb:wl.heap[b]?=some (.cells c e (0,0))):∃k,c.size<=k/\w.shape? b=some (e,k)/\∀j,w.frozen? ⟨b,j,none⟩=false:=by
 obtain ⟨o',h1,h2⟩:=h.get hb
 cases h2 with
 |blind hb=>have:=hb.cells.1;simp [aR] at this
 |same=>exact ⟨c.size,C_ _,by simp [World.shape?,h1],fun j=>by simp [World.frozen?,h1]⟩
 |cut g1 g2 g3=>
  rename_i c' f'
  refine ⟨c'.size,g1,by simp [World.shape?,h1],fun j=> ?_⟩
  rw [p8 h1]
  cases kj:gd f' j with
  |false=>rfl
  |true=>have:=g3 j kj;simp [gd] at this
end Go.aC
namespace Go.aC.Of
open Go Go.Conc Go.aC Go.Proofs
open Go.RowKit hiding Hid
variable {w:J'} {B g i:Nat} {xs vs:List M'}
theorem Ai {e s n cap:Nat} (h:w.ownsRow B e s (.slice (some ⟨g,0,none⟩) n cap) n xs) (hn:n+1<=cap) (hi:i<=n) (hv:vs.length=s):
 ((w.setCells g (i * s+s) (xs.drop (i * s))).setCells g (i * s) vs).ownsRow B e s (.slice (some ⟨g,0,none⟩) (n+1) cap) (n+1) (xs.take (i * s)++vs++xs.drop (i * s))/\w.grownBy ((w.setCells g (i * s+s) (xs.drop (i * s))).setCells g (i * s) vs) (some g):=by
 have Wj:=h.1
 have his:i * s<=n * s:=Nat.mul_le_mul_right _ hi
 have lu:n * s+s=(n+1) * s:=by rw [Nat.add_mul,Nat.one_mul]
 refine ⟨?_, ?_⟩
 ·refine ⟨by simp only [K_,Q_,List.length_drop];omega, ?_⟩
  rcases h.2 with ⟨h',_⟩|⟨g',cap',cur,h',hb,hg,hc,hm,hs,ht⟩
  ·simp at h'
  ·simp only [Value.slice.injEq,Option.some.injEq,Addr.mk.injEq,and_true,true_and] at h'
   obtain ⟨rfl,rfl⟩:=h'
   have hcs:(n+1) * s<=cap * s:=Nat.mul_le_mul_right _ hn
   obtain ⟨RR,h1,h2,h3⟩:=fv g (xs.drop (i * s)) (i * s+s) w cur hg (by simp only [List.length_drop];omega)
   obtain ⟨RQ,h4,h5,h6⟩:=fv g vs (i * s) _ RR h1 (by omega)
   refine .inr ⟨g,cap,RQ,rfl,hb,h4,hn,hm,by omega, ?_⟩
   have rq:cur.toList.length=cap * s:=by simpa using hs
   have hx:cur.toList.take (i * s)=xs.take (i * s):=by
    rw [<-ht,List.take_take,Nat.min_eq_left his]
   rw [h6,h3]
   have e1:(List.take (i * s+s) cur.toList++List.drop (i * s) xs++List.drop (i * s+s+(List.drop (i * s) xs).length) cur.toList).take (i * s)=xs.take (i * s):=by
    rw [List.append_assoc,List.take_append_of_le_length (by simp only [Q_];omega),List.take_take,Nat.min_eq_left (by omega),hx]
   have e2:(List.take (i * s+s) cur.toList++List.drop (i * s) xs++List.drop (i * s+s+(List.drop (i * s) xs).length) cur.toList).drop (i * s+vs.length)=xs.drop (i * s)++List.drop (i * s+s+(List.drop (i * s) xs).length) cur.toList:=by
    rw [hv,List.append_assoc,List.drop_append_of_le_length (by simp only [Q_];omega),List.drop_of_length_le (by simp only [Q_];omega),List.nil_append]
   rw [e1,e2,<-List.append_assoc,List.take_append_of_le_length (by simp only [K_,Q_,List.length_drop];omega),List.take_of_length_le (by simp only [K_,Q_,List.length_drop];omega)]
 ·refine ⟨by rw [(bL ..).1,(bL ..).1],by rw [(bL ..).2.1,(bL ..).2.1],by rw [(bL ..).2.2,(bL ..).2.2],by rw [fq,fq];exact C_ _,fun k _ hk=> ?_⟩
  have fS:k≠g:=fun e=>hk (by rw [e])
  rw [cW g _ _ _ k fS,cW g _ _ _ k fS]
theorem Eh {e s n cap:Nat} {row:Array M'} (hB:B<=w.heap.size) (hx:xs.length=n * s) (hc:n+1<=cap) (hm:cap<=maxLen) (hr:row.size=cap * s) (hi:i<=n) (hv:vs.length=s) (h0:row.toList.take (i * s)=xs.take (i * s)):
 (((w.alloc (.cells row e)).setCells w.heap.size (i * s) vs).setCells w.heap.size (i * s+s) (xs.drop (i * s))).ownsRow B e s (.slice (some ⟨w.heap.size,0,none⟩) (n+1) cap) (n+1) (xs.take (i * s)++vs++xs.drop (i * s))/\
   w.grownBy (((w.alloc (.cells row e)).setCells w.heap.size (i * s) vs).setCells w.heap.size (i * s+s) (xs.drop (i * s))) none:=by
 have his:i * s<=n * s:=Nat.mul_le_mul_right _ hi
 have lu:n * s+s=(n+1) * s:=by rw [Nat.add_mul,Nat.one_mul]
 have hcs:(n+1) * s<=cap * s:=Nat.mul_le_mul_right _ hc
 have lG:(w.alloc (.cells row e)).heap[w.heap.size]?=some (.cells row e (0,0)):=Go.heap_alloc_new w _
 refine ⟨?_, ?_⟩
 ·refine ⟨by simp only [K_,Q_,List.length_drop];omega, ?_⟩
  obtain ⟨RR,h1,h2,h3⟩:=fv w.heap.size vs (i * s) _ row lG (by omega)
  obtain ⟨RQ,h4,h5,h6⟩:=fv w.heap.size (xs.drop (i * s)) (i * s+s) _ RR h1 (by simp only [List.length_drop];omega)
  refine .inr ⟨w.heap.size,cap,RQ,rfl,hB,h4,hc,hm,by omega, ?_⟩
  have wi:row.toList.length=cap * s:=by simpa using hr
  rw [h6,h3,h0]
  have e1:(List.take (i * s) xs++vs++List.drop (i * s+vs.length) row.toList).take (i * s+s)=xs.take (i * s)++vs:=by
   rw [List.take_append_of_le_length (by simp only [K_,Q_];omega),List.take_of_length_le (by simp only [K_,Q_];omega)]
  rw [e1,List.take_append_of_le_length (by simp only [K_,Q_,List.length_drop];omega),List.take_of_length_le (by simp only [K_,Q_,List.length_drop];omega)]
 ·refine ⟨by rw [(bL ..).1,(bL ..).1];rfl,by rw [(bL ..).2.1,(bL ..).2.1];rfl,by rw [(bL ..).2.2,(bL ..).2.2];rfl,by rw [fq,fq,World.size_alloc];omega,fun k hk _=> ?_⟩
  have fS:k≠w.heap.size:=by omega
  rw [cW _ _ _ _ k fS,cW _ _ _ _ k fS]
  exact (World.grownBy_alloc w _ none).block k hk (by simp)
end Go.aC.Of
