/-
  wait.
-/
import Derived.Deep.RegionHeld3
import Derived.Deep.RegionLaw
import Derived.Lib.ItoaLen
import Derived.Test.YtnjkbffmmgckeaaGreatDoorChecked
import Derived.Conc.WgLib
import Derived.Laws.Build
import Derived.Deep.QuietTactic
import Derived.BigQuiet
import Derived.WalkKit
import Derived.RegionTactic
import Derived.BigRegion
import Derived.ChangeAlike
import Derived.Test.YtnjkbffmmgckeaaGreatDoorPaa
import Derived.Test.YtnjkbffmmgckeaaGreatDoorPad
import Derived.Test.YtnjkbffmmgckeaaGreatDoorPae
set_option linter.all false
set_option maxRecDepth 100000
set_option maxHeartbeats 32000000
open Go renaming undef->I',World->J',Value->M',Goroutine->O',TypeId->Q',Program->U',Frame->Y',heap_alloc_new->Z',heap_setCell_other->a_,FuncId->w_,Item->x_,Oper->y_
open Go.RowKit renaming Hid->f_
open Option renaming getD_some->A_
open Go.World renaming size_alloc->B_,cell?_of_block->J_,grownBy_alloc->N_,frozen?_of_block->m_
open Nat renaming le_refl->C_,le_trans->D_,lt_of_lt_of_le->E_,zero_le->nz
open Array renaming replicate->F_,getElem?_eq_getElem->H_,size_setIfInBounds->X_
open List renaming getElem?_eq_getElem->G_,length_append->K_,take_succ_eq_append_getElem->sC
open Go.Lib renaming itoa->L_
open Go.ConcN renaming upd_same->O_,upd_ne->P_
open Classical renaming byContradiction->j_
open Go.Proofs.Tryz renaming prog->p_
open Go.Value renaming int->ah,slice->mN
open Go.Frame renaming enter->fZ
open Go.Obj renaming cells->jY
open Go.Item renaming code->lN
open Bool renaming false_eq_true->qp
open Go.Proofs.Tryz
namespace Go.aC.Of
section
open Go Go.Conc Go.Conc.Lib Go.ConcR Go.ConcR.Gen Go.aC Go.Proofs
open Go.RowKit hiding Hid
open Go.ConcN (upd upd_ne upd_same)
structure rC (S:Hs):Prop where
 nd:(S.wait.map (·.1)).Nodup
 has:∀j (hj:j<S.wait.length),∃x i,S.of (S.wait[j]).1=some x/\S.rc (S.wait[j]).1=some i/\i<S.recs.length
 call:∀j (hj:j<S.wait.length),0<=(S.wait[j]).1/\(S.wait[j]).1<=1000000
 jy:∀i (hi:i<S.recs.length),0<=(S.recs[i]).jy/\(S.recs[i]).jy<=1000000
 recs:S.recs.length<=100000
 wl:S.wait.length<=1000
 bl:S.back.length<=1000
def waitAll (P:Int) (S:Hs) (t:Bs):Wq:=S.wait.foldl (bP P) ⟨S,[],t⟩
def rI:Bs:=[97,116,32]
def waited (P:Int) (S:Hs) (n:Int):Hs × Bs:=
 let S1:Hs:={S with clock:=S.clock+n}
 let q:=waitAll P S1 (rI++L_ (S.clock+n))
 ({q.S with wait:=q.keep},q.text)
def GB (A:Ha) (S:Hs) (t0:Bs) (vw va vt:M') (N0:Nat) (W0:J') (k:Nat) (tv kv:M') (wr:J'):Prop:=
 ∃vb vr,aQ A (((S.wait.take k).foldl (bP A.P) ⟨S,[],t0⟩).S) vw vb vr va vt wr/\Fr A W0 wr/\N0<=wr.heap.size/\tv=.string ⟨(((S.wait.take k).foldl (bP A.P) ⟨S,[],t0⟩).text).toArray⟩/\
  wr.ownsRow N0 84 2 kv (((S.wait.take k).foldl (bP A.P) ⟨S,[],t0⟩).keep).length (ax (((S.wait.take k).foldl (bP A.P) ⟨S,[],t0⟩).keep))/\(((S.wait.take k).foldl (bP A.P) ⟨S,[],t0⟩).text).length<=40+40 * k
theorem wC {S:Hs} (P:Int) (t0:Bs) (hd:(S.wait.map (·.1)).Nodup):∀k,k<=S.wait.length->uT S k ((S.wait.take k).foldl (bP P) ⟨S,[],t0⟩)
 |0,_=>by rw [List.take_zero];exact uT.zero S t0
 |k+1,hk=>by
  rw [sC (by omega),List.foldl_append]
  exact (wC P t0 hd k (by omega)).step P (by omega) hd
variable {S:Hs}
theorem yX {P:Int} {t0:Bs} {k:Nat} (hk:k<S.wait.length):(S.wait.take (k+1)).foldl (bP P) ⟨S,[],t0⟩=bP P ((S.wait.take k).foldl (bP P) ⟨S,[],t0⟩) S.wait[k]:=by
 rw [sC hk,List.foldl_append];rfl
theorem vQ (a b:Bs):((⟨a.toArray⟩:ByteArray)++(⟨b.toArray⟩:ByteArray))=⟨(a++b).toArray⟩:=by
 apply ByteArray.ext
 simp [ByteArray.data_append]
def tw (p:Int × Int):List M':=[.int .i64 p.1,.int .i64 p.2]
theorem me (a b:List (Int × Int)):ax (a++b)=ax a++ax b:=by simp [ax]
variable {A:Ha} {vb vr va vt:M'} {w:J'}
theorem aQ.wE {vw:M'} (h:aQ A S vw vb vr va vt w) {g cap:Nat} (hv:vw=.slice (some ⟨g,0,none⟩) S.wait.length cap) {k:Nat} (hk:k<S.wait.length):w.cell? ⟨g,k * 2,none⟩=some (.int .i64 (S.wait[k]).1)/\w.cell? ⟨g,k * 2+1,none⟩=some (.int .i64 (S.wait[k]).2):=by
 have ho:=h.wait
 rw [hv] at ho
 exact ⟨(ho.cellAt _ (by omega)).trans (jr tw 2 (fun _=>rfl) _ k 0 hk (by decide)),(ho.cellAt _ (by omega)).trans (jr tw 2 (fun _=>rfl) _ k 1 hk (by decide))⟩
variable {B:Nat} {xs:List M'}
theorem Jx {B' e s n:Nat} {v:M'} (h:w.ownsRow B e s v n xs) (hB:B'<=B):w.ownsRow B' e s v n xs:=⟨h.1,h.2.imp id fun ⟨g,cap,cur,h1,h2,h3⟩=>⟨g,cap,cur,h1,D_ hB h2,h3⟩⟩
variable {w':J'}
theorem Jy {e s n:Nat} {v:M'} {row:Option Nat} (h:w.ownsRow B e s v n xs) (hB:A.B<=B) (ho:A.Ok) (ha:nc A row w w') (hne:v.ownBlock=none\/v.ownBlock≠row):w'.ownsRow B e s v n xs:=by
 refine ⟨h.1, ?_⟩
 rcases h.2 with h0|⟨g,cap,cur,h1,h2,h3,h4⟩
 ·exact .inl h0
 ·refine .inr ⟨g,cap,cur,h1,h2, ?_,h4⟩
  have hv:v.ownBlock=some g:=by rw [h1];rfl
  have:=ho.hb;have:=ho.m1;have:=ho.m2;have:=ho.m3
  rw [ha.block g (cI h3) (by omega) (by omega) (by omega) (by omega) (fun e=>by rcases hne with e1|e1<;>rw [hv] at e1;cases e1;exact e1 e)];exact h3
theorem CF:(Tryz.prog.info? 3).map (fun i=>(i.zero,i.size,i.bytes))=some (some (.int .i64 0),1,8):=by kernel_rfl
variable {vw:M'}
theorem IP (h:aQ A S vw vb vr va vt w) (cK:rC S) {n:Int} (n0:0<=n) (n1:n<=1000000) (k0:0<=S.clock) (k1:S.clock<=1000000) {W0:J'} (hT:Ik A W0) (hW:Fr A W0 w):
 Calls p_ 125 #[.pointer (some ⟨A.hb,0,none⟩),.int .i64 n] w fun e w'=>e=.returned (.string ⟨((waited A.P S n).2).toArray⟩)/\cQ A va vt (waited A.P S n).1 w'/\Fr A W0 w':=by
 have Ig:=h.c.2.2.2.2.2.2.2.2.1
 have cZ:=h.z 11
 have gv:=aa (h.I8 (S.clock+n))
 have HW:=aa (hW.trans gv.out.2)
 have hTT:=aa hT
 have oJ:IntKind.i64.wrap (S.clock+n)=S.clock+n:=IntWalk.i64_in _ (by omega)
 have xz:waited A.P S n=({(waitAll A.P {S with clock:=S.clock+n} (rI++L_ (S.clock+n))).S with wait:=(waitAll A.P {S with clock:=S.clock+n} (rI++L_ (S.clock+n))).keep},(waitAll A.P {S with clock:=S.clock+n} (rI++L_ (S.clock+n))).text):=rfl
 have Ul:rC {S with clock:=S.clock+n}:=⟨cK.nd,cK.has,cK.call,cK.jy,cK.recs,cK.wl,cK.bl⟩
 have hm:({S with clock:=S.clock+n}:Hs).clock=S.clock+n:=rfl
 rw [xz]
 generalize Vt:({S with clock:=S.clock+n}:Hs)=S1 at *
 generalize rq:S.clock+n=m at *
 have M3:IntKind.i64.wrap (S.clock+n)=m:=by rw [rq];exact oJ
 clear oJ
 have m0:0<=m:=by omega
 have m1:m<=2000000:=by omega
 have Pg:=aa Ul
 clear h hW hT cK xz Ul rq Vt
 replace hm:=aa hm
 obtain ⟨Po,EW⟩:∃Po:Ending->J'->Prop,f_ (Po=fun e w'=>e=Ending.returned (Value.string ⟨(waitAll A.P S1 (rI++L_ m)).text.toArray⟩)/\cQ A va vt {(waitAll A.P S1 (rI++L_ m)).S with wait:=(waitAll A.P S1 (rI++L_ m)).keep} w'/\Fr A W0 w'):=⟨_,rfl⟩
 refine Calls.mono (R:=Po) ?_ (fun e w' h=>by rw [EW.out] at h;exact h)
 go_enter func125,ntmps125
 go_wp2_with fail
 obtain ⟨H1,_⟩:=gv.out
 replace H1:=aa H1
 clear gv Ig cZ M3
 generalize w.setCell {block:=A.hb,off:=11} (ah IntKind.i64 m)=w1 at *
 refine (si (hTT.out.fr HW.out) m (by omega) (by omega)).mono ?_
 rintro e w2 ⟨rfl,Nu⟩
 have H2:=aa (H1.out.more Nu)
 have F2:=aa (HW.out.trans (Fr.kept H1.out.big Nu (fun _ e=>by cases e)))
 clear Nu H1 HW
 have Rr:=Lib.itoa_length_le m (by omega) (by omega)
 have hL:¬(9223372036854775807<3+(L_ m).length):=by omega
 have c7:=H2.out.c.2.2.2.2.1
 obtain ⟨a,cap,ev⟩:=aE H2.out.wait
 rw [ev] at c7
 replace ev:=aa ev
 go_wp2_with fail
 have Rq:f_ (GB A S1 (rI++L_ m) vw va vt w2.heap.size W0 0 (.string ({data:=#[97,116,32]}++{data:=(L_ m).toArray})) (.slice none 0 0) w2):=
  ⟨vb,vr,by rw [List.take_zero];exact H2.out,F2.out,C_ _,by rw [List.take_zero];exact congrArg Value.string (vQ rI (L_ m)),by rw [List.take_zero];exact World.ownsRow_nil _ _ _ _,by rw [List.take_zero];show (rI++L_ m).length<=40;rw [K_];show 3+_<=40;omega⟩
 have jx:=aa H2.out.big
 have qG:f_ (∀g,vw.ownBlock=some g->g<w2.heap.size):=fun g e=>(H2.out.wait.lt g e).2
 clear H2 F2 c7
 go_loopw [28,5,6] (fun i tv kv wr=>∃k:Nat,k<=S1.wait.length/\i=.int .i64 k/\f_ (GB A S1 (rI++L_ m) vw va vt w2.heap.size W0 k tv kv wr)) (fun i _ _ _=>S1.wait.length - (intOf i).toNat)
 case atStart=>exact ⟨0,nz _,rfl,Rq⟩
 case round=>
  obtain ⟨k,hk,rfl,hR⟩:=hrel
  by_cases hlt:k<S1.wait.length
  ·have gJ:(k:Int)<(S1.wait.length:Int):=by omega
   obtain ⟨N4,LU,HR,FR,hsz,rfl,iw,J7⟩:=hR.out
   obtain ⟨q,hq⟩:∃q,f_ (q=(S1.wait.take k).foldl (bP A.P) ⟨S1,[],rI++L_ m⟩):=⟨_,rfl⟩
   have I:=wC A.P (rI++L_ m) Pg.out.nd k hk
   rw [<-hq.out] at HR iw I J7 ⊢
   obtain ⟨x,i,hx,hi,Zp⟩:=Pg.out.has k hlt
   have yE:q.S.of (S1.wait[k]).1=some x:=(I.of k hlt (C_ _)).trans hx
   have lE:q.S.rc (S1.wait[k]).1=some i:=by rw [I.rc];exact hi
   have Np:i<q.S.recs.length:=by rw [I.len];exact Zp
   have yL:k<q.S.wait.length:=by rw [I.wait];exact hlt
   obtain ⟨gw,aCy,_,SP,_⟩:=cz HR.wait (by omega)
   have hpw:q.S.wait[k]=S1.wait[k]:=by simp only [I.wait]
   obtain ⟨y1,y2⟩:=HR.wE SP yL
   rw [hpw] at y1 y2
   have jX:=Pg.out.call k hlt
   have AQ:=Pg.out.wl
   have kj:=aa (Pg.out.jy i Zp)
   generalize hp:S1.wait[k]=p at *
   obtain ⟨ea,ec⟩:a=some ⟨gw,0,none⟩/\cap=aCy:=by rw [ev.out] at SP;simp at SP;exact ⟨SP.1,SP.2.2⟩
   subst ea ec
   have Ug:q.S.clock=m:=I.clock.trans hm.out
   obtain ⟨gr,VN,_,evr,_⟩:=cz HR.recs (by omega)
   have Q6:0<=(q.S.recs[i]).jy/\(q.S.recs[i]).jy<=1000000:=by rw [I.jy i Zp Np];exact kj.out
   have wi:q.S.recs.length<=100000:=by rw [I.len];exact Pg.out.recs
   have NW:=HR.alloc (.cells #[.int .i64 p.1,.int .i64 p.2] 84)
   obtain ⟨W,hW⟩:∃W,f_ (W=wr.alloc (.cells #[.int .i64 p.1,.int .i64 p.2] 84)):=⟨_,rfl⟩
   have z1:W.drew.cell? ⟨A.hb,11,none⟩=some (.int .i64 m):=by rw [<-Ug];rw [<-hW.out] at NW;exact NW.c.2.2.2.2.2.2.2.2.1
   have z2:W.drew.cell? ⟨A.hb,2,none⟩=some (.int .i64 A.P):=by rw [<-hW.out] at NW;show W.cell? _=_;rw [aB NW.box];rfl
   have z3:W.drew.cell? ⟨wr.heap.size,0,none⟩=some (.int .i64 p.1):=by rw [hW.out];exact bJ rfl
   rw [<-hW.out] at NW
   obtain ⟨z4,_⟩:=NW.pQ evr Np (k:=3) (by decide)
   have z4:W.drew.cell? ⟨gr,i * 7+3,none⟩=some (.int .i64 (q.S.recs[i]).jy):=z4
   have yG:IntKind.i64.wrap (m - (q.S.recs[i]).jy)=m - (q.S.recs[i]).jy:=IntWalk.i64_in _ (by omega)
   have xG:=aa (jL (NW.heap (w':=W.drew) rfl) lE Np evr wi)
   have HWh:=aa NW
   have HRh:=aa HR
   have FRh:=aa FR
   have Ih:=aa I
   have OJ:=aa iw
   have hxh:=aa (And.intro yE (And.intro lE Np))
   have hkh:=aa yL
   generalize WC:(q.S.recs[i]).jy=fr at *
   replace WC:=aa WC
   clear NW HR FR I iw yE lE hpw hx hi SP wi evr yL
   go_wp2_with fail
   rw [<-hW.out]
   have Z0:W.drew.cell? ⟨A.hb,11,none⟩=some (.int .i64 m)/\W.drew.cell? ⟨A.hb,2,none⟩=some (.int .i64 A.P)/\W.drew.cell? ⟨wr.heap.size,0,none⟩=some (.int .i64 p.1)/\W.drew.cell? ⟨gr,i * 7+3,none⟩=some (.int .i64 fr):=⟨z1,z2,z3,z4⟩
   go_region_held3 (fun w₁=>w₁.cell? ⟨A.hb,11,none⟩=some (.int .i64 m)/\w₁.cell? ⟨A.hb,2,none⟩=some (.int .i64 A.P)/\w₁.cell? ⟨wr.heap.size,0,none⟩=some (.int .i64 p.1)/\w₁.cell? ⟨gr,i * 7+3,none⟩=some (.int .i64 fr))
    (first|with_reducible exact Z0|with_reducible exact Z5|go_keep)
    ((go_at_call 134;(with_reducible refine xG.out.mono ?_);rintro e w5 ⟨rfl,hh,F5⟩;have Z5:w5.cell? ⟨A.hb,11,none⟩=some (.int .i64 m)/\w5.cell? ⟨A.hb,2,none⟩=some (.int .i64 A.P)/\w5.cell? ⟨wr.heap.size,0,none⟩=some (.int .i64 p.1)/\w5.cell? ⟨gr,i * 7+3,none⟩=some (.int .i64 fr):=⟨(J_ (by rw [hh])).trans z1,(J_ (by rw [hh])).trans z2,(J_ (by rw [hh])).trans z3,(J_ (by rw [hh])).trans z4⟩))
   rename_i SB
   clear SB
   have y6:w5.cell? ⟨wr.heap.size,0,none⟩=some (.int .i64 p.1):=Z5.2.2.1
   have y7:w5.cell? ⟨wr.heap.size,1,none⟩=some (.int .i64 p.2):=(show w5.cell? ⟨wr.heap.size,1,none⟩=W.cell? ⟨wr.heap.size,1,none⟩ from J_ (by rw [hh];rfl)).trans (by rw [hW.out];exact bJ (w:=wr) rfl)
   have H5:=aa (HWh.out.heap (w':=w5) hh)
   have F6:f_ (Fr A W0 w5):=FRh.out.trans ((by rw [hW.out];exact Fr.alloc HRh.out.big _:Fr A wr W).trans (Fr.drew.trans F5))
   have Vi:f_ (w5.heap[wr.heap.size]?=some (.cells #[.int .i64 p.1,.int .i64 p.2] 84 (0,0))):=by show w5.heap[wr.heap.size]?=_;rw [hh];show W.heap[wr.heap.size]?=_;rw [hW.out];exact Z' wr _
   have s5:wr.heap.size+1=w5.heap.size:=by rw [hh];show _=W.heap.size;rw [hW.out,B_]
   have CN:f_ (w5.ownsRow w2.heap.size 84 2 u6 q.keep.length (ax q.keep)):=by
    have h1:=OJ.out.alloc (.cells #[.int .i64 p.1,.int .i64 p.2] 84)
    rw [<-hW.out] at h1
    exact cH h1 (fun g _ _=>by rw [hh];rfl)
   have BH:f_ (∀w6:J',w6.ownsRow A.B 84 2 vw q.S.wait.length (ax q.S.wait)->vw.ownBlock=none\/vw.ownBlock≠u6.ownBlock):=fun w6 _=>by
    refine .inr fun e=> ?_
    have hv:vw.ownBlock=some gw:=by rw [ev.out];rfl
    have h1:=qG.out gw hv
    have h2:=(OJ.out.lt gw (e.symm.trans hv)).1
    omega
   clear Z5 F5 hh Z0 z1 z2 z3 z4 xG
   obtain ⟨i0,qJ,tX,rm,uF⟩:=info_parts xn
   have yK:=aa Ih.out.keep
   have SK:=aa H5.out.big
   by_cases hP:m - fr<A.P
   ·have hstep:f_ (bP A.P q p={q with keep:=q.keep++[p]}):=by
     obtain ⟨e1,e2,e3⟩:=hxh.out
     show bP A.P q p=_
     unfold bP
     simp only [e1,e2,G_ e3,WC.out,Ug,hP,if_true]
    go_wp2_with (at_builtin;refine wpList_append_lies _ rfl (.tmp 50) (.tmp 52) 74 rfl w2.heap.size 84 i0 _ 2 16 Tryz.underlying74 qJ tX rm uF rfl (by decide) _ _ _ rfl (CN.out.alloc _) ⟨w5.heap.size,0,none⟩ 1 1 [.int .i64 p.1,.int .i64 p.2] rfl rfl (fY w5 _ _ rfl) ?c1 (by omega) ?c3 ?c4 ?c5 _ rfl ?_)
    case c1=>intro u hu;simp at hu;rcases hu with rfl|rfl<;>rfl
    case c3=>have:=yK.out;unfold maxLen;omega
    case c4=>have:=yK.out;omega
    case c5=>rw [B_];omega
    intro gg mW w6 jl kh iP mR
    have bR:∀g,u6.ownBlock=some g->A.B<=g:=fun g e=>by have:=(CN.out.lt g e).1;have:=jx.out;omega
    have EU:f_ (GB A S1 (rI++L_ m) vw va vt w2.heap.size W0 (k+1) (.string ⟨q.text.toArray⟩) (.slice (some ⟨gg,0,none⟩) (q.keep.length+1) mW) w6):=by
     have hst:(S1.wait.take (k+1)).foldl (bP A.P) ⟨S1,[],rI++L_ m⟩={q with keep:=q.keep++[p]}:=by rw [yX hlt,<-hq.out,hp];exact hstep.out
     have RG:=H5.out.alloc (.cells #[.int .i64 p.1,.int .i64 p.2] 84)
     have QJ:=CN.out.alloc (.cells #[.int .i64 p.1,.int .i64 p.2] 84)
     refine ⟨N4,LU, ?_, ?_, ?_, ?_, ?_, ?_⟩
     ·rw [hst]
      exact RG.kept kh bR (BH.out _ RG.wait) (gF RG.back QJ (by decide)) (gF RG.recs QJ (by decide)) (gF RG.log QJ (by decide)) (gF RG.cg QJ (by decide))
     ·exact F6.out.trans ((Fr.alloc SK.out _).trans (Fr.kept RG.big kh bR))
     ·have:=kh.size;rw [B_] at this;omega
     ·rw [hst]
     ·rw [hst,K_,me];exact jl
     ·rw [hst];show q.text.length<=_;omega
    clear jl kh iP mR bR
    go_wp2_with fail
    go_roundw
    case rel=>exact ⟨k+1,by omega,by go_num,EU⟩
    case measure=>simp [intOf];omega
   ·obtain ⟨e1,e2,e3⟩:=hxh.out
    have hstep:f_ (bP A.P q p=⟨{uk q.S p.1 x i q.S.recs[i] eT with back:=q.S.back++[p.1]},q.keep,q.text++(32::L_ p.1)⟩):=by
     show bP A.P q p=_
     unfold bP
     simp only [e1,e2,G_ e3,WC.out,Ug,hP,if_false]
    have YW:f_ (q.S.recs.length<=100000):=by rw [Ih.out.len];exact Pg.out.recs
    have Vg:=aa (um H5.out e1 e2 e3 YW.out (q:=eT) (W0:=W0) F6.out)
    have QG:f_ (∀g,LU.ownBlock=some g->g<wr.heap.size):=fun g e=>(HRh.out.recs.lt g e).2
    generalize wj:q.S.recs[i]=ri at hstep Vg
    clear e1 e2 wj e3
    go_wp2_with fail
    refine Vg.out.mono ?_
    rintro e w7 ⟨rfl,H7,F7,A7⟩
    have Ba:=jx.out
    have o1:=H7.ok.hb
    have o2:=H7.ok.m1
    have o3:=H7.ok.m2
    have o4:=H7.ok.m3
    have b7:w7.heap[wr.heap.size]?=w5.heap[wr.heap.size]?:=A7.block wr.heap.size (by omega) (by omega) (by omega) (by omega) (by omega) (fun e=>by have:=QG.out _ e.symm;omega)
    have y8:w7.cell? ⟨wr.heap.size,0,none⟩=some (.int .i64 p.1):=(J_ b7).trans y6
    have Ga:f_ (w7.ownsRow w2.heap.size 84 2 u6 q.keep.length (ax q.keep)):=Jy CN.out Ba H7.ok A7 (gF CN.out H5.out.recs (by decide))
    have s7:f_ (wr.heap.size+1<=w7.heap.size):=by have:=A7.size;show _<=_;omega
    obtain ⟨a8,Bp,RO⟩:=aE H7.back
    have c8:=H7.c.2.2.2.2.2.1
    rw [RO] at c8
    have f8:=H7.z 8
    have ot:f_ (∀o,(w7.drew.alloc o).ownsRow A.B 3 1 (.slice a8 q.S.back.length Bp) q.S.back.length (q.S.back.map (ah .i64))):=fun o=>((RO▸(H7.heap (w':=w7.drew) rfl).back:)).alloc o
    have H7h:=aa H7
    have F7h:=aa F7
    have c8:w7.cell? ⟨A.hb,8,none⟩=some (.slice a8 q.S.back.length Bp):=c8
    have S81:w7.drew.cell? ⟨A.hb,8,none⟩=some (.slice a8 q.S.back.length Bp):=c8
    have S82:w7.drew.cell? ⟨wr.heap.size,0,none⟩=some (.int .i64 p.1):=y8
    have S83:∀o,(w7.alloc o).drew.cell? ⟨A.hb,8,none⟩=some (.slice a8 q.S.back.length Bp):=fun o=>(N_ w7 o none).cell (a:=⟨A.hb,8,none⟩) c8 (by simp)
    have S84:∀o,(w7.alloc o).drew.cell? ⟨wr.heap.size,0,none⟩=some (.int .i64 p.1):=fun o=>(N_ w7 o none).cell (a:=⟨wr.heap.size,0,none⟩) y8 (by simp)
    have lW:∀g,(mN a8 q.S.back.length Bp).ownBlock=some g->A.B<=g/\g≠wr.heap.size:=fun g e=>by
     refine ⟨((RO▸H7.back.lt:) g e).1,fun eg=> ?_⟩
     have qo:w7.heap[wr.heap.size]?=some (.cells #[.int .i64 p.1,.int .i64 p.2] 84 (0,0)):=by rw [b7];exact Vi.out
     rcases H7.back.2 with ⟨e0,_⟩|⟨g',cp,cu,e1,_,e3,_⟩
     ·rw [RO] at e0;simp at e0;rw [e0.1] at e;simp [Value.ownBlock] at e
     ·rw [RO] at e1;simp at e1;rw [e1.1] at e;simp [Value.ownBlock] at e;subst e;rw [eg,qo] at e3;simp at e3
    have S85:∀o w8,(w7.drew.alloc o).grownBy w8 (mN a8 q.S.back.length Bp).ownBlock->w8.cell? ⟨A.hb,8,none⟩=some (.slice a8 q.S.back.length Bp):=fun o w8 hg=>hg.cell (S83 o) (fun e=>absurd (lW _ e.symm).1 (Nat.not_le.2 o1))
    have S86:∀o w8,(w7.drew.alloc o).grownBy w8 (mN a8 q.S.back.length Bp).ownBlock->w8.cell? ⟨wr.heap.size,0,none⟩=some (.int .i64 p.1):=fun o w8 hg=>hg.cell (S84 o) (fun e=>(lW _ e.symm).2 rfl)
    have S87:∀o w8,(w7.drew.alloc o).grownBy w8 (mN a8 q.S.back.length Bp).ownBlock->w8.frozen? ⟨A.hb,8,none⟩=false:=fun o w8 hg=>by
     have QS:A.hb<w7.heap.size:=E_ o1 H7.big
     rw [m_ (hg.block A.hb (by rw [B_];show A.hb<w7.heap.size+1;omega) (fun e=>by have:=(lW _ e.symm).1;omega)),m_ ((N_ w7.drew o none).block A.hb QS (by simp))]
     exact f8
    have ub:∀o,A.B<=(w7.drew.alloc o).heap.size:=fun o=>D_ H7.big (N_ w7.drew o none).size
    have sD:f_ (q.S.back.length<=3000):=by have:=Ih.out.back;have:=Pg.out.bl;show q.S.back.length<=3000;omega
    obtain ⟨i3,UN,J2,J1,J0⟩:=info_parts CF
    clear H7 F7
    go_wp2_with fail
    go_region_law ((refine step_append_lies _ (by rfl) _ _ _ (by rfl) A.B 3 i3 _ 1 8 Tryz.underlying26 UN J2 J1 J0 rfl (by decide) _ q.S.back.length _ (by rfl) (ot.out _) ⟨w7.heap.size,0,none⟩ 1 1 [.int .i64 p.1] (by rfl) (by rfl) (fY w7.drew _ _ (by rfl)) (by intro u hu;simp at hu;subst hu;rfl) (by omega) (by have:=sD.out;unfold maxLen;omega) (by have:=sD.out;omega) (ub _) (w7.heap.size+1) (B_ ..) ?_;intro gg zI w8 OK EM Vk QS;have T1:=S85 _ _ EM;have T2:=S86 _ _ EM;have T3:=S87 _ _ EM))
    all_goals
     have Y3:=((H7h.out.heap (w':=w7.drew) rfl).alloc (.cells #[.int .i64 p.1] 3)).Cg (c:=p.1) (RO▸EM) OK (Vk.imp (fun e=>by rw [RO];exact e.symm) (fun e=>by rw [e,B_];rfl))
     have y9:(w8.setCell ⟨A.hb,8,none⟩ (.slice (some ⟨gg,0,none⟩) (q.S.back.length+1) zI)).cell? ⟨wr.heap.size,0,none⟩=some (.int .i64 p.1):=(J_ (a_ w8 _ _ _ (by show wr.heap.size≠A.hb;omega))).trans T2
     have CM:f_ ((w8.setCell ⟨A.hb,8,none⟩ (.slice (some ⟨gg,0,none⟩) (q.S.back.length+1) zI)).ownsRow w2.heap.size 84 2 u6 q.keep.length (ax q.keep)):=by
      have h1:(w7.drew.alloc (.cells #[.int .i64 p.1] 3)).ownsRow w2.heap.size 84 2 u6 q.keep.length (ax q.keep):=World.ownsRow.alloc (w:=w7.drew) Ga.out _
      have h2:=h1.kept EM (gF h1 (ot.out _) (by decide))
      exact cH h2 fun g hg _=>a_ w8 _ _ _ (by show g≠A.hb;omega)
     have s9:f_ (w2.heap.size<=(w8.setCell ⟨A.hb,8,none⟩ (.slice (some ⟨gg,0,none⟩) (q.S.back.length+1) zI)).heap.size):=by
      have h3:w7.heap.size+1<=w8.heap.size:=by have h1:=EM.size;simpa using h1
      have h2:=s7.out
      show _<=(w8.setCell _ _).heap.size
      rw [World.size_setCell]
      omega
     have H9:=aa Y3.1
     have F9:f_ (Fr A W0 (w8.setCell ⟨A.hb,8,none⟩ (.slice (some ⟨gg,0,none⟩) (q.S.back.length+1) zI))):=F7h.out.trans ((Fr.drew (w:=w7)).trans ((Fr.alloc (w:=w7.drew) H7h.out.big _).trans Y3.2))
     clear Y3 T1 T2 T3 OK EM Vk QS S81 S82 S83 S84 S85 S86 S87 ot lW
     generalize w8.setCell ⟨A.hb,8,none⟩ (.slice (some ⟨gg,0,none⟩) (q.S.back.length+1) zI)=w9 at *
     go_wp2_with fail
     refine (si (hTT.out.fr F9.out) p.1 (by omega) (by omega)).mono ?_
     rintro e wA ⟨rfl,UZ⟩
     have hLp:=Lib.itoa_length_le p.1 (by omega) (by omega)
     have nU:¬(9223372036854775807<1+(L_ p.1).length):=by omega
     have du:¬(9223372036854775807<q.text.length+(1+(L_ p.1).length)):=by omega
     have EU:f_ (GB A S1 (rI++L_ m) vw va vt w2.heap.size W0 (k+1) (.string ({data:=q.text.toArray}++({data:=#[32]}++{data:=(L_ p.1).toArray}))) u6 wA):=by
      have hst:(S1.wait.take (k+1)).foldl (bP A.P) ⟨S1,[],rI++L_ m⟩=⟨{uk q.S p.1 x i ri eT with back:=q.S.back++[p.1]},q.keep,q.text++(32::L_ p.1)⟩:=by rw [yX hlt,<-hq.out,hp];exact hstep.out
      refine ⟨.slice (some ⟨gg,0,none⟩) (q.S.back.length+1) zI,LU, ?_, ?_, ?_, ?_, ?_, ?_⟩
      rotate_left 2
      ·exact D_ s9.out UZ.size
      ·rw [hst];exact congrArg Value.string ((congrArg (fun y=>({data:=q.text.toArray}:ByteArray)++y) (vQ [32] (L_ p.1))).trans (vQ q.text (32::L_ p.1)))
      ·rw [hst];exact CM.out.kept UZ (oT _)
      ·rw [hst];show (q.text++(32::L_ p.1)).length<=_;rw [K_,List.length_cons];omega
      ·rw [hst];exact H9.out.more UZ
      ·exact F9.out.trans (Fr.kept H9.out.big UZ (fun _ e=>by cases e))
     clear UZ CM s9 H9 F9
     go_wp2_with fail
     go_roundw
     case rel=>exact ⟨k+1,by omega,by go_num,EU⟩
     case measure=>simp [intOf];omega
  ·obtain rfl:k=S1.wait.length:=by omega
   obtain ⟨N4,LU,HR,FR,hsz,rfl,iw,J7⟩:=hR.out
   obtain ⟨a6,c6,e6⟩:=aE iw
   generalize yK:(((S1.wait.take S1.wait.length).foldl (bP A.P) ⟨S1,[],rI++L_ m⟩).keep).length=kl6 at e6
   subst e6
   have Uo:wr.ownsRow A.B 84 2 (.slice a6 kl6 c6) (((S1.wait.take S1.wait.length).foldl (bP A.P) ⟨S1,[],rI++L_ m⟩).keep).length (ax (((S1.wait.take S1.wait.length).foldl (bP A.P) ⟨S1,[],rI++L_ m⟩).keep)):=Jx iw jx.out
   have lI:=HR.My Uo
   have c7:=HR.c.2.2.2.2.1
   have f7:=HR.z 7
   rw [List.take_length] at lI
   replace lI:=aa (And.intro lI.1 (FR.trans lI.2))
   have TZ:f_ (((S1.wait.take S1.wait.length).foldl (bP A.P) ⟨S1,[],rI++L_ m⟩).text=(waitAll A.P S1 (rI++L_ m)).text):=by rw [List.take_length];rfl
   clear HR FR iw J7 Uo yK
   go_wp2_with fail
   rw [EW.out]
   exact ⟨congrArg (fun t:Bs=>Ending.returned (Value.string ⟨t.toArray⟩)) TZ.out,⟨_,_,_,lI.out.1⟩,lI.out.2⟩
end
end Go.aC.Of
namespace Go.Proofs
section
abbrev Tryz.link:Go.Conc.Lib.WgLink:={add:=67,done:=69,wait:=73,relMerge:=87,disable:=88,enable:=89,inBubble:=90,associate:=91,fatal:=92,uOr:=93,uAdd:=94,raceRead:=95,uLoad:=96,uStore:=97,disassociate:=98,semrelease:=99,acquire:=102,isAssociated:=103,uCas:=104,raceWrite:=105,semacquire:=106,orU64:=117,addU64:=118,loadU64:=119,storeU64:=120,casU64:=126,tWgP:=126,tUP:=128,tAssoc:=130,tWg:=108,tAU:=105,tU64:=103,tUint:=134,tU32:=106,tPU32:=135,tPAU:=155,tPU64:=157,tNoCopy:=100,tANoCopy:=101,tAlign64:=102}
theorem Tryz.oN:Go.Conc.Lib.WgLib p_ Tryz.link:=
 ⟨func67,func69,func73,func87,func88,func89,func90,func91,func92,func93,func94,func95,func96,func97,func98,func99,func102,func103,func104,func105,func106,func117,func118,func119,func120,func126,Tryz.underlying126,Tryz.runUnderlying126,Tryz.sizeOf126,Tryz.isAgg126,Tryz.zeroValue126,Tryz.underlying128,Tryz.runUnderlying128,Tryz.sizeOf128,Tryz.isAgg128,Tryz.zeroValue128,Tryz.underlying130,Tryz.runUnderlying130,Tryz.sizeOf130,Tryz.isAgg130,Tryz.zeroValue130,Tryz.underlying108,Tryz.runUnderlying108,Tryz.sizeOf108,Tryz.isAgg108,Tryz.zeroValue108,Tryz.underlying105,Tryz.runUnderlying105,Tryz.sizeOf105,Tryz.isAgg105,Tryz.zeroValue105,Tryz.underlying103,Tryz.runUnderlying103,Tryz.sizeOf103,Tryz.isAgg103,Tryz.zeroValue103,Tryz.underlying134,Tryz.runUnderlying134,Tryz.sizeOf134,Tryz.isAgg134,Tryz.zeroValue134,Tryz.underlying106,Tryz.runUnderlying106,Tryz.sizeOf106,Tryz.isAgg106,Tryz.zeroValue106,Tryz.underlying135,Tryz.runUnderlying135,Tryz.sizeOf135,Tryz.isAgg135,Tryz.zeroValue135,Tryz.underlying155,Tryz.runUnderlying155,Tryz.sizeOf155,Tryz.isAgg155,Tryz.zeroValue155,Tryz.underlying157,Tryz.runUnderlying157,Tryz.sizeOf157,Tryz.isAgg157,Tryz.zeroValue157,Tryz.underlying0,Tryz.runUnderlying0,Tryz.sizeOf0,Tryz.isAgg0,Tryz.zeroValue0,Tryz.underlying3,Tryz.runUnderlying3,Tryz.sizeOf3,Tryz.isAgg3,Tryz.zeroValue3,Tryz.underlying4,Tryz.runUnderlying4,Tryz.sizeOf4,Tryz.isAgg4,Tryz.zeroValue4,Tryz.underlying9,Tryz.runUnderlying9,Tryz.sizeOf9,Tryz.isAgg9,Tryz.zeroValue9,Tryz.underlying20,Tryz.runUnderlying20,Tryz.sizeOf20,Tryz.isAgg20,Tryz.zeroValue20,Tryz.underlying21,Tryz.runUnderlying21,Tryz.sizeOf21,Tryz.isAgg21,Tryz.zeroValue21,(by kernel_rfl),(by kernel_rfl)⟩
end
end Go.Proofs
namespace Go.aC.Of
section
open Go Go.Conc Go.Conc.Lib Go.ConcR.Gen Go.RowKit Go.aC Go.Proofs
structure KO (b bt x:Nat) (w:J'):Prop where
 tx:w.cell? ⟨bt,0,none⟩=some (.chan (some x))
 live:Live b 0 w
structure KS (C:cS) (i bt:Nat):Prop where
 on:C.on
 ts:C.St i (.cell ⟨bt,0,none⟩)
 tn:¬C.Sh (.cell ⟨bt,0,none⟩)
variable {C:cS} {i b bt x:Nat}
theorem KS.tx (h:KS C i bt):NY C i ⟨.cell ⟨bt,0,none⟩,false,false⟩:=HU h.ts h.tn
variable {w:J'}
theorem KO.rely (hS:KS C i bt) {w₁:J'} (h:KO b bt x w) (r:RB C b 0 i w w₁):KO b bt x w₁:=
 ⟨(r.cells bt 0 (.inr hS.ts)).1.trans h.tx,r.live hS.on h.live⟩
theorem XJ (hS:KS C i bt):Wk (RB C b 0 i) (DR C i) (KO b bt x):=⟨fun _ _ r h=>h.rely hS r,fun _=>⟨Out.refl _ _,fun e he=>by simp at he⟩⟩
noncomputable def bot:Y':={(default:Y') with fn:=Tryz.prog.funcs.size,defers:=[],mode:=.panicking [goexitEntry]}
def call68 (b bt:Nat):Deferred:={target:=.fn (.func 68) #[.pointer (some ⟨b,0,none⟩),.pointer (some ⟨bt,0,none⟩)],args:=#[]}
noncomputable def xW:Code:=f68.body.getD .skip
noncomputable def nZ:Code:=f70.body.getD .skip
theorem Ii (b bt:Nat) (w:J'):stepG p_ false (born p_ (call68 b bt)) w=
 .go (G ((baseD 68).at ⟨#[.pointer (some ⟨b,0,none⟩),.pointer (some ⟨bt,0,none⟩)]++F_ 2 I',[]⟩ [.code xW]) [bot]) w #[]:=by
 simp [born,call68,stepG,unwind,callDeferred,invoke,callFunc,func68,f68,seen,GStep.after,G,fZ,Frame.at,baseD,bot,xW]
noncomputable def FH:Array y_:=match xW with| .seq _ (.region _ ops _)=>ops|_=>#[]
noncomputable def Ei:Array y_:=match nZ with| .seq _ (.seq _ (.block _ (.loop (.seq (.region _ ops _) _))))=>ops|_=>#[]
noncomputable def zW:List x_:=match nZ with| .seq _ (.seq _ (.block n (.loop (.seq a b))))=>[.code b,.inLoop (.seq a b),.inBlock n]|_=>[]
noncomputable def Jz:Array y_:=match nZ with| .seq _ (.seq _ (.block _ (.loop (.seq _ (.seq _ (.block _ (.seq _ (.seq _ (.region _ ops _)))))))))=>ops|_=>#[]
noncomputable def vU:List x_:=match nZ with| .seq _ (.seq _ (.block n (.loop (.seq a (.seq c (.block m d))))))=>[.inBlock m,.inLoop (.seq a (.seq c (.block m d))),.inBlock n]|_=>[]
def mZ (b bt x:Nat) (k:Int) (g:O') (w:J'):Prop:=
 KO b bt x w/\∃F v1 v3 v5 v6 v7 v8 v9 v10 v11 v12 v13 v14 v15,g=G ((base 70).at ⟨#[.chan (some x),v1,.int .i64 k,v3,.chan (some x),v5,v6,v7,v8,v9,v10,v11,v12,v13,v14,v15],[]⟩ (.inRegion Ei [0,1]::zW)) [(baseD 68).at ⟨F,[dcall 69 #[.pointer (some ⟨b,0,none⟩)]]⟩ [.inRegion FH [1]],bot]
def Told (b x:Nat) (k:Int) (g:O'):Prop:=
 ∃F v1 v3 v5 v6 v7 v8 v9 v10 v11 v12 v13 v14 v15,g=G ((base 70).at ⟨#[.chan (some x),v1,.int .i64 k,v3,.chan (some x),v5,v6,v7,v8,v9,v10,v11,v12,v13,v14,v15],[]⟩ (.inRegion Jz [3]::vU)) [(baseD 68).at ⟨F,[dcall 69 #[.pointer (some ⟨b,0,none⟩)]]⟩ [.inRegion FH [1]],bot]
variable {k:Int}
theorem xB (hS:KS C i bt) (w w₁:J') (g:O') (r:RB C b 0 i w w₁) (h:mZ b bt x k g w):mZ b bt x k g w₁:=⟨h.1.rely hS r,h.2⟩
def Ph (b bt x:Nat) (k:Int) (g:O') (w:J'):Prop:=∃bp,gP p_ false (.recv x (.agg #[.int .i64 0,.int .i64 0,.chan none]) true) g bp/\mZ b bt x k bp w
theorem G5 (hS:KS C i bt):∃n,∀w,KO b bt x w->Goes p_ false (RB C b 0 i) (DR C i) (Ph b bt x 0) n (born p_ (call68 b bt)) w:=by
 have W:=XJ (b:=b) (x:=x) hS
 refine W.ctl rfl (Ii b bt) ?_
 simp only [xW,f68,A_]
 walk_nrm
 refine W.ctl rfl (fun _=>stepG_seq) ?_
 refine W.ctl rfl (fun _=>zb) ?_
 refine W.ctl rfl (fun _=>stepG_defer rfl rfl (by k_ne) rfl) ?_;walk_nrm
 refine W.ctl rfl (fun _=>stepG_region_end) ?_
 refine W.ctl rfl (fun _=>zb) ?_
 refine W.X1 (NY C i) (.chan (some x)) rfl rfl (by k_ne) (fun w hw=>⟨?_, ?_⟩) VL ?_
 ·have h2:=hw.tx
  go_simp
 ·have h2:=hw.tx
  intro e he
  simp [go_sem, *] at he
  subst he
  exact hS.tx
 walk_nrm
 refine W.ctl rfl (fun _=>i6 rfl rfl (by k_ne) rfl func70 (by kernel_rfl) rfl) ?_
 walk_nrmf f70
 refine W.ctl rfl (fun _=>stepG_seq) ?_
 refine W.ctl rfl (fun _=>zb) ?_
 refine W.val rfl rfl (by k_ne) (fun _=>by simp [go_sem, *]) (fun K hy=> ?_);go_simp;(try w_num);refine hy _ ?_;clear hy K;walk_nrm
 refine W.ctl rfl (fun _=>stepG_region_end) ?_
 refine W.ctl rfl (fun _=>stepG_seq) ?_
 refine W.ctl rfl (fun _=>zb) ?_
 refine W.val rfl rfl (by k_ne) (fun _=>by simp [go_sem, *]) (fun K hy=> ?_);go_simp;(try w_num);refine hy _ ?_;clear hy K;walk_nrm
 refine W.ctl rfl (fun _=>stepG_region_end) ?_
 refine W.ctl rfl (fun _=>stepG_block) ?_
 refine W.ctl rfl (fun _=>stepG_loop) ?_
 refine W.ctl rfl (fun _=>stepG_seq) ?_
 refine W.ctl rfl (fun _=>zb) ?_
 refine W.stop fun w hw=>⟨_,rS rfl rfl (by k_ne) (fun w=> ?_) (fun w=> ?_),hw, ?_⟩
 ·go_simp
  exact ⟨rfl,rfl⟩
 ·simp [go_sem, *]
 ·exact ⟨_,_,_,_,_,_,_,_,_,_,_,_,_,_,rfl⟩
variable {g:O'}
theorem Jb (hS:KS C i bt) (hw:KO b bt x w) (h:Told b x k g):∃n,Goes p_ false (RB C b 0 i) (DR C i) (Ph b bt x k) n (Go.Conc.served g I') w:=by
 have W:=XJ (b:=b) (x:=x) hS
 obtain ⟨F,v1,v3,v5,v6,v7,v8,v9,v10,v11,v12,v13,v14,v15,rfl⟩:=h
 rw [mD]
 refine Wk.here hw ?_
 clear hw w
 simp only [Jz,vU,nZ,f70,A_]
 walk_nrm
 refine W.ctl rfl (fun _=>stepG_region_end) ?_
 refine W.ctl rfl (fun _=>stepG_inBlock) ?_
 refine W.ctl rfl (fun _=>stepG_inLoop) ?_
 refine W.ctl rfl (fun _=>stepG_seq) ?_
 refine W.ctl rfl (fun _=>zb) ?_
 refine W.stop fun w hw=>⟨_,rS rfl rfl (by k_ne) (fun w=> ?_) (fun w=> ?_),hw, ?_⟩
 ·go_simp
  exact ⟨rfl,rfl⟩
 ·simp [go_sem, *]
 ·exact ⟨_,_,_,_,_,_,_,_,_,_,_,_,_,_,rfl⟩
theorem Hd (F:Array M'):QuitsD p_ 2 0 (G {(baseD 68).at ⟨F,[]⟩ [] with mode:=.returning} [bot]):=by
 refine QuitsD.ctl (g':=G bot []) rfl (fun w=> ?_) ?_
 ·simp [G,stepG,unwind,doReturn,results,Frame.at,baseD,bot,func68,f68,seen,GStep.after,goexitEntry]
 refine QuitsD.ctl (g':={G bot [] with status:=.finished}) rfl (fun w=> ?_) ⟨rfl,rfl⟩
 simp [G,stepG,unwind,bot,goexitEntry,Frame.catches]
 rfl
theorem Jc (hS:KS C i bt) (h:mZ b bt x k g w):∃n,Goes p_ false (RB C b 0 i) (DR C i) (AtR0 p_ C b 0 i) n (Go.Conc.served g (recvd true (.agg #[.int .i64 0,.int .i64 0,.chan none]) false)) w:=by
 have W:=XJ (b:=b) (x:=x) hS
 obtain ⟨hw,F,v1,v3,v5,v6,v7,v8,v9,v10,v11,v12,v13,v14,v15,rfl⟩:=h
 rw [mD]
 refine Wk.here hw ?_
 clear hw w
 simp only [recvd,if_true,Ei,zW,nZ,f70,A_]
 walk_nrm
 refine W.val rfl rfl (by k_ne) (fun _=>by simp [go_sem, *]) (fun K hy=> ?_);go_simp;(try w_num);refine hy _ ?_;clear hy K;walk_nrm
 refine W.ctl rfl (fun _=>stepG_region_end) ?_
 refine W.ctl rfl (fun _=>stepG_seq) ?_
 refine W.ctl rfl (fun _=>stepG_cond (t:=false) rfl) ?_;simp only [qp,↓reduceIte]
 refine W.ctl rfl (fun _=>stepG_exit rfl) ?_
 refine W.ctl rfl (fun _=>stepG_end) ?_
 refine W.ctl rfl (fun _=>fC rfl rfl func70 rfl) ?_;simp only [FH,xW,f68,A_]
 refine W.ctl rfl (fun _=>stepG_region_end) ?_
 refine W.ctl rfl (fun _=>stepG_end) ?_
 refine W.ctl rfl (fun _=>stepG_unwind_enter rfl Tryz.oN.f_done (nm_done Tryz.link) rfl) ?_
 have hD:=Di Tryz.oN hS.on (b:=b) (o:=0) (i:=i) (c:={(baseD 68).at ⟨F.setIfInBounds 3 (.tuple #[]),[]⟩ [] with mode:=.returning}) (cs:=[bot]) rfl (Hd _)
 exact hD.imp fun n h w hw=>h w hw.live
end
end Go.aC.Of
namespace Go.aC
section
open Go Go.RowKit Go.Conc
def N8:Obj->Obj
 | .cells c e f=>.cells c e (0,max c.size f.2)
 | .map _ _=>.coro none
 | .pending _ _=>.coro none
 | .view a t=>.view {a with spot:=some 0} t
 | .chan cap buf _ s r tm=>.chan cap buf true s r tm
 |o=>o
def oR (w:J'):J':={w with heap:=w.heap.map N8}
theorem kR (w:J') (b:Nat):(oR w).heap[b]?=(w.heap[b]?).map N8:=by simp [oR]
theorem nD (w:J'):(oR w).heap.size=w.heap.size:=by simp [oR]
theorem GM (w:J'):bI (oR w) w:=by
 refine ⟨nD w,fun b o o' h1 h2=> ?_,rfl,rfl,fun b o h1=> ?_⟩
 ·rw [kR,h2] at h1
  cases h1
  cases o' with
  |cells c e f=>exact .cut (C_ _) (fun _ _=>rfl) (fun k hk=>by simp [gd] at hk ⊢;omega)
  |map es clock=>exact .blind (.map _ _)
  |pending c e=>exact .blind (.late _ _)
  |view a t=>exact .blind (.view _ _ _)
  |chan cap buf cl s r tm=>exact .blind (.chan _ _ _ _ _ _)
  |_=>exact .same _
 ·rw [kR] at h1
  obtain ⟨p,_,rfl⟩:=Option.map_eq_some_iff.1 h1
  cases p<;>rfl
theorem G3 (w:J'):Shut w.heap.size w (oR w):=by
 refine ⟨by rw [nD];exact C_ _,fun b o _ h1=> ?_⟩
 rw [kR] at h1
 obtain ⟨p,hp,rfl⟩:=Option.map_eq_some_iff.1 h1
 refine ⟨p,hp, ?_⟩
 cases p with
 |cells c e f=>exact .cells (fun k hk=>by simp [gd];omega)
 |_=>exact .other rfl rfl rfl rfl
theorem aAd (w:J') (a:Addr):(oR w).cell? a=w.cell? a:=by
 unfold World.cell?
 rw [kR]
 cases w.heap[a.block]? with
 |none=>rfl
 |some p=>cases p<;>rfl
variable {P:U'} {b o:Nat} {Post:M'->J'->Prop}
variable {B:Nat} {w:J'}
theorem Can.RJ (hB:1<=B) {a:O'} (h:Can P (cS.empty ⟨b,o,none⟩) b o Post 0 (db B) (oR w) a):Ends P (fun v w'=>Post v w'/\Below w.heap.size w w') (solo a w) #[]:=by
 rw [solo_eq_crowd]
 exact h _ _ _ _ _ none _ (aC.start P b o GH GH a w) rfl ⟨⟨rfl,M6⟩,hB⟩ rfl (GM w) _ w (G3 w) (Below.refl _ _)
theorem Hr (a:Addr) (w:J'):Lay (cS.empty a) w:=⟨⟨fun b k hk=>by rcases hk with h|h|⟨g,h⟩<;>exact h.elim,fun b k hk=>by obtain ⟨g,h⟩:=hk;first|exact h.elim|(rcases h with h|h<;>exact h.2.elim)⟩,fun g r=>⟨fun h=>h,fun h=>h⟩⟩
end
end Go.aC
namespace Go.aC
open Go Go.Conc
variable {P:U'} {a:Act}
theorem aF {ok:w_->Bool} {b:Y'} {c:Code} (h:je P ok c=true) (hd:a.defers=[]) (hk:b.kind=.normal) (hf:∃fn,P.funcs[b.fn]?=some fn):OkFr P ok (b.at a [.code c]):=
 ⟨.inl rfl,hd,hk,rfl,fun it HF=>by rw [List.mem_singleton.1 HF];exact h,hf⟩
noncomputable def ai:Nat->Code->Code
 |0,.seq a _=>a
 |0,c=>c
 |n+1,.seq _ b=>ai n b
 |_+1,c=>c
noncomputable def az:Nat->Code->Code
 |0,c=>c
 |n+1,.seq _ b=>az n b
 |_+1,c=>c
end Go.aC
namespace Go.aC.Of
open Go Go.Conc Go.Conc.Lib Go.ConcR.Gen Go.RowKit Go.aC Go.Proofs
noncomputable def Al (ok:w_->Bool) (f:w_):Bool:=match Tryz.prog.funcs[f]? with
 |some fn=>(match fn.body with|some c=>je p_ ok c|none=>true)
 |none=>true
theorem zh {ok:w_->Bool} (l:List w_) (hl:∀f,ok f=true->f∈l) (h:∀f∈l,Al ok f=true):gM p_ ok:=by
 intro f fn hf xF c hc
 have:=h f (hl f hf)
 unfold Al at this
 rw [xF] at this
 simp only [hc] at this
 exact this
def JN:List w_:=[65,66,125,127,128,129,131,132,133,134,135,137,138,142,145,147,148,149,150,151,152,153,154,155,156,157]
def il (f:w_):Bool:=JN.contains f
theorem pA:gM p_ il:=zh JN (fun f h=>by unfold il at h;simpa using h) (List.all_eq_true.1 (show (JN.all (Al il))=true by kernel_rfl))
section
variable {C:cS} {b h:Nat} {ae Fin:O'->J'->Prop} {Post:M'->J'->Prop} {Rs:(Nat->Prop)->(Nat->aX)->Nat->Prop} {wl:J'} {f:Y'} {a:Act} {K:List x_} {cs:List Y'} {ops:Array y_} {i:Nat} {rest:List Nat} {x:y_} {c:Code}
theorem _root_.Go.aC.eh.o (B:eh p_ C b 0 ae Fin h) (v:M') (hx:∀T d,(execOp a.eval x).run p_ (wl.re T d)=.ok (.value v) (wl.re T d)) (hc:ay p_ C b 0 ae Fin Post h Rs wl (G (f.at (a.put x.dst v) (.inRegion ops rest::K)) cs)) (ho:ops[i]?=some x:=by exact rfl) (hS:gh h Rs:=by assumption) (hL:Lay C wl:=by assumption) (hw:Region.wanted x (yielded ops a.tmps)=true:=by exact rfl) (hk:f.kind≠.early:=by k_ne) (cK:fN p_ il x=true:=by kernel_rfl):ay p_ C b 0 ae Fin Post h Rs wl (G (f.at a (.inRegion ops (i::rest)::K)) cs):=ay.op (ok:=il) B hS hL ho hw hk cK fun T d=>⟨v,wl.re T d,hx T d,fun _=>hc.re T d⟩
theorem _root_.Go.aC.eh.q (B:eh p_ C b 0 ae Fin h) (v:M') (hc:ay p_ C b 0 ae Fin Post h Rs wl (G (f.at (a.put x.dst v) (.inRegion ops rest::K)) cs)) (ho:ops[i]?=some x:=by exact rfl) (hS:gh h Rs:=by assumption) (hL:Lay C wl:=by assumption) (hw:Region.wanted x (yielded ops a.tmps)=true:=by exact rfl) (hk:f.kind≠.early:=by k_ne) (cK:fN p_ il x=true:=by kernel_rfl) (hx:∀T d,(execOp a.eval x).run p_ (wl.re T d)=.ok (.value v) (wl.re T d):=by (intro T d;go_simp<;>decide)):ay p_ C b 0 ae Fin Post h Rs wl (G (f.at a (.inRegion ops (i::rest)::K)) cs):=B.o v hx hc ho hS hL hw hk cK
theorem _root_.Go.aC.eh.v (B:eh p_ C b 0 ae Fin h) (hx:∀q:((Nat->Question->Nat)->Nat->Result Next)->Prop,(∀v,ay p_ C b 0 ae Fin Post h Rs wl (G (f.at (a.put x.dst v) (.inRegion ops rest::K)) cs)->q (fun T d=>.ok (.value v) (wl.re T d)))->q (fun T d=>(execOp a.eval x).run p_ (wl.re T d))) (ho:ops[i]?=some x:=by exact rfl) (hS:gh h Rs:=by assumption) (hL:Lay C wl:=by assumption) (hw:Region.wanted x (yielded ops a.tmps)=true:=by exact rfl) (hk:f.kind≠.early:=by k_ne) (cK:fN p_ il x=true:=by kernel_rfl):ay p_ C b 0 ae Fin Post h Rs wl (G (f.at a (.inRegion ops (i::rest)::K)) cs):=by
 obtain ⟨v,h1,h2⟩:=hx (fun r=>∃v,(∀T d,r T d=.ok (.value v) (wl.re T d))/\ay p_ C b 0 ae Fin Post h Rs wl (G (f.at (a.put x.dst v) (.inRegion ops rest::K)) cs)) (fun v hc=>⟨v,fun _ _=>rfl,hc⟩)
 exact B.o v h1 h2 ho hS hL hw hk cK
variable {g:O'}
theorem _root_.Go.aC.eh.n {q:Prop} (B:eh p_ C b 0 ae Fin h) (k:q) (m:Go.aC.Hid q->ay p_ C b 0 ae Fin Post h Rs wl g:=by
 intro hq
 first
  |(with_reducible first
   |exact B.s hq.out
   |exact B.r hq.out
   |exact B.e hq.out)
  |exact B.t rfl hq.out
  |exact B.z rfl hq.out
  |(refine B.v fun K hy=> ?_
    go_simp
    refine hy _ ?_
    clear hy K
    walk_nrm
    exact hq.out)):ay p_ C b 0 ae Fin Post h Rs wl g:=m ⟨k⟩
theorem _root_.Go.aC.eh.p (B:eh p_ C b 0 ae Fin h) (hc:∀T d Bh,f_ (iM p_ C b 0 ae Fin Post h Rs f K cs=Bh)->c.wp p_ Bh a (wl.re T d)) (hS:gh h Rs:=by assumption) (hL:Lay C wl:=by assumption) (hf:OkFr p_ il (f.at a [.code c]):=by exact aF (by kernel_rfl) rfl rfl (by first|exact ⟨_,func121⟩|exact ⟨_,func124⟩|exact ⟨_,func130⟩|exact ⟨_,func122⟩|exact ⟨_,func123⟩|exact ⟨_,func136⟩)):ay p_ C b 0 ae Fin Post h Rs wl (G (f.at a (.code c::K)) cs):=ay.code (ok:=il) B pA hS hL hf fun T d=>hc T d _ rfl
theorem _root_.Go.aC.bh {T:Nat->Question->Nat} {d:Nat} {Bh:Exit->Act->J'->Prop} (hB:iM p_ C b 0 ae Fin Post h Rs f K cs=Bh) (q:ay p_ C b 0 ae Fin Post h Rs wl (G (f.at a K) cs)):Bh .normal a (wl.re T d):=by subst hB;intro _;exact q.re T d
end
end Go.aC.Of
namespace Go.aC.Of
section
open Go Go.Conc Go.Conc.Lib Go.ConcR Go.ConcR.Gen Go.RowKit Go.aC Go.Proofs
open Go.ConcN (upd upd_ne upd_same)
structure Od where
 bt:Nat
 x:Nat
 k:Int
inductive Os where
 |live (u:Od)
 |gone
def Os.od:Os->Option Od
 | .live u=>some u
 | .gone=>none
def ZQ:M':=.agg #[.int .i64 0,.int .i64 0,.chan none]
def Os.ok (b:Nat):Os->aX->Prop
 | .live u,r=>r=.seat (.recv u.x ZQ true) (mZ b u.bt u.x u.k)
 | .gone,r=>r.leaving=true\/r=.none
theorem Os.Em {b:Nat} {s:Os} {r r':aX} (h:s.ok b r) (ha:vS r r'):s.ok b r':=by
 cases s with
 |live u=>exact (mY ha).1 h
 |gone=>
  rcases ha with rfl|⟨_,h2⟩|⟨t,t',rfl,rfl⟩
  ·exact h
  ·exact .inl h2
  ·rcases h with h|h<;>cases h
def aY (b N h:Nat) (L:Nat->Os) (_:Nat->Prop) (ρ:Nat->aX) (n:Nat):Prop:=n=N/\∀j,j≠0->j≠h->(L j).ok b (ρ j)
def Si (b N h j:Nat) (pn:Port) (hn:O'->J'->Prop) (L:Nat->Os) (_:Nat->Prop) (ρ:Nat->aX) (n:Nat):Prop:=n=N/\ρ h=.seat pn hn/\∀i,i≠0->i≠h->i≠j->(L i).ok b (ρ i)
theorem aH (b N h:Nat) (L:Nat->Os):gh h (aY b N h L):=fun _ _ _ _ _ hh ha=>⟨hh.1,fun j hj KI=>Os.Em (hh.2 j hj KI) (ha j KI)⟩
theorem zL (b N h j:Nat) (pn:Port) (hn:O'->J'->Prop) (L:Nat->Os) (KI:h≠j):gh j (Si b N h j pn hn L):=fun _ _ _ _ _ hh ha=>⟨hh.1,(mY (ha h KI)).1 hh.2.1,fun i hi CS vG=>Os.Em (hh.2.2 i hi CS vG) (ha i vG)⟩
structure BB (C:cS) (L:Nat->Os):Prop where
 on:C.on
 no:∀g l,¬C.Pv g l
 ks:∀j u,j≠0->(L j).od=some u->KS C j u.bt
def Apart (L:Nat->Os):Prop:=∀i j u v,i≠0->j≠0->i≠j->(L i).od=some u->(L j).od=some v->u.x≠v.x
variable {C:cS} {b N h j:Nat} {L:Nat->Os} {ae Fin:O'->J'->Prop} {Post:M'->J'->Prop} {wl:J'} {g bp gw:O'} {pn:Port} {hn:O'->J'->Prop}
theorem nJ {s:Os} {p:Port} {home:O'->J'->Prop} (h:s.ok b (.seat p home)):∃u,s=.live u/\p=.recv u.x ZQ true/\home=mZ b u.bt u.x u.k:=by
 cases s with
 |live u=>have h':aX.seat p home=.seat (.recv u.x ZQ true) (mZ b u.bt u.x u.k):=h;cases h';exact ⟨u,rfl,rfl,rfl⟩
 |gone=>rcases h with h|h<;>cases h
theorem RX (h:j≠0):(j==0)=false:=by simp [h]
variable {kk c':Nat}
theorem asks (B:eh p_ C b 0 ae Fin h) (hL:Lay C wl) (hD:Apart L) {u:Od} (hj:j≠0) (KI:j≠h) (hl:L j=.live u) (gv:wl.heap[u.x]?=some (.chan 0 #[] false kk kk false)) (hc':∃k',wl.heap[c']?=some (.chan 0 #[] false k' k' false))
 {q:M'} (fH:gP p_ false (.send u.x q I') g bp)
 (sx:∀w,(C.on->Live b 0 w)->∃n,Goes p_ false (RB C b 0 h) (DR C h) (fun g w=>∃NF,gP p_ false (.recv c' (.int .i64 0) false) g NF/\NF=gw) n (Go.Conc.served bp I') w)
 (hc:∀a₂ w,mZ b u.bt u.x u.k a₂ w->bI wl w->ay p_ C b 0 ae Fin Post j (Si b N h j (.recv c' (.int .i64 0) false) (fun g _=>g=gw) L) (wl.setChan u.x 0 #[] false (kk+1) (kk+1) false) (Go.Conc.served a₂ (.tuple #[q,.bool true]))):
 ay p_ C b 0 ae Fin Post h (aY b N h L) wl g:=by
 refine ay.passes B (aH b N h L) hL (p:=.recv u.x ZQ true) (pn:=.recv c' (.int .i64 0) false) (home:=mZ b u.bt u.x u.k) (hn:=fun g _=>g=gw) (kk:=kk) (j:=j) fH
  (fun rel ρ n hR=>by have:=hR.2 j hj KI;rw [hl] at this;exact this) KI rfl (by simp [Port.out]) (fun rel ρ n i p' pq hR hz hi hp hch Ui=> ?_) gv (fun w hw Ni=> ?_) hc' (fun rel ρ n hR hr hz=> ?_) (fun rel ρ n hR=> ?_) hc
 ·by_cases qJ:i=0
  ·subst qJ
   obtain ⟨s,hs⟩:=hz
   rw [hs] at hp;cases hp
  ·have h1:=hR.2 i qJ hi
   rw [hp] at h1
   obtain ⟨v,hv,rfl,rfl⟩:=nJ h1
   refine j_ fun hne=> ?_
   exact hD i j v u qJ hj hne (by rw [hv];rfl) (by rw [hl];rfl) hch
 ·obtain ⟨n,hg⟩:=sx w Ni
  refine ⟨n+1,fun _ _ _ _ h=>h,.inl ⟨n,rfl, ?_⟩⟩
  rw [RX B.ne]
  exact hg
 ·have key:∀x p h₁,upd (upd ρ j (.self 1 0)) h (.seat (.recv c' (.int .i64 0) false) fun g _=>g=gw) x=.seat p h₁->p.out=false:=fun x p h₁ hx=>by
   by_cases e1:x=h
   ·subst e1;rw [O_] at hx;cases hx;rfl
   ·rw [P_ _ _ e1] at hx
    by_cases e2:x=j
    ·subst e2;rw [O_] at hx;cases hx
    ·rw [P_ _ _ e2] at hx
     by_cases e3:x=0
     ·subst e3
      obtain ⟨s,hs⟩:=hz
      rw [hs] at hx;cases hx
     ·have h1:=hR.2 x e3 e1
      rw [hx] at h1
      obtain ⟨v,_,rfl,_⟩:=nJ h1
      rfl
  exact fun x y p p' h₁ iN hx hy _=>(key x p h₁ hx).trans (key y p' iN hy).symm
 ·refine ⟨hR.1,O_ _ _ _,fun i hi CS vG=> ?_⟩
  rw [P_ _ _ CS,P_ _ _ vG];exact hR.2 i hi CS
theorem answers (B:eh p_ C b 0 ae Fin j) (hL:Lay C wl) {u:Od} (hh:h≠0) (KI:j≠h) (hl:L j=.live u) (gv:wl.heap[c']?=some (.chan 0 #[] false kk kk false)) (hx:∃k',wl.heap[u.x]?=some (.chan 0 #[] false k' k' false))
 (hne:∀i v,i≠0->(L i).od=some v->v.x≠c') (hS:KS C j u.bt) {k':Int} {v:M'} (hT:Told b u.x k' bp) (ht:wl.cell? ⟨u.bt,0,none⟩=some (.chan (some u.x))) (fH:gP p_ false (.send c' v I') g bp)
 (hc:ay p_ C b 0 ae Fin Post h (aY b N h (upd L j (.live ⟨u.bt,u.x,k'⟩))) (wl.setChan c' 0 #[] false (kk+1) (kk+1) false) (Go.Conc.served gw v)):
 ay p_ C b 0 ae Fin Post j (Si b N h j (.recv c' (.int .i64 0) false) (fun g _=>g=gw) L) wl g:=by
 have Nn:=B.ne
 refine ay.passes B (zL b N h j _ _ L (Ne.symm KI)) hL (p:=.recv c' (.int .i64 0) false) (pn:=.recv u.x ZQ true) (home:=fun g _=>g=gw) (hn:=mZ b u.bt u.x k') (kk:=kk) (j:=h) fH
  (fun rel ρ n hR=>hR.2.1) (Ne.symm KI) rfl (by simp [Port.out]) (fun rel ρ n i p' pq hR hz hi hp hch Ui=> ?_) gv (fun w hw Ni=> ?_) hx (fun rel ρ n hR hr hz=> ?_) (fun rel ρ n hR=> ?_) (fun a₂ w ha _=>by cases ha;exact hc)
 ·by_cases qJ:i=0
  ·subst qJ
   obtain ⟨s,hs⟩:=hz
   rw [hs] at hp;cases hp
  ·refine j_ fun CS=> ?_
   have h1:=hR.2.2 i qJ CS hi
   rw [hp] at h1
   obtain ⟨w,hw,rfl,rfl⟩:=nJ h1
   exact hne i w qJ (by rw [hw];rfl) hch
 ·have hch:w.cell? ⟨u.bt,0,none⟩=some (.chan (some u.x)):=hw.cell ((dW gv rfl _ _ _ _ _ _ _).1.trans ht)
  obtain ⟨n,hg⟩:=Jb hS ⟨hch,Ni hS.on⟩ hT
  refine ⟨n+1,fun w w₁ g r=>xB hS w w₁ g r,.inl ⟨n,rfl, ?_⟩⟩
  rw [RX Nn]
  exact hg
 ·have key:∀x p h₁,upd (upd ρ h (.self 1 0)) j (.seat (.recv u.x ZQ true) (mZ b u.bt u.x k')) x=.seat p h₁->p.out=false:=fun x p h₁ hx=>by
   by_cases e1:x=j
   ·subst e1;rw [O_] at hx;cases hx;rfl
   ·rw [P_ _ _ e1] at hx
    by_cases e2:x=h
    ·subst e2;rw [O_] at hx;cases hx
    ·rw [P_ _ _ e2] at hx
     by_cases e3:x=0
     ·subst e3
      obtain ⟨s,hs⟩:=hz
      rw [hs] at hx;cases hx
     ·have h1:=hR.2.2 x e3 e2 e1
      rw [hx] at h1
      obtain ⟨v,_,rfl,_⟩:=nJ h1
      rfl
  exact fun x y p p' h₁ iN hx hy _=>(key x p h₁ hx).trans (key y p' iN hy).symm
 ·refine ⟨hR.1,fun i hi CS=> ?_⟩
  by_cases e:i=j
  ·subst e;rw [O_,O_];rfl
  ·rw [P_ _ _ e,P_ _ _ e,P_ _ _ CS];exact hR.2.2 i hi CS e
theorem Zq {p:Prop} (h:p):f_ p:=h
structure dI (w w':J'):Prop where
 cells:∀a v,w.cell? a=some v->w'.cell? a=some v/\w'.frozen? a=w.frozen? a
 blk:∀(r:Nat) (ob:Obj),w.heap[r]?=some ob->w'.heap[r]?=some ob
 size:w.heap.size<=w'.heap.size
variable {w w':J'}
theorem dI.gz (h:dI w w') (r:Nat) (ob:Obj) (hr:w.heap[r]?=some ob) (_:aR ob=false):w'.heap[r]?=some ob:=h.blk r ob hr
theorem dI.refl (w:J'):dI w w:=⟨fun _ _ h=>⟨h,rfl⟩,fun _ _ h=>h,C_ _⟩
theorem dI.trans {a b c:J'} (h:dI a b) (k:dI b c):dI a c:=
 ⟨fun x v hx=>⟨(k.cells x v (h.cells x v hx).1).1,(k.cells x v (h.cells x v hx).1).2.trans (h.cells x v hx).2⟩,fun r ob hr=>k.blk r ob (h.blk r ob hr),D_ h.size k.size⟩
theorem dI.re (h:dI w w') (T:Nat->Question->Nat) (d:Nat):dI w (w'.re T d):=⟨h.cells,h.blk,h.size⟩
theorem dI.alloc (h:dI w w') (o:Obj):dI w (w'.alloc o):=by
 refine h.trans ⟨fun a v ha=> ?_,fun r ob hr=> ?_,by simp⟩
 ·obtain ⟨c,e,f,hb,_⟩:=dF ha
  have hlt:=(cI hb)
  have e2:(w'.alloc o).heap[a.block]?=w'.heap[a.block]?:=by simp only [World.alloc];rw [Array.getElem?_push_lt hlt,H_ hlt]
  exact ⟨(J_ e2).trans ha,m_ e2⟩
 ·have hlt:=(cI hr)
  simp only [World.alloc];rw [Array.getElem?_push_lt hlt,<-hr,H_ hlt]
variable {Rs:(Nat->Prop)->(Nat->aX)->Nat->Prop}
variable {x:Nat} {k:Int}
theorem Qc (B:eh p_ C b 0 ae Fin j) (hS:gh j Rs) (hL:Lay C wl) {bt:Nat} {kind call:Int} {a₂:O'} (hh:mZ b bt x k a₂ w)
 (h:∀aK g bp,Lay C aK->dI wl aK->gP p_ false (.send c' (.int .i64 (if kind=1 then call else k)) I') g bp->Told b x (if kind=1 then call else k) bp->ay p_ C b 0 ae Fin Post j Rs aK g):
 ay p_ C b 0 ae Fin Post j Rs wl (Go.Conc.served a₂ (.tuple #[.agg #[.int .i64 kind,.int .i64 call,.chan (some c')],.bool true])):=by
 obtain ⟨-, F,v1,v3,v5,v6,v7,v8,v9,v10,v11,v12,v13,v14,v15,rfl⟩:=hh
 rw [mD]
 simp only [Ei,zW,nZ,f70,A_]
 walk_nrm
 iterate 3 refine B.n ?_
 refine ay.ctl B hS hL rfl (fun _=>stepG_cond (t:=true) rfl) ?_;simp only [qp,↓reduceIte]
 refine ay.ctl B hS hL rfl (fun _=>stepG_skip) ?_
 refine ay.ctl B hS hL rfl (fun _=>stepG_block) ?_
 refine B.s ?_
 refine ay.code B pA hS hL (aF (by kernel_rfl) rfl rfl ⟨_,func70⟩) ?_
 intro T d
 generalize hB:iM p_ C b 0 ae Fin Post j Rs _ _ _=Bh
 go_wp2
 subst hB
 intro hc
 have KE:=hc
 have fJ:Lay C (wl.alloc (.cells #[.int .i64 kind,.int .i64 call,.chan (some c')] 142)):=⟨Cut.j8 (T:=T) (d:=d) hc,hL.no⟩
 clear hc KE
 have hK:dI wl (wl.alloc (.cells #[.int .i64 kind,.int .i64 call,.chan (some c')] 142)):=(dI.refl wl).alloc _
 have hb:(wl.alloc (.cells #[.int .i64 kind,.int .i64 call,.chan (some c')] 142)).heap[wl.heap.size]?=some (.cells #[.int .i64 kind,.int .i64 call,.chan (some c')] 142):=Z' _ _
 have f0:(wl.alloc (.cells #[.int .i64 kind,.int .i64 call,.chan (some c')] 142)).cell? ⟨wl.heap.size,0,none⟩=some (.int .i64 kind):=by unfold World.cell?;rw [hb];rfl
 have f1:(wl.alloc (.cells #[.int .i64 kind,.int .i64 call,.chan (some c')] 142)).cell? ⟨wl.heap.size,1,none⟩=some (.int .i64 call):=by unfold World.cell?;rw [hb];rfl
 have f2:(wl.alloc (.cells #[.int .i64 kind,.int .i64 call,.chan (some c')] 142)).cell? ⟨wl.heap.size,2,none⟩=some (.chan (some c')):=by unfold World.cell?;rw [hb];rfl
 clear hb
 refine ay.re (wl:=wl.alloc (.cells #[.int .i64 kind,.int .i64 call,.chan (some c')] 142)) ?_ T d
 show ay p_ C b 0 ae Fin Post j Rs (wl.alloc (.cells #[.int .i64 kind,.int .i64 call,.chan (some c')] 142)) (G ((base 70).at ⟨#[.chan (some x),v1,.int .i64 k,.pointer (some ⟨wl.heap.size,0,none⟩),.chan (some x),.tuple #[.agg #[.int .i64 kind,.int .i64 call,.chan (some c')],.bool true],.bool true,.agg #[.int .i64 kind,.int .i64 call,.chan (some c')],v8,v9,v10,v11,v12,v13,v14,v15],[]⟩ _) _)
 generalize wl.alloc (.cells #[.int .i64 kind,.int .i64 call,.chan (some c')] 142)=W at *
 generalize wl.heap.size=s at *
 refine B.s ?_
 refine ay.code B pA hS fJ (aF (by kernel_rfl) rfl rfl ⟨_,func70⟩) ?_
 intro T d
 have g0:(W.re T d).cell? ⟨s,0,none⟩=some (.int .i64 kind):=f0
 have g1:(W.re T d).cell? ⟨s,1,none⟩=some (.int .i64 call):=f1
 generalize hB:iM p_ C b 0 ae Fin Post j Rs _ _ _=Bh
 have fin:∀(r:Int) (v8 v9 v10 v11 v12:M'),r=(if kind=1 then call else k)->ay p_ C b 0 ae Fin Post j Rs W (G ((base 70).at ⟨#[.chan (some x),v1,.int .i64 r,.pointer (some ⟨s,0,none⟩),.chan (some x),.tuple #[.agg #[.int .i64 kind,.int .i64 call,.chan (some c')],.bool true],.bool true,.agg #[.int .i64 kind,.int .i64 call,.chan (some c')],v8,v9,v10,v11,v12,v13,v14,v15],[]⟩ (.code (match nZ with| .seq _ (.seq _ (.block _ (.loop (.seq _ (.seq _ (.block _ (.seq _ (.seq _ c))))))))=>c|_=>.skip)::vU)) [(baseD 68).at ⟨F,[dcall 69 #[.pointer (some ⟨b,0,none⟩)]]⟩ [.inRegion FH [1]],bot]):=by
  intro r v8 v9 v10 v11 v12 hr
  simp only [vU,nZ,f70,A_]
  iterate 2 refine B.n ?_
  refine B.o (.chan (some c')) (fun T d=> ?_) ?_
  ·have h2:(W.re T d).cell? ⟨s,2,none⟩=some (.chan (some c')):=f2
   go_simp
  walk_nrm
  refine B.n ?_
  subst hr
  refine h W _ _ fJ hK (rS rfl rfl (by k_ne) (fun w=> ?_) (fun w=> ?_)) ⟨F,_,_,_,_,_,_,_,_,_,_,_,_,_,rfl⟩
  ·go_simp
   exact ⟨rfl,rfl⟩
  ·simp [go_sem, *]
 have kk:=Zq fin
 clear fin h
 by_cases hk:kind=1
 ·subst hk
  go_wp2
  subst hB
  intro hc
  exact ay.re (kk.out call _ _ _ _ _ rfl) T d
 ·have fS:(kind==1)=false:=beq_eq_false_iff_ne.2 hk
  go_wp2
  subst hB
  intro hc
  exact ay.re (kk.out k _ _ _ _ _ (by rw [if_neg hk])) T d
def Ch (w:J') (r:Nat):Prop:=∃k,w.heap[r]?=some (.chan 0 #[] false k k false)
structure gN (x:Nat) (w w':J'):Prop where
 cells:∀a v,w.cell? a=some v->w'.cell? a=some v/\w'.frozen? a=w.frozen? a
 blk:∀(r:Nat) (ob:Obj),w.heap[r]?=some ob->r≠x->w'.heap[r]?=some ob
 size:w.heap.size<=w'.heap.size
theorem gN.of (h:dI w w'):gN x w w':=⟨h.cells,fun r ob h1 _=>h.blk r ob h1,h.size⟩
theorem gN.trans {a b c:J'} (h:gN x a b) (k:gN x b c):gN x a c:=
 ⟨fun y v hy=>⟨(k.cells y v (h.cells y v hy).1).1,(k.cells y v (h.cells y v hy).1).2.trans (h.cells y v hy).2⟩,fun r ob hr hx=>k.blk r ob (h.blk r ob hr hx) hx,D_ h.size k.size⟩
variable {ob:Obj}
theorem gN.chan (ho:w.heap[x]?=some ob) (hc:aR ob=false) (cap:Nat) (buf:Array M') (cl:Bool) (s r:Nat) (tm:Bool):gN x w (w.setChan x cap buf cl s r tm):=
 ⟨fun a v ha=>⟨(dW ho hc cap buf cl s r tm a).1.trans ha,(dW ho hc cap buf cl s r tm a).2⟩,fun r' zk h1 hx=>by rw [ft (Ne.symm hx)];exact h1,by simp only [World.setChan,X_];exact C_ _⟩
theorem gN.other {y:Nat} (h:gN x w w') (hy:w.heap.size<=y) (ho:w'.heap[y]?=some ob) (hc:aR ob=false) (cap:Nat) (buf:Array M') (cl:Bool) (s r:Nat) (tm:Bool):gN x w (w'.setChan y cap buf cl s r tm):=
 ⟨fun a v ha=>⟨(dW ho hc cap buf cl s r tm a).1.trans (h.cells a v ha).1,(dW ho hc cap buf cl s r tm a).2.trans (h.cells a v ha).2⟩,fun r' zk h1 hx=>by
  have hlt:=(cI h1)
  rw [ft (by omega)];exact h.blk r' zk h1 hx,by simp only [World.setChan,X_];exact h.size⟩
noncomputable def dv:Code:=f101.body.getD .skip
theorem TL (w:J'):(Instr.makeChan 78 (.int .i64 0)).run p_ w=.ok (.chan (some w.heap.size)) (w.alloc (.chan 0 #[] false 0 0 false)):=by
 obtain ⟨i,hi⟩:∃i,Tryz.prog.info? 3=some i:=Option.isSome_iff_exists.1 (by kernel_rfl)
 exact run_makeChan (P:=p_) (w:=w) (t:=78) (e:=3) (dir:=.both) (by kernel_rfl) hi .i64 0 (by decide) (by simp)
variable {aI:Y'} {aS:Act} {av:Array y_} {aN:Nat} {ak:List Nat} {aV:List x_} {cs:List Y'}
variable {hb:Nat}
theorem VS (B:eh p_ C b 0 ae Fin h) (hL:Lay C wl) {op:Nat} {kind call:Int}
 (hc:Lay C (wl.alloc (.chan 0 #[] false 0 0 false))->ay p_ C b 0 ae Fin Post h (aY b N h L) (wl.alloc (.chan 0 #[] false 0 0 false)) (G ((base 101).at ⟨#[.pointer (some ⟨hb,0,none⟩),.int .i64 op,.int .i64 kind,.int .i64 call,I',I',I',I',.int .i64 0,.chan (some wl.heap.size),.chan (some wl.heap.size),I',I',I',I',I',I',I',I',I',I',I',I',I',I'],[]⟩ [.code (az 2 dv)]) cs)):
 ay p_ C b 0 ae Fin Post h (aY b N h L) wl (G ((base 101).at ⟨#[.pointer (some ⟨hb,0,none⟩),.int .i64 op,.int .i64 kind,.int .i64 call]++F_ 21 I',[]⟩ [.code dv]) cs):=by
 have hS:=aH b N h L
 have ea:(#[.pointer (some ⟨hb,0,none⟩),.int .i64 op,.int .i64 kind,.int .i64 call]++F_ 21 I':Array M')=#[.pointer (some ⟨hb,0,none⟩),.int .i64 op,.int .i64 kind,.int .i64 call,I',I',I',I',I',I',I',I',I',I',I',I',I',I',I',I',I',I',I',I',I']:=by kernel_rfl
 rw [ea]
 have e1:dv=.seq (ai 0 dv) (.seq (ai 1 dv) (az 2 dv)):=by kernel_rfl
 rw [e1]
 generalize hK:[lN (az 2 dv)]=K at *
 simp only [ai,dv,f101,A_]
 iterate 6 refine B.n ?_
 refine ay.op (ok:=il) B hS hL rfl rfl (by k_ne) (by kernel_rfl) (fun T d=>⟨.chan (some wl.heap.size),(wl.alloc (.chan 0 #[] false 0 0 false)).re T d, ?_,fun hcut=>ay.re ?_ T d⟩)
 ·have h1:=TL (wl.re T d)
  go_simp
  exact ⟨rfl,rfl⟩
 have fJ:Lay C (wl.alloc (.chan 0 #[] false 0 0 false)):=⟨Cut.j8 hcut,hL.no⟩
 walk_nrm
 refine ay.op (ok:=il) B hS fJ rfl rfl (by k_ne) (by kernel_rfl) (fun T d=>⟨.chan (some wl.heap.size),(wl.alloc (.chan 0 #[] false 0 0 false)).re T d, ?_,fun _=>ay.re ?_ T d⟩)
 ·go_simp
 walk_nrm
 refine B.e ?_
 subst hK
 exact hc fJ
noncomputable def Aj:Array y_:=match dv with| .seq _ (.seq _ (.seq _ (.seq (.region _ ops _) _)))=>ops|_=>#[]
theorem V7 (C:cS) (b h:Nat):Wk (RB C b 0 h) (DR C h) (fun _=>True):=⟨fun _ _ _ _=>trivial,fun _=>⟨Out.refl _ _,fun e he=>by simp at he⟩⟩
variable {cp i:Nat}
theorem VR (B:eh p_ C b 0 ae Fin h) (hL:Lay C wl) (hD:Apart L) (hP:BB C L) {ob n:Nat} {kind call:Int} {u:Od} (hj:j≠0) (KI:j≠h) (hl:L j=.live u) (Nq:i<n) (UL:i<1000)
 (hcell:wl.cell? ⟨hb,6,none⟩=some (.slice (some ⟨ob,0,none⟩) n cp)) (hx:wl.cell? ⟨ob,i,none⟩=some (.chan (some u.x))) (ht:wl.cell? ⟨u.bt,0,none⟩=some (.chan (some u.x)))
 (gv:wl.heap[u.x]?=some (.chan 0 #[] false kk kk false)) (hc':wl.heap[c']?=some (.chan 0 #[] false 0 0 false)) (hne:∀i v,i≠0->(L i).od=some v->v.x≠c')
 (hc:∀aK,Lay C aK->(∃w1 w2 zk,dI (wl.setChan u.x 0 #[] false (kk+1) (kk+1) false) w1/\w1.heap[c']?=some zk/\aR zk=false/\w2=w1.setChan c' 0 #[] false 1 1 false/\aK=w2)->ay p_ C b 0 ae Fin Post h (aY b N h (upd L j (.live ⟨u.bt,u.x,if kind=1 then call else u.k⟩))) aK (G (aI.at (aS.put ((av[aN]?).bind (·.dst)) (.int .i64 (if kind=1 then call else u.k))) (.inRegion av ak::aV)) cs)):
 ay p_ C b 0 ae Fin Post h (aY b N h L) wl (G ((base 101).at ⟨#[.pointer (some ⟨hb,0,none⟩),.int .i64 ((i:Int)+1),.int .i64 kind,.int .i64 call,I',I',I',I',.int .i64 0,.chan (some c'),.chan (some c'),I',I',I',I',I',I',I',I',I',I',I',I',I',I'],[]⟩ [.code (az 2 dv)]) (aI.at aS (.inRegion av (aN::ak)::aV)::cs)):=by
 have hS:=aH b N h L
 have hxc:u.x≠c':=hne j u hj (by rw [hl];rfl)
 have Bj:eh p_ C b 0 ae Fin j:=⟨hj,B.run,B.back⟩
 have e1:az 2 dv=.seq (ai 2 dv) (az 3 dv):=by kernel_rfl
 rw [e1]
 refine B.s ?_
 generalize hK:[lN (az 3 dv)]=K at *
 simp only [ai,dv,f101,A_]
 iterate 4 refine B.n ?_
 refine B.o (.slice (some ⟨ob,0,none⟩) n cp) (fun T d=> ?_) ?_
 ·have h0:(wl.re T d).cell? ⟨hb,6,none⟩=some (.slice (some ⟨ob,0,none⟩) n cp):=hcell
  go_simp
 walk_nrm
 refine B.n ?_
 refine B.o (.int .i64 (i:Int)) (fun T d=> ?_) ?_
 ·go_simp
  exact IntWalk.i64_in _ (by omega)
 walk_nrm
 refine B.n ?_
 refine B.o (.chan (some u.x)) (fun T d=> ?_) ?_
 ·have h0:(wl.re T d).cell? ⟨ob,i,none⟩=some (.chan (some u.x)):=hx
  go_simp
 walk_nrm
 iterate 4 refine B.n ?_
 refine asks B hL hD hj KI hl gv ⟨0,hc'⟩ (q:=.agg #[.int .i64 kind,.int .i64 call,.chan (some c')]) (gw:=G ((base 101).at ⟨#[.pointer (some ⟨hb,0,none⟩),.int .i64 ((i:Int)+1),.int .i64 kind,.int .i64 call,I',I',I',I',.int .i64 0,.chan (some c'),.chan (some c'),.pointer (some ⟨hb,0,none⟩),.pointer (some ⟨hb,0,none⟩),.pointer (some ⟨hb,6,none⟩),.slice (some ⟨ob,0,none⟩) n cp,.int .i64 ((i:Int)+1),.int .i64 (i:Int),.pointer (some ⟨ob,i,none⟩),.chan (some u.x),.int .i64 kind,.int .i64 call,.chan (some c'),.agg #[.int .i64 kind,.int .i64 call,.chan (some c')],.chan (some c'),I'],[]⟩ [.inRegion Aj [1,2],.code .ret]) (aI.at aS (.inRegion av (aN::ak)::aV)::cs)) (rS rfl rfl (by k_ne) (fun w=> ?_) (fun w=> ?_)) (fun w hw=> ?_) (fun a₂ w hh vC=> ?_)
 ·go_simp
  exact ⟨rfl,rfl⟩
 ·simp [go_sem, *]
 ·have W:=V7 C b h
  suffices hs:∃n,∀w,True->Goes p_ false (RB C b 0 h) (DR C h) _ n (Go.Conc.served _ I') w from hs.imp fun n hn=>hn w trivial
  rw [mD]
  subst hK
  simp only [Aj,az,dv,f101,A_]
  walk_nrm
  refine W.ctl rfl (fun _=>stepG_region_end) ?_
  refine W.ctl rfl (fun _=>stepG_seq) ?_
  refine W.ctl rfl (fun _=>zb) ?_
  refine W.val rfl rfl (by k_ne) (fun _=>by simp [go_sem, *]) (fun K hy=> ?_);go_simp;(try w_num);refine hy _ ?_;clear hy K;walk_nrm
  refine W.stop fun w _=>⟨_,rS rfl rfl (by k_ne) (fun w=> ?_) (fun w=> ?_),rfl⟩
  ·go_simp
   exact ⟨rfl,rfl⟩
  ·simp [go_sem, *]
 ·refine Qc Bj (zL b N h j _ _ L (Ne.symm KI)) (hL.setChan gv rfl _ _ _ _ _ _) hh fun aK g bp du Ru fH hT=> ?_
  have BJ:(wl.setChan u.x 0 #[] false (kk+1) (kk+1) false).heap[c']?=some (.chan 0 #[] false 0 0 false):=by rw [ft hxc];exact hc'
  have OU:=Ru.gz _ _ BJ rfl
  have hlt:=(cI gv)
  have M0:(wl.setChan u.x 0 #[] false (kk+1) (kk+1) false).heap[u.x]?=some (.chan 0 #[] false (kk+1) (kk+1) false):=by rw [gS,if_pos rfl,if_pos hlt]
  refine answers Bj du B.ne KI hl OU ⟨_,Ru.gz _ _ M0 rfl⟩ hne (hP.ks j u hj (by rw [hl];rfl)) hT (Ru.cells _ _ ((dW gv rfl _ _ _ _ _ _ _).1.trans ht)).1 fH ?_
  have gA:=du.setChan OU rfl 0 #[] false 1 1 false
  rw [mD]
  have uh:=aH b N h (upd L j (.live ⟨u.bt,u.x,if kind=1 then call else u.k⟩))
  have hk:=hc _ gA ⟨_,_,_,Ru,OU,rfl,rfl,rfl⟩
  clear hc
  generalize aK.setChan c' 0 #[] false 1 1 false=W at *
  generalize (if kind=1 then call else u.k)=r at *
  simp only [Aj,dv,f101,A_]
  walk_nrm
  iterate 2 refine B.n ?_
  refine ay.ctl B uh gA rfl (fun _=>ma) ?_
  refine ay.ctl B uh gA rfl (fun _=>aZ rfl rfl func101 rfl) ?_
  exact hk
theorem ask (B:eh p_ C b 0 ae Fin h) (hL:Lay C wl) (hD:Apart L) (hP:BB C L) (hch:∀i v,i≠0->(L i).od=some v->Ch wl v.x) {ob n:Nat} {kind call:Int} {u:Od} (hj:j≠0) (KI:j≠h) (hl:L j=.live u) (Nq:i<n) (UL:i<1000)
 (hcell:wl.cell? ⟨hb,6,none⟩=some (.slice (some ⟨ob,0,none⟩) n cp)) (hx:wl.cell? ⟨ob,i,none⟩=some (.chan (some u.x))) (ht:wl.cell? ⟨u.bt,0,none⟩=some (.chan (some u.x)))
 (hc:∀aK,Lay C aK->gN u.x wl aK->Ch aK u.x->ay p_ C b 0 ae Fin Post h (aY b N h (upd L j (.live ⟨u.bt,u.x,if kind=1 then call else u.k⟩))) aK (G (aI.at (aS.put ((av[aN]?).bind (·.dst)) (.int .i64 (if kind=1 then call else u.k))) (.inRegion av ak::aV)) cs)):
 ay p_ C b 0 ae Fin Post h (aY b N h L) wl (G ((base 101).at ⟨#[.pointer (some ⟨hb,0,none⟩),.int .i64 ((i+1:Nat):Int),.int .i64 kind,.int .i64 call]++F_ 21 I',[]⟩ [.code dv]) (aI.at aS (.inRegion av (aN::ak)::aV)::cs)):=by
 refine VS B hL fun fJ=> ?_
 have hK:dI wl (wl.alloc (.chan 0 #[] false 0 0 false)):=(dI.refl wl).alloc _
 have lG:(wl.alloc (.chan 0 #[] false 0 0 false)).heap[wl.heap.size]?=some (.chan 0 #[] false 0 0 false):=Z' _ _
 obtain ⟨kk,gv⟩:=hch j u hj (by rw [hl];rfl)
 have hlt:=(cI gv)
 have Rc:=hK.gz _ _ gv rfl
 refine VR (aI:=aI) (aS:=aS) (av:=av) (aN:=aN) (ak:=ak) (aV:=aV) B fJ hD hP hj KI hl Nq UL (hK.cells _ _ hcell).1 (hK.cells _ _ hx).1 (hK.cells _ _ ht).1 Rc lG (fun i v hi hv=> ?_) fun aK du hex=> ?_
 ·obtain ⟨k,hk⟩:=hch i v hi hv
  have:=(cI hk)
  omega
 ·obtain ⟨w1,w2,zk,Ru,ho,rq,rfl,rfl⟩:=hex
  have k1:gN u.x wl w1:=((gN.of hK).trans (gN.chan Rc rfl 0 #[] false (kk+1) (kk+1) false)).trans (gN.of Ru)
  refine hc _ du (k1.other (C_ _) ho rq 0 #[] false 1 1 false) ⟨kk+1, ?_⟩
  rw [ft (by omega)]
  refine Ru.gz _ _ ?_ rfl
  rw [gS,if_pos rfl,if_pos (cI Rc)]
end
section
open Go Go.Conc Go.Conc.Lib Go.ConcR Go.ConcR.Gen Go.aC Go.Proofs
open Go.RowKit hiding Hid
open Go.ConcN (upd upd_ne upd_same)
variable {A:Ha} {S:Hs} {vw vb vr va vt:M'} {w w':J'}
variable {x:Nat}
theorem aQ.pf (h:aQ A S vw vb vr va vt w) (k:gN x w w') (hx:Ch w x):aQ A S vw vb vr va vt w':=by
 obtain ⟨kk,hx⟩:=hx
 have hs:∀(r:Nat) (cs:Array M') (e:Q') (f:Nat × Nat),w.heap[r]?=some (jY cs e f)->w'.heap[r]?=some (jY cs e f):=fun r cs e f hr=>k.blk r _ hr (fun e1=>by rw [e1,hx] at hr;cases hr)
 have hm:∀{r:Nat} {K:Type} {enc:K->M'} {f:K->Option M'},ed w r enc f->ed w' r enc f:=fun {r K enc f} hr=>by
  obtain ⟨es,cl,h1,h2⟩:=hr.ex
  exact ⟨es,cl,k.blk r _ h1 (fun e1=>by rw [e1,hx] at h1;cases h1),h2⟩
 have own:∀{B e s n:Nat} {v:M'} {xs:List M'},w.ownsRow B e s v n xs->w'.ownsRow B e s v n xs:=fun {B e s n v xs} hr=>⟨hr.1,hr.2.imp id fun ⟨g,cap,cur,h1,h2,h3,h4⟩=>⟨g,cap,cur,h1,h2,hs _ _ _ _ h3,h4⟩⟩
 exact ⟨h.ok,D_ h.big k.size,hs _ _ _ _ h.box,fun i hi=>(k.cells _ _ (h.lines i hi)).1,hm h.on,hm h.of,hm h.rc,own h.wait,own h.back,own h.recs,own h.log,own h.cg,h.apart⟩
structure bN (C:cS) (A:Ha) (N0 h:Nat) (us:List Od) (L:Nat->Os) (w:J'):Prop where
 len:us.length=A.m
 small:A.m<=999/\∀j v,j≠0->(L j).od=some v->∃i,i<us.length/\j=N0+i
 live:∀i (hi:i<us.length),L (N0+i)=.live us[i]
 n0:∀i,i<us.length->N0+i≠0/\N0+i≠h
 ap:Apart L
 fo:BB C L
 kM:∀j v,j≠0->(L j).od=some v->Ch w v.x/\v.x<A.B
 cells:∀i (hi:i<us.length),w.cell? ⟨A.ob,i,none⟩=some (.chan (some us[i].x))/\w.cell? ⟨us[i].bt,0,none⟩=some (.chan (some us[i].x))/\us[i].bt<A.B/\us[i].bt≠A.hb
theorem dX {m r:Nat} {K:Type} {enc:K->M'} {f:K->Option M'} (hm:ed w m enc f) (hr:∀es c,w.heap[r]?≠some (.map es c)):r≠m:=fun e=>by
 obtain ⟨es,cl,h1,_⟩:=hm.ex
 exact hr es cl (e▸h1)
variable {C:cS} {N0 h:Nat} {us:List Od} {L:Nat->Os}
theorem bN.fr (K:bN C A N0 h us L w) (H:aQ A S vw vb vr va vt w) (F:Fr A w w'):bN C A N0 h us L w':=by
 refine ⟨K.len,K.small,K.live,K.n0,K.ap,K.fo,fun j v hj hv=> ?_,fun i hi=> ?_⟩
 ·obtain ⟨⟨kk,hk⟩,hb⟩:=K.kM j v hj hv
  have nm:∀es c,w.heap[v.x]?≠some (.map es c):=fun es c e=>by rw [hk] at e;cases e
  refine ⟨⟨kk, ?_⟩,hb⟩
  rw [F.block v.x hb (fun e=>by have:=H.box;rw [<-e,hk] at this;cases this) (dX H.on nm) (dX H.of nm) (dX H.rc nm)]
  exact hk
 ·obtain ⟨h1,h2,h3,h4⟩:=K.cells i hi
  have nm:∀{r o:Nat} {v:M'},w.cell? ⟨r,o,none⟩=some v->∀es c,w.heap[r]?≠some (.map es c):=fun {r o v} hr es c e=>by simp [World.cell?,e] at hr
  refine ⟨?_, ?_,h3,h4⟩
  ·rw [J_ (F.block A.ob H.ok.ob H.ok.d3.1 (dX H.on (nm h1)) (dX H.of (nm h1)) (dX H.rc (nm h1)))];exact h1
  ·rw [J_ (F.block _ h3 h4 (dX H.on (nm h2)) (dX H.of (nm h2)) (dX H.rc (nm h2)))];exact h2
def told (us:List Od) (i:Nat) (kind call:Int):List Od:=us.modify i fun u=>⟨u.bt,u.x,if kind=1 then call else u.k⟩
variable {i j:Nat}
theorem BU {kind call:Int} (hi:i<us.length) (hj:j<(told us i kind call).length):(told us i kind call)[j]=if i=j then ⟨us[i].bt,us[i].x,if kind=1 then call else us[i].k⟩ else us[j]'(by simpa [told] using hj):=by
 unfold told at hj ⊢
 rw [List.getElem_modify]
 split
 ·rename_i e;subst e;rfl
 ·rfl
theorem bN.told (K:bN C A N0 h us L w) (hi:i<us.length) {kind call:Int} (k:gN us[i].x w w') (hc:Ch w' us[i].x):bN C A N0 h (told us i kind call) (upd L (N0+i) (.live ⟨us[i].bt,us[i].x,if kind=1 then call else us[i].k⟩)) w':=by
 have hlen:(Of.told us i kind call).length=us.length:=by simp [Of.told]
 have ye:∀j v,j≠0->(upd L (N0+i) (.live ⟨us[i].bt,us[i].x,if kind=1 then call else us[i].k⟩) j).od=some v->∃v',(L j).od=some v'/\v'.x=v.x/\v'.bt=v.bt:=fun j v hj hv=>by
  by_cases e:j=N0+i
  ·subst e
   rw [O_] at hv
   simp only [Os.od,Option.some.injEq] at hv
   subst hv
   exact ⟨us[i],by rw [K.live i hi];rfl,rfl,rfl⟩
  ·rw [P_ _ _ e] at hv
   exact ⟨v,hv,rfl,rfl⟩
 refine ⟨by rw [hlen];exact K.len,⟨K.small.1,fun j v hj hv=>by obtain ⟨v',h1,_⟩:=ye j v hj hv;rw [hlen];exact K.small.2 j v' hj h1⟩,fun j hj=> ?_,fun j hj=>K.n0 j (hlen▸hj),fun a c u v ha hc' ZT hu hv=> ?_,⟨K.fo.on,K.fo.no,fun j u hj hu=> ?_⟩,fun j v hj hv=> ?_,fun j hj=> ?_⟩
 ·rw [BU hi]
  by_cases e:i=j
  ·subst e;rw [if_pos rfl,O_]
  ·rw [if_neg e,P_ _ _ (by omega)];exact K.live j (hlen▸hj)
 ·obtain ⟨u',h1,h2,_⟩:=ye a u ha hu
  obtain ⟨v',h3,h4,_⟩:=ye c v hc' hv
  rw [<-h2,<-h4];exact K.ap a c u' v' ha hc' ZT h1 h3
 ·obtain ⟨u',h1,_,h3⟩:=ye j u hj hu
  rw [<-h3];exact K.fo.ks j u' hj h1
 ·obtain ⟨v',h1,h2,_⟩:=ye j v hj hv
  obtain ⟨⟨kk,hk⟩,hb⟩:=K.kM j v' hj h1
  rw [<-h2]
  refine ⟨?_,hb⟩
  by_cases e:v'.x=us[i].x
  ·rw [e];exact hc
  ·exact ⟨kk,k.blk _ _ hk e⟩
 ·have EL:j<us.length:=hlen▸hj
  obtain ⟨h1,h2,h3,h4⟩:=K.cells j EL
  rw [BU hi]
  by_cases e:i=j
  ·subst e;rw [if_pos rfl];exact ⟨(k.cells _ _ h1).1,(k.cells _ _ h2).1,h3,h4⟩
  ·rw [if_neg e];exact ⟨(k.cells _ _ h1).1,(k.cells _ _ h2).1,h3,h4⟩
variable {b N:Nat} {ae Fin:O'->J'->Prop} {Post:M'->J'->Prop} {wl:J'} {aI:Y'} {aS:Act} {av:Array y_} {aN:Nat} {ak:List Nat} {aV:List x_} {cs:List Y'}
theorem RZ (B:eh p_ C b 0 ae Fin h) (hL:Lay C wl) (H:aQ A S vw vb vr va vt wl) (K:bN C A N0 h us L wl) (hi:i<us.length) {kind call:Int}
 (hc:∀aK,Lay C aK->aQ A S vw vb vr va vt aK->bN C A N0 h (told us i kind call) (upd L (N0+i) (.live ⟨us[i].bt,us[i].x,if kind=1 then call else us[i].k⟩)) aK->gN us[i].x wl aK->ay p_ C b 0 ae Fin Post h (aY b N h (upd L (N0+i) (.live ⟨us[i].bt,us[i].x,if kind=1 then call else us[i].k⟩))) aK (G (aI.at (aS.put ((av[aN]?).bind (·.dst)) (.int .i64 (if kind=1 then call else us[i].k))) (.inRegion av ak::aV)) cs)):
 ay p_ C b 0 ae Fin Post h (aY b N h L) wl (G ((base 101).at ⟨#[.pointer (some ⟨A.hb,0,none⟩),.int .i64 ((i+1:Nat):Int),.int .i64 kind,.int .i64 call]++F_ 21 I',[]⟩ [.code dv]) (aI.at aS (.inRegion av (aN::ak)::aV)::cs)):=by
 obtain ⟨h1,h2,h3,h4⟩:=K.cells i hi
 have hm:=K.len
 have hsm:=K.small.1
 refine ask B hL K.ap K.fo (fun j v hj hv=>(K.kM j v hj hv).1) (K.n0 i hi).1 (K.n0 i hi).2 (K.live i hi) (n:=A.m) (by omega) (by omega) H.c.2.2.2.1 h1 h2 fun aK fJ hk hch=> ?_
 have hx:=(K.kM (N0+i) us[i] (K.n0 i hi).1 (by rw [K.live i hi];rfl)).1
 exact hc aK fJ (H.pf hk hx) (K.told hi hk hch) hk
def aU (A:Ha) (w:J'):Prop:=(∃g cs e f,Tryz.prog.globalNamed "internal/strconv.uint64pow10" =some g/\g<A.B/\g≠A.hb/\w.heap[g]?=some (jY cs e f)/\cs=(Lib.pow10Tab.map fun z=>ah .u64 z).toArray)/\A.n0<=A.B/\∀g cs e f,g<A.n0->g≠A.hb->A.h0[g]?=some (jY cs e f)->w.heap[g]?=some (jY cs e f)
theorem aU.is (h:aU A w):Lib.TabIs p_ w "internal/strconv.uint64pow10" .u64 Lib.pow10Tab:=by
 obtain ⟨⟨g,cs,e,f,h1,_,_,h4,h5⟩,_⟩:=h
 unfold Lib.TabIs World.var?
 rw [h1];simp only [Option.bind_some,h4,h5]
theorem aU.fr (h:aU A w) (H:aQ A S vw vb vr va vt w) (F:Fr A w w'):aU A w':=by
 obtain ⟨⟨g,cs,e,f,h1,h2,h3,h4,h5⟩,h7,h8⟩:=h
 have nm:∀{g:Nat} {cs:Array M'} {e:Q'} {f:Nat × Nat},w.heap[g]?=some (jY cs e f)->∀es c,w.heap[g]?≠some (.map es c):=fun {g cs e f} h4 es c e1=>by rw [h4] at e1;cases e1
 refine ⟨⟨g,cs,e,f,h1,h2,h3,by rw [F.block g h2 h3 (dX H.on (nm h4)) (dX H.of (nm h4)) (dX H.rc (nm h4))];exact h4,h5⟩,h7,fun g cs e f hg hb hh=> ?_⟩
 have h4:=h8 g cs e f hg hb hh
 rw [F.block g (by omega) hb (dX H.on (nm h4)) (dX H.of (nm h4)) (dX H.rc (nm h4))];exact h4
theorem aU.PO (h:aU A w) (H:aQ A S vw vb vr va vt w):Ik A w:=fun _ F=>(h.fr H F).is
theorem aU.pf (h:aU A w) (k:gN x w w') (hx:Ch w x):aU A w':=by
 obtain ⟨⟨g,cs,e,f,h1,h2,h3,h4,h5⟩,h7,h8⟩:=h
 obtain ⟨kk,hx⟩:=hx
 exact ⟨⟨g,cs,e,f,h1,h2,h3,k.blk g _ h4 (fun e1=>by rw [e1,hx] at h4;cases h4),h5⟩,h7,fun g cs e f hg hb hh=>k.blk g _ (h8 g cs e f hg hb hh) (fun e1=>by have:=h8 g cs e f hg hb hh;rw [e1,hx] at this;cases this)⟩
noncomputable def iL:Code:=f139.body.getD .skip
theorem pB {p q r s:M'}:fZ p_ 101 #[p,q,r,s] .normal=(base 101).at ⟨#[p,q,r,s]++F_ 21 I',[]⟩ [.code dv]:=by kernel_rfl
def dL:Bs:=[99,97,108,108,32]
def iZ (S:Hs) (i:Nat) (r:Rec) (op:Int):Hs:={S with recs:=S.recs.set i {r with op:=op,heard:=S.clock}}
variable {L:Nat->Of.Os}
theorem PN (B:eh p_ C b 0 ae Fin h) (hL:Lay C wl) (H:aQ A S vw vb vr va vt wl) (K:bN C A N0 h us L wl) (hT:aU A wl) (hi:i<us.length) {c:Int}
 (hc:∀aK z,Lay C aK->aQ A S vw vb vr va vt aK->bN C A N0 h (told us i 1 c) (upd L (N0+i) (.live ⟨us[i].bt,us[i].x,c⟩)) aK->aU A aK->
  ay p_ C b 0 ae Fin Post h (aY b N h (upd L (N0+i) (.live ⟨us[i].bt,us[i].x,c⟩))) aK (G ((base 139).at ⟨#[.pointer (some ⟨A.hb,0,none⟩),.int .i64 ((i+1:Nat):Int),.int .i64 c,I',I',I',.string ⟨#[]⟩,I',.pointer (some ⟨A.hb,0,none⟩),.int .i64 ((i+1:Nat):Int),.int .i64 c,z,I',I',I',I',I',I',I',I',I',I',I',I',I',I',I',I',I'],[]⟩ [.code (az 2 iL)]) cs)):
 ay p_ C b 0 ae Fin Post h (aY b N h L) wl (G ((base 139).at ⟨#[.pointer (some ⟨A.hb,0,none⟩),.int .i64 ((i+1:Nat):Int),.int .i64 c]++F_ 26 I',[]⟩ [.code iL]) cs):=by
 have hS:=aH b N h L
 have ea:(#[.pointer (some ⟨A.hb,0,none⟩),.int .i64 ((i+1:Nat):Int),.int .i64 c]++F_ 26 I':Array M')=#[.pointer (some ⟨A.hb,0,none⟩),.int .i64 ((i+1:Nat):Int),.int .i64 c,I',I',I',I',I',I',I',I',I',I',I',I',I',I',I',I',I',I',I',I',I',I',I',I',I',I']:=by kernel_rfl
 rw [ea]
 have e1:iL=.seq (ai 0 iL) (.seq (ai 1 iL) (az 2 iL)):=by kernel_rfl
 rw [e1]
 generalize hK:[lN (az 2 iL)]=K0 at *
 generalize Mc:((i+1:Nat):Int)=iv at *
 simp only [ai,iL,f139,A_]
 iterate 9 refine B.n ?_
 refine ay.ctl B hS hL rfl (fun _=>bY (vs:=#[.pointer (some ⟨A.hb,0,none⟩),.int .i64 iv,.int .i64 1,.int .i64 c]) rfl rfl (by k_ne) rfl func101 rfl rfl (by kernel_rfl)) ?_
 rw [pB]
 subst Mc
 refine RZ B hL H K hi fun aK fJ H' K' fS=> ?_
 have T':=hT.pf fS (K.kM (N0+i) us[i] (K.n0 i hi).1 (by rw [K.live i hi];rfl)).1
 have uh:=aH b N h (upd L (N0+i) (.live ⟨us[i].bt,us[i].x,c⟩))
 simp only [if_true] at K' ⊢
 walk_nrm
 refine B.e ?_
 subst hK
 exact hc aK _ fJ H' K' T'
theorem PM (B:eh p_ C b 0 ae Fin h) (hL:Lay C wl) (H:aQ A S vw vb vr va vt wl) (K:bN C A N0 h us L wl) (hT:aU A wl) {iv c:Int} {r:Nat} (mj:S.rc c=some r) (hr:r<S.recs.length) (wi:S.recs.length<=100000) (c0:0<=c) (c1:c<=1000000) {z:M'}
 (hc:∀aK,Lay C aK->aQ A (iZ S r S.recs[r] iv) vw vb vr va vt aK->bN C A N0 h us L aK->aU A aK->
  ay p_ C b 0 ae Fin Post h (aY b N h L) aK (G (aI.at (aS.put ((av[aN]?).bind (·.dst)) (.string ⟨(dL++L_ c).toArray⟩)) (.inRegion av ak::aV)) cs)):
 ay p_ C b 0 ae Fin Post h (aY b N h L) wl (G ((base 139).at ⟨#[.pointer (some ⟨A.hb,0,none⟩),.int .i64 iv,.int .i64 c,I',I',I',.string ⟨#[]⟩,I',.pointer (some ⟨A.hb,0,none⟩),.int .i64 iv,.int .i64 c,z,I',I',I',I',I',I',I',I',I',I',I',I',I',I',I',I',I'],[]⟩ [.code (az 2 iL)]) (aI.at aS (.inRegion av (aN::ak)::aV)::cs)):=by
 have hS:=aH b N h L
 refine ay.code (ok:=il) B pA hS hL (aF (by kernel_rfl) rfl rfl ⟨_,func139⟩) ?_
 intro T d
 generalize hB:iM p_ C b 0 ae Fin Post h (aY b N h L) _ _ _=Bh
 replace hB:=aa hB
 have H0:=aa (H.heap (w':=wl.re T d) rfl)
 have K0:f_ (bN C A N0 h us L (wl.re T d)):=⟨K.len,K.small,K.live,K.n0,K.ap,K.fo,K.kM,K.cells⟩
 have T0:f_ (aU A (wl.re T d)):=hT
 have hno:=aa hL.no
 clear H K hT hL
 generalize wl.re T d=w0 at *
 simp only [az,iL,f139,A_]
 obtain ⟨g,cap,_,ev,_⟩:=cz H0.out.recs (Nat.lt_of_le_of_lt (nz _) hr)
 have ev:=aa ev
 go_wp2_with fail
 refine (jL H0.out mj hr ev.out wi).mono ?_
 rintro e w3 ⟨rfl,hh,F3⟩
 have H3:=aa (H0.out.heap hh)
 have Ig:=H3.out.c.2.2.2.2.2.2.2.2.1
 obtain ⟨x1,x2⟩:=H3.out.pQ ev.out hr (k:=2) (by decide)
 have H4:=H3.out.Ac ev.out hr (k:=2) (by decide) (v:=.int .i64 iv) (r:={S.recs[r] with op:=iv}) rfl
 have VP:=H4.1.c.2.2.2.2.2.2.2.2.1
 obtain ⟨x3,x4⟩:=H4.1.pQ (i:=r) (g:=g) (cap:=cap) (by rw [ev.out];simp) (by simpa using hr) (k:=4) (by decide)
 have H5:=H4.1.Ac (i:=r) (g:=g) (cap:=cap) (by rw [ev.out];simp) (by simpa using hr) (k:=4) (by decide) (v:=.int .i64 S.clock) (r:={S.recs[r] with op:=iv,heard:=S.clock}) (by simp [Rec.cells])
 replace H5:=aa (And.intro H5.1 (F3.trans (H4.2.trans H5.2)))
 simp [Rec.cells] at x1 x3
 simp only at VP
 clear H4 F3 H3 Ig
 go_wp2_with fail
 generalize (w3.setCell ⟨g,r * 7+2,none⟩ (.int .i64 iv)).setCell ⟨g,r * 7+4,none⟩ (.int .i64 S.clock)=w5 at H5 ⊢
 obtain ⟨H6,F6⟩:=H5.out
 simp only [List.set_set] at H6
 have T6:=T0.out.fr H0.out F6
 have K6:=aa (K0.out.fr H0.out F6)
 refine (si (T6.PO H6) c (by omega) (by omega)).mono ?_
 rintro e w7 ⟨rfl,hg⟩
 have F7:=Fr.kept H6.big hg (fun _ e=>by cases e)
 have H7:=aa (H6.more hg)
 have K7:=aa (K6.out.fr H6 F7)
 have T7:=aa (T6.fr H6 F7)
 have hlen:=Lib.itoa_length_le c (by omega) (by omega)
 have nU:¬(9223372036854775807<5+(L_ c).length):=by omega
 clear H6 F6 T6 K6 F7 hg H5 H0 K0 T0 x1 x2 x3 x4 VP
 go_wp2_with fail
 subst hB
 intro hcut todo
 have jv:Lay C w7:=⟨hcut,hno.out⟩
 refine ay.ctl B hS jv rfl (fun _=>aZ rfl rfl func139 rfl) ?_
 have:=hc w7 jv H7.out K7.out T7.out
 rw [<-vQ] at this
 exact this
theorem cg (B:eh p_ C b 0 ae Fin h) (hL:Lay C wl) (H:aQ A S vw vb vr va vt wl) (K:bN C A N0 h us L wl) (hT:aU A wl) (hi:i<us.length) {c:Int} {r:Nat} (mj:S.rc c=some r) (hr:r<S.recs.length) (wi:S.recs.length<=100000) (c0:0<=c) (c1:c<=1000000)
 (hc:∀aK,Lay C aK->aQ A (iZ S r S.recs[r] ((i+1:Nat):Int)) vw vb vr va vt aK->bN C A N0 h (told us i 1 c) (upd L (N0+i) (.live ⟨us[i].bt,us[i].x,c⟩)) aK->aU A aK->
  ay p_ C b 0 ae Fin Post h (aY b N h (upd L (N0+i) (.live ⟨us[i].bt,us[i].x,c⟩))) aK (G (aI.at (aS.put ((av[aN]?).bind (·.dst)) (.string ⟨(dL++L_ c).toArray⟩)) (.inRegion av ak::aV)) cs)):
 ay p_ C b 0 ae Fin Post h (aY b N h L) wl (G ((base 139).at ⟨#[.pointer (some ⟨A.hb,0,none⟩),.int .i64 ((i+1:Nat):Int),.int .i64 c]++F_ 26 I',[]⟩ [.code iL]) (aI.at aS (.inRegion av (aN::ak)::aV)::cs)):=
 PN B hL H K hT hi fun _ _ fJ H' K' T'=>PM B fJ H' K' T' mj hr wi c0 c1 hc
theorem S4 (us:List Od) (i:Nat) (call:Int):told us i 0 call=us:=by
 unfold told
 apply List.ext_getElem (by simp)
 intro j h1 h2
 rw [List.getElem_modify]
 split
 ·rename_i e;subst e;simp
 ·rfl
noncomputable def cD:Code:=f123.body.getD .skip
theorem O8 (B:eh p_ C b 0 ae Fin h) (hL:Lay C wl) (H:aQ A S vw vb vr va vt wl) (K:bN C A N0 h us L wl) (hT:aU A wl) (hi:i<us.length) {call:Int}
 (hc:∀aK,Lay C aK->aQ A S vw vb vr va vt aK->bN C A N0 h us L aK->aU A aK->ay p_ C b 0 ae Fin Post h (aY b N h L) aK (G (aI.at (aS.put ((av[aN]?).bind (·.dst)) (.int .i64 us[i].k)) (.inRegion av ak::aV)) cs)):
 ay p_ C b 0 ae Fin Post h (aY b N h L) wl (G ((base 101).at ⟨#[.pointer (some ⟨A.hb,0,none⟩),.int .i64 ((i+1:Nat):Int),.int .i64 0,.int .i64 call]++F_ 21 I',[]⟩ [.code dv]) (aI.at aS (.inRegion av (aN::ak)::aV)::cs)):=by
 refine RZ B hL H K hi fun aK fJ H' K' fS=> ?_
 have T':=hT.pf fS (K.kM (N0+i) us[i] (K.n0 i hi).1 (by rw [K.live i hi];rfl)).1
 rw [S4] at K'
 have e0:((0:Int)=1)=False:=by simp
 simp only [e0,if_false] at K' ⊢
 have eL:upd L (N0+i) (.live ⟨us[i].bt,us[i].x,us[i].k⟩)=L:=by
  funext j
  by_cases e:j=N0+i
  ·subst e;rw [O_,K.live i hi]
  ·rw [P_ _ _ e]
 rw [eL] at K' ⊢
 exact hc aK fJ H' K' T'
theorem P9 (B:eh p_ C b 0 ae Fin h) (hL:Lay C wl) (H:aQ A S vw vb vr va vt wl) (K:bN C A N0 h us L wl) (hT:aU A wl) (hi:i<us.length)
 (hc:∀aK,Lay C aK->aQ A S vw vb vr va vt aK->bN C A N0 h us L aK->aU A aK->
  ay p_ C b 0 ae Fin Post h (aY b N h L) aK (G ((base 123).at ⟨#[.pointer (some ⟨A.hb,0,none⟩),.int .i64 ((i+1:Nat):Int),I',I',.string ⟨#[]⟩,I',.pointer (some ⟨A.hb,0,none⟩),.int .i64 ((i+1:Nat):Int),.int .i64 us[i].k,.bool (decide (us[i].k≠0)),I',I',I',I',I',I',I',I',I',I',I',I',I',I',I',I',I',I',I',I',I',I',I',I',I'],[]⟩ [.code (az 1 (ai 1 cD)),.code (az 2 cD)]) cs)):
 ay p_ C b 0 ae Fin Post h (aY b N h L) wl (G ((base 123).at ⟨#[.pointer (some ⟨A.hb,0,none⟩),.int .i64 ((i+1:Nat):Int)]++F_ 33 I',[]⟩ [.code cD]) cs):=by
 have hS:=aH b N h L
 have ea:(#[.pointer (some ⟨A.hb,0,none⟩),.int .i64 ((i+1:Nat):Int)]++F_ 33 I':Array M')=#[.pointer (some ⟨A.hb,0,none⟩),.int .i64 ((i+1:Nat):Int),I',I',I',I',I',I',I',I',I',I',I',I',I',I',I',I',I',I',I',I',I',I',I',I',I',I',I',I',I',I',I',I',I']:=by kernel_rfl
 rw [ea]
 have e1:cD=.seq (ai 0 cD) (.seq (.seq (ai 0 (ai 1 cD)) (az 1 (ai 1 cD))) (az 2 cD)):=by kernel_rfl
 rw [e1]
 generalize hK:[lN (az 1 (ai 1 cD)),lN (az 2 cD)]=K0 at *
 have hcK:∀{wl:J'} {a:Act},ay p_ C b 0 ae Fin Post h (aY b N h L) wl (G ((base 123).at a (.code (ai 0 (ai 1 cD))::K0)) cs)->ay p_ C b 0 ae Fin Post h (aY b N h L) wl (G ((base 123).at a (.code (ai 0 (ai 1 cD))::K0)) cs):=fun h=>h
 generalize Mc:((i+1:Nat):Int)=iv at *
 refine B.s ?_
 generalize hR:[lN (Code.seq (.seq (ai 0 (ai 1 cD)) (az 1 (ai 1 cD))) (az 2 cD))]=R0
 simp only [ai,cD,f123,A_]
 iterate 3 refine B.n ?_
 subst hR
 iterate 2 refine B.n ?_
 rw [hK]
 simp only [ai,cD,f123,A_]
 iterate 3 refine B.n ?_
 refine ay.ctl B hS hL rfl (fun _=>bY (vs:=#[.pointer (some ⟨A.hb,0,none⟩),.int .i64 iv,.int .i64 0,.int .i64 0]) rfl rfl (by k_ne) rfl func101 rfl rfl (by kernel_rfl)) ?_
 rw [pB]
 subst Mc
 refine O8 B hL H K hT hi fun aK fJ H' K' T'=> ?_
 walk_nrm
 refine B.o (.bool (decide (us[i].k≠0))) (fun T d=> ?_) ?_
 ·by_cases e:us[i].k=0<;>go_simp
 walk_nrm
 refine B.e ?_
 have:=hc aK fJ H' K' T'
 exact this
variable {ws:List (Int × Int)}
theorem aQ.Af {vw:M'} (h:aQ A S vw vb vr va vt w) {v:M'} (hg:w.grownBy w' vw.ownBlock) (ho:w'.ownsRow A.B 84 2 v ws.length (ax ws)):
 aQ A {S with wait:=ws} v vb vr va vt (w'.setCell ⟨A.hb,7,none⟩ v)/\Fr A w (w'.setCell ⟨A.hb,7,none⟩ v):=
 h.grown hg (fun g e=>pU h.wait g e) (k:=7) (v:=v) (S':={S with wait:=ws}) rfl rfl rfl rfl rfl ho (bU h.back h.wait (by decide) hg) (bU h.recs h.wait (by decide) hg) (bU h.log h.wait (by decide) hg) (bU h.cg h.wait (by decide) hg) h.apart
def l8:Bs:=[116,97,108,107,115]
def qB:Bs:=[110,111,110,101]
def zf (A:Ha) (i:Nat) (k:Int):Array M':=#[.pointer (some ⟨A.hb,0,none⟩),.int .i64 ((i+1:Nat):Int),I',I',.string ⟨#[]⟩,I',.pointer (some ⟨A.hb,0,none⟩),.int .i64 ((i+1:Nat):Int),.int .i64 k,.bool (decide (k≠0)),I',I',I',I',I',I',I',I',I',I',I',I',I',I',I',I',I',I',I',I',I',I',I',I',I']
theorem Dg {p q r:M'}:fZ p_ 139 #[p,q,r] .normal=(base 139).at ⟨#[p,q,r]++F_ 26 I',[]⟩ [.code iL]:=by kernel_rfl
variable {k:Int}
theorem Ef (B:eh p_ C b 0 ae Fin h) (hL:Lay C wl) (hk:k≠0)
 (hc:ay p_ C b 0 ae Fin Post h (aY b N h L) wl (G (aI.at (aS.put ((av[aN]?).bind (·.dst)) (.string ⟨l8.toArray⟩)) (.inRegion av ak::aV)) cs)):
 ay p_ C b 0 ae Fin Post h (aY b N h L) wl (G ((base 123).at ⟨zf A i k,[]⟩ [.code (az 1 (ai 1 cD)),.code (az 2 cD)]) (aI.at aS (.inRegion av (aN::ak)::aV)::cs)):=by
 have hS:=aH b N h L
 refine B.p (fun T d Bh hB=> ?_)
 have hd:decide (k≠0)=true:=by simp [hk]
 unfold zf
 rw [hd]
 simp only [ai,az,cD,f123,A_]
 go_wp2_with fail
 subst hB
 intro hcut todo
 have jv:Lay C (wl.re T d):=⟨hcut,hL.no⟩
 refine ay.ctl B hS jv rfl (fun _=>aZ rfl rfl func123 rfl) ?_
 exact hc.re T d
theorem Hh (B:eh p_ C b 0 ae Fin h) (hL:Lay C wl) (H:aQ A S vw vb vr va vt wl) (hw:S.wait=[])
 (hc:ay p_ C b 0 ae Fin Post h (aY b N h L) wl (G (aI.at (aS.put ((av[aN]?).bind (·.dst)) (.string ⟨qB.toArray⟩)) (.inRegion av ak::aV)) cs)):
 ay p_ C b 0 ae Fin Post h (aY b N h L) wl (G ((base 123).at ⟨zf A i 0,[]⟩ [.code (az 1 (ai 1 cD)),.code (az 2 cD)]) (aI.at aS (.inRegion av (aN::ak)::aV)::cs)):=by
 have hS:=aH b N h L
 refine B.p (fun T d Bh hB=> ?_)
 have hd:decide ((0:Int)≠0)=false:=by simp
 unfold zf
 rw [hd]
 simp only [ai,az,cD,f123,A_]
 go_wp2_with fail
 subst hB
 intro hcut
 have jv:Lay C (wl.re T d):=⟨hcut,hL.no⟩
 refine B.s ?_
 refine ay.code (ok:=il) B pA hS jv (aF (by kernel_rfl) rfl rfl ⟨_,func123⟩) ?_
 intro T' d'
 rw [Oa]
 generalize hB:iM p_ C b 0 ae Fin Post h (aY b N h L) _ _ _=Bh
 replace hB:=aa hB
 obtain ⟨a,cap,ev⟩:=aE H.wait
 have c7:(wl.re T' d').cell? ⟨A.hb,7,none⟩=some vw:=H.c.2.2.2.2.1
 rw [ev,hw] at c7
 simp only [List.length_nil] at c7
 have ir:=aa hc
 clear hc hcut jv
 go_wp2_with fail
 subst hB
 intro hcut todo
 have jv:Lay C (wl.re T' d'):=⟨hcut,hL.no⟩
 refine ay.ctl B hS jv rfl (fun _=>aZ rfl rfl func123 rfl) ?_
 exact ir.out.re T' d'
theorem Hj (B:eh p_ C b 0 ae Fin h) (hL:Lay C wl) (H:aQ A S vw vb vr va vt wl) (K:bN C A N0 h us L wl) (hT:aU A wl) (hi:i<us.length) {p:Int × Int} (hw:S.wait=p::ws) (AQ:S.wait.length<=1000) {r:Nat} (mj:S.rc p.1=some r) (hr:r<S.recs.length) (wi:S.recs.length<=100000) (c0:0<=p.1) (c1:p.1<=1000000)
 (hc:∀aK jA,Lay C aK->aQ A (iZ {S with wait:=ws} r S.recs[r] ((i+1:Nat):Int)) jA vb vr va vt aK->bN C A N0 h (told us i 1 p.1) (upd L (N0+i) (.live ⟨us[i].bt,us[i].x,p.1⟩)) aK->aU A aK->
  ay p_ C b 0 ae Fin Post h (aY b N h (upd L (N0+i) (.live ⟨us[i].bt,us[i].x,p.1⟩))) aK (G (aI.at (aS.put ((av[aN]?).bind (·.dst)) (.string ⟨(dL++L_ p.1).toArray⟩)) (.inRegion av ak::aV)) cs)):
 ay p_ C b 0 ae Fin Post h (aY b N h L) wl (G ((base 123).at ⟨zf A i 0,[]⟩ [.code (az 1 (ai 1 cD)),.code (az 2 cD)]) (aI.at aS (.inRegion av (aN::ak)::aV)::cs)):=by
 have hS:=aH b N h L
 refine B.p (fun T d Bh hB=> ?_)
 have hd:decide ((0:Int)≠0)=false:=by simp
 unfold zf
 rw [hd]
 have ir:=aa hc
 clear hc
 simp only [ai,az,cD,f123,A_]
 go_wp2_with fail
 subst hB
 intro hcut
 have jv:Lay C (wl.re T d):=⟨hcut,hL.no⟩
 refine ay.re (wl:=wl) ?_ T d
 clear hcut jv
 refine B.s ?_
 refine B.p (fun T d Bh hB=> ?_)
 obtain ⟨g,cap,_,ev,_⟩:=cz H.wait (by rw [hw];simp)
 have hlen:S.wait.length=ws.length+1:=by rw [hw];rfl
 have c7:∀T d,(wl.re T d).cell? ⟨A.hb,7,none⟩=some vw:=fun _ _=>H.c.2.2.2.2.1
 rw [ev,hlen] at c7
 obtain ⟨y1,_⟩:=H.wE ev (k:=0) (by rw [hw];simp)
 have EE:S.wait[0]'(by rw [hw];simp)=p:=by simp only [hw];rfl
 rw [EE] at y1
 have y1:∀T d,(wl.re T d).cell? ⟨g,0,none⟩=some (.int .i64 p.1):=fun _ _=>(show wl.cell? ⟨g,0,none⟩=_ by simpa using y1)
 have Dx:((ws.length:Int)+1=0)=False:=by simp;omega
 have CP:(0:Int)<(ws.length:Int)+1:=by omega
 go_wp2_with fail
 refine bh hB ?_
 refine B.s ?_
 refine B.p (fun T d Bh hB=> ?_)
 go_wp2_with fail
 refine bh hB ?_
 refine B.s ?_
 refine B.p (fun T d Bh hB=> ?_)
 have bR:(wl.re T d).ownsRow A.B 84 2 (.slice (some ⟨g,0,none⟩) (ws.length+1) cap) (ws.length+1) (ax (p::ws)):=by
  have:=(H.heap (w':=wl.re T d) rfl).wait
  rw [ev,hlen,hw] at this;exact this
 have CU:=aa (NN bR)
 have H0:=aa (H.heap (w':=wl.re T d) rfl)
 have K0:f_ (bN C A N0 h us L (wl.re T d)):=⟨K.len,K.small,K.live,K.n0,K.ap,K.fo,K.kM,K.cells⟩
 have T0:f_ (aU A (wl.re T d)):=hT
 have hno:=aa hL.no
 have c7':=c7 T d
 replace hS:=aa hS
 clear H K hT hL bR y1 c7
 generalize wl.re T d=w0 at *
 go_wp2_with fail
 refine CU.out.mono ?_
 rintro e w2 ⟨rfl,ho,hg⟩
 have Mf:vw.ownBlock=some g:=by rw [ev];rfl
 have hgB:=(H0.out.wait.lt g Mf).1
 have Ba:=H0.out.ok.hb
 have hne:some A.hb≠some g:=fun e=>by injection e with e;omega
 have c7b:=hg.cell (a:=⟨A.hb,7,none⟩) c7' hne
 have f7b:w2.frozen? ⟨A.hb,7,none⟩=false:=(m_ (hg.block A.hb (E_ Ba H0.out.big) hne)).trans (H0.out.z 7)
 have hp:=aa (H0.out.Af (v:=.slice (some ⟨g,0,none⟩) ws.length cap) (ws:=ws) (by rw [Mf];exact hg) ho)
 clear hg ho CU c7'
 go_wp2_with fail
 subst hB
 intro hcut
 generalize w2.setCell ⟨A.hb,7,none⟩ (.slice (some ⟨g,0,none⟩) ws.length cap)=w3 at *
 obtain ⟨H3,F3⟩:=hp.out
 have K3:=K0.out.fr H0.out F3
 have T3:=T0.out.fr H0.out F3
 have gA:Lay C w3:=⟨hcut,hno.out⟩
 have hS:=hS.out
 generalize Mc:((i+1:Nat):Int)=iv at *
 generalize hq:(((ws.length:Int)+1==0):Bool)=Yr
 iterate 3 refine B.n ?_
 refine B.o (.int .i64 iv) (fun T d=> ?_) ?_
 ·go_simp
  omega
 walk_nrm
 refine B.n ?_
 refine ay.ctl B hS gA rfl (fun _=>bY (vs:=#[.pointer (some ⟨A.hb,0,none⟩),.int .i64 iv,.int .i64 p.1]) rfl rfl (by k_ne) rfl func139 rfl rfl (by kernel_rfl)) ?_
 rw [Dg]
 subst Mc
 refine cg B gA H3 K3 T3 hi mj hr wi c0 c1 fun aK fJ H' K' T'=> ?_
 have uh:=aH b N h (upd L (N0+i) (.live ⟨us[i].bt,us[i].x,p.1⟩))
 walk_nrm
 iterate 2 refine B.n ?_
 refine ay.ctl B uh fJ rfl (fun _=>ma) ?_
 refine ay.ctl B uh fJ rfl (fun _=>aZ rfl rfl func123 rfl) ?_
 exact ir.out aK _ fJ H' K' T'
def og (S:Hs) (us:List Od) (i:Nat):Hs × List Od × Bs:=
 match us[i]? with
 |none=>(S,us,[])
 |some u=>if u.k≠0 then (S,us,l8) else match S.wait with
  |[]=>(S,us,qB)
  |p::ws=>match S.rc p.1 with
   |none=>(S,us,[])
   |some r=>match S.recs[r]? with
    |none=>(S,us,[])
    |some x=>(iZ {S with wait:=ws} r x ((i+1:Nat):Int),told us i 1 p.1,dL++L_ p.1)
def Behind (C:cS) (b N N0 h:Nat) (A:Ha) (va vt:M') (ae Fin:O'->J'->Prop) (Post:M'->J'->Prop) (aI:Y') (aS:Act) (av:Array y_) (aN:Nat) (ak:List Nat) (aV:List x_) (cs:List Y') (R:Hs × List Od × Bs):Prop:=
 ∀aK L',Lay C aK->cQ A va vt R.1 aK->bN C A N0 h R.2.1 L' aK->aU A aK->
  ay p_ C b 0 ae Fin Post h (aY b N h L') aK (G (aI.at (aS.put ((av[aN]?).bind (·.dst)) (.string ⟨R.2.2.toArray⟩)) (.inRegion av ak::aV)) cs)
theorem Qa (B:eh p_ C b 0 ae Fin h) (hL:Lay C wl) (H:cQ A va vt S wl) (K:bN C A N0 h us L wl) (hT:aU A wl) (hi:i<us.length) (cK:rC S)
 (hc:Behind C b N N0 h A va vt ae Fin Post aI aS av aN ak aV cs (og S us i)):
 ay p_ C b 0 ae Fin Post h (aY b N h L) wl (G ((base 123).at ⟨#[.pointer (some ⟨A.hb,0,none⟩),.int .i64 ((i+1:Nat):Int)]++F_ 33 I',[]⟩ [.code cD]) (aI.at aS (.inRegion av (aN::ak)::aV)::cs)):=by
 obtain ⟨vw,vb,vr,H⟩:=H
 refine P9 B hL H K hT hi fun aK fJ H' K' T'=> ?_
 have hu:us[i]?=some us[i]:=G_ hi
 by_cases hk:us[i].k≠0
 ·have hR:og S us i=(S,us,l8):=by unfold og;rw [hu];simp only [if_pos hk]
  rw [hR] at hc
  exact Ef B fJ hk (hc aK L fJ ⟨_,_,_,H'⟩ K' T')
 ·have vF:us[i].k=0:=j_ hk
  rw [vF]
  cases hw:S.wait with
  |nil=>
   have hR:og S us i=(S,us,qB):=by unfold og;rw [hu];simp only [if_neg hk,hw]
   rw [hR] at hc
   exact Hh B fJ H' hw (hc aK L fJ ⟨_,_,_,H'⟩ K' T')
  |cons p ws=>
   have h0:0<S.wait.length:=by rw [hw];simp
   obtain ⟨x,r,_,mj,hr⟩:=cK.has 0 h0
   have jX:=cK.call 0 h0
   have hp:S.wait[0]=p:=by simp only [hw];rfl
   rw [hp] at mj jX
   have hR:og S us i=(iZ {S with wait:=ws} r S.recs[r] ((i+1:Nat):Int),told us i 1 p.1,dL++L_ p.1):=by
    unfold og
    rw [hu]
    simp only [if_neg hk,hw,mj,G_ hr]
   rw [hR] at hc
   exact Hj B fJ H' K' T' hi hw cK.wl mj hr cK.recs jX.1 jX.2 fun Pz jA Rt H'' K'' T''=>hc Pz _ Rt ⟨_,_,_,H''⟩ K'' T''
noncomputable def cy:Code:=f124.body.getD .skip
def sP (A:Ha) (i:Nat) (k:Int):Array M':=#[.pointer (some ⟨A.hb,0,none⟩),.int .i64 ((i+1:Nat):Int),I',I',.string ⟨#[]⟩,I',I',.pointer (some ⟨A.hb,0,none⟩),.int .i64 ((i+1:Nat):Int),.int .i64 k,.bool (decide (k≠0)),I',I',I',I',I',I',I',I',I',I',I',I',I',I',I',I',I',I',I',I',I',I',I',I',I',I',I',I',I',I',I',I']
theorem RS (B:eh p_ C b 0 ae Fin h) (hL:Lay C wl) (H:aQ A S vw vb vr va vt wl) (K:bN C A N0 h us L wl) (hT:aU A wl) (hi:i<us.length)
 (hc:∀aK,Lay C aK->aQ A S vw vb vr va vt aK->bN C A N0 h us L aK->aU A aK->
  ay p_ C b 0 ae Fin Post h (aY b N h L) aK (G ((base 124).at ⟨sP A i us[i].k,[]⟩ [.code (az 1 (ai 1 cy)),.code (az 2 cy)]) cs)):
 ay p_ C b 0 ae Fin Post h (aY b N h L) wl (G ((base 124).at ⟨#[.pointer (some ⟨A.hb,0,none⟩),.int .i64 ((i+1:Nat):Int)]++F_ 41 I',[]⟩ [.code cy]) cs):=by
 have hS:=aH b N h L
 have ea:(#[.pointer (some ⟨A.hb,0,none⟩),.int .i64 ((i+1:Nat):Int)]++F_ 41 I':Array M')=#[.pointer (some ⟨A.hb,0,none⟩),.int .i64 ((i+1:Nat):Int),I',I',I',I',I',I',I',I',I',I',I',I',I',I',I',I',I',I',I',I',I',I',I',I',I',I',I',I',I',I',I',I',I',I',I',I',I',I',I',I',I']:=by kernel_rfl
 rw [ea]
 have e1:cy=.seq (ai 0 cy) (.seq (.seq (ai 0 (ai 1 cy)) (az 1 (ai 1 cy))) (az 2 cy)):=by kernel_rfl
 rw [e1]
 generalize hK:[lN (az 1 (ai 1 cy)),lN (az 2 cy)]=K0 at *
 generalize Mc:((i+1:Nat):Int)=iv at *
 refine B.s ?_
 generalize hR:[lN (Code.seq (.seq (ai 0 (ai 1 cy)) (az 1 (ai 1 cy))) (az 2 cy))]=R0
 simp only [ai,cy,f124,A_]
 iterate 3 refine B.n ?_
 subst hR
 iterate 2 refine B.n ?_
 rw [hK]
 simp only [ai,cy,f124,A_]
 iterate 3 refine B.n ?_
 refine ay.ctl B hS hL rfl (fun _=>bY (vs:=#[.pointer (some ⟨A.hb,0,none⟩),.int .i64 iv,.int .i64 0,.int .i64 0]) rfl rfl (by k_ne) rfl func101 rfl rfl (by kernel_rfl)) ?_
 rw [pB]
 subst Mc
 refine O8 B hL H K hT hi fun aK fJ H' K' T'=> ?_
 walk_nrm
 refine B.o (.bool (decide (us[i].k≠0))) (fun T d=> ?_) ?_
 ·by_cases e:us[i].k=0<;>go_simp
 walk_nrm
 refine B.e ?_
 have:=hc aK fJ H' K' T'
 exact this
theorem Ff (B:eh p_ C b 0 ae Fin h) (hL:Lay C wl) (hk:k≠0)
 (hc:ay p_ C b 0 ae Fin Post h (aY b N h L) wl (G (aI.at (aS.put ((av[aN]?).bind (·.dst)) (.string ⟨l8.toArray⟩)) (.inRegion av ak::aV)) cs)):
 ay p_ C b 0 ae Fin Post h (aY b N h L) wl (G ((base 124).at ⟨sP A i k,[]⟩ [.code (az 1 (ai 1 cy)),.code (az 2 cy)]) (aI.at aS (.inRegion av (aN::ak)::aV)::cs)):=by
 have hS:=aH b N h L
 refine B.p (fun T d Bh hB=> ?_)
 have hd:decide (k≠0)=true:=by simp [hk]
 unfold sP
 rw [hd]
 simp only [ai,az,cy,f124,A_]
 go_wp2_with fail
 subst hB
 intro hcut todo
 have jv:Lay C (wl.re T d):=⟨hcut,hL.no⟩
 refine ay.ctl B hS jv rfl (fun _=>aZ rfl rfl func124 rfl) ?_
 exact hc.re T d
theorem Ib (B:eh p_ C b 0 ae Fin h) (hL:Lay C wl) (H:aQ A S vw vb vr va vt wl) (hw:S.back=[])
 (hc:ay p_ C b 0 ae Fin Post h (aY b N h L) wl (G (aI.at (aS.put ((av[aN]?).bind (·.dst)) (.string ⟨qB.toArray⟩)) (.inRegion av ak::aV)) cs)):
 ay p_ C b 0 ae Fin Post h (aY b N h L) wl (G ((base 124).at ⟨sP A i 0,[]⟩ [.code (az 1 (ai 1 cy)),.code (az 2 cy)]) (aI.at aS (.inRegion av (aN::ak)::aV)::cs)):=by
 have hS:=aH b N h L
 refine B.p (fun T d Bh hB=> ?_)
 have hd:decide ((0:Int)≠0)=false:=by simp
 unfold sP
 rw [hd]
 simp only [ai,az,cy,f124,A_]
 go_wp2_with fail
 subst hB
 intro hcut
 have jv:Lay C (wl.re T d):=⟨hcut,hL.no⟩
 refine B.s ?_
 refine ay.code (ok:=il) B pA hS jv (aF (by kernel_rfl) rfl rfl ⟨_,func124⟩) ?_
 intro T' d'
 rw [Oa]
 generalize hB:iM p_ C b 0 ae Fin Post h (aY b N h L) _ _ _=Bh
 replace hB:=aa hB
 obtain ⟨a,cap,ev⟩:=aE H.back
 have c7:(wl.re T' d').cell? ⟨A.hb,8,none⟩=some vb:=H.c.2.2.2.2.2.1
 rw [ev,hw] at c7
 simp only [List.length_nil] at c7
 have ir:=aa hc
 clear hc hcut jv
 go_wp2_with fail
 subst hB
 intro hcut todo
 have jv:Lay C (wl.re T' d'):=⟨hcut,hL.no⟩
 refine ay.ctl B hS jv rfl (fun _=>aZ rfl rfl func124 rfl) ?_
 exact ir.out.re T' d'
variable {ks:List Int}
theorem aQ.FG {vw:M'} (h:aQ A S vw vb vr va vt w) {v:M'} (hg:w.grownBy w' vb.ownBlock) (hv:v.ownBlock=vb.ownBlock) (ho:w'.ownsRow A.B 3 1 v ks.length (ks.map (ah .i64))):
 aQ A {S with back:=ks} vw v vr va vt (w'.setCell ⟨A.hb,8,none⟩ v)/\Fr A w (w'.setCell ⟨A.hb,8,none⟩ v):=by
 have J8:vt.ownBlock=none\/vt.ownBlock≠vb.ownBlock:=by
  rcases h.apart with e|e
  ·rw [e];exact oT _
  ·exact .inr (Ne.symm e)
 exact h.grown hg (fun g e=>pU h.back g e) (k:=8) (v:=v) (S':={S with back:=ks}) rfl rfl rfl rfl rfl (bU h.wait h.back (by decide) hg) ho (bU h.recs h.back (by decide) hg) (bU h.log h.back (by decide) hg) (h.cg.kept hg J8) (by rw [hv];exact h.apart)
theorem lX (S:Hs):gf S= -1\/∃l,∃hl:l<S.lines.length,gf S=(l:Nat)/\S.on S.lines[l]=none:=by
 unfold gf
 cases h:S.lines.findIdx? (fun x=>(S.on x).isNone) with
 |none=>exact .inl rfl
 |some l=>
  obtain ⟨hl,h1,_⟩:=List.findIdx?_eq_some_iff_getElem.1 h
  exact .inr ⟨l,hl,rfl,by simpa using h1⟩
def KQ:Bs:=[98,117,115,121]
theorem Ie (B:eh p_ C b 0 ae Fin h) (hL:Lay C wl) (H:aQ A S vw vb vr va vt wl) {c:Int} (hw:S.back=c::ks) (hn:S.lines.length<=1000) (jV:gf S= -1)
 (hc:ay p_ C b 0 ae Fin Post h (aY b N h L) wl (G (aI.at (aS.put ((av[aN]?).bind (·.dst)) (.string ⟨KQ.toArray⟩)) (.inRegion av ak::aV)) cs)):
 ay p_ C b 0 ae Fin Post h (aY b N h L) wl (G ((base 124).at ⟨sP A i 0,[]⟩ [.code (az 1 (ai 1 cy)),.code (az 2 cy)]) (aI.at aS (.inRegion av (aN::ak)::aV)::cs)):=by
 have hS:=aH b N h L
 refine B.p (fun T d Bh hB=> ?_)
 have hd:decide ((0:Int)≠0)=false:=by simp
 unfold sP
 rw [hd]
 have ir:=aa hc
 clear hc
 simp only [ai,az,cy,f124,A_]
 go_wp2_with fail
 refine bh hB ?_
 refine B.s ?_
 refine B.p (fun T d Bh hB=> ?_)
 obtain ⟨g,cap,_,ev,_⟩:=cz H.back (by rw [hw];simp)
 have hlen:S.back.length=ks.length+1:=by rw [hw];rfl
 have c8:∀T d,(wl.re T d).cell? ⟨A.hb,8,none⟩=some vb:=fun _ _=>H.c.2.2.2.2.2.1
 rw [ev,hlen] at c8
 have Dx:((ks.length:Int)+1=0)=False:=by simp;omega
 have CP:(0:Int)<(ks.length:Int)+1:=by omega
 go_wp2_with fail
 refine bh hB ?_
 refine B.s ?_
 refine B.p (fun T d Bh hB=> ?_)
 have dJ:=aa (kK (H.heap (w':=wl.re T d) rfl) hn)
 go_wp2_with fail
 refine dJ.out.mono ?_
 rintro e w2 ⟨rfl,rfl⟩
 rw [jV]
 go_wp2_with fail
 refine bh hB ?_
 refine B.s ?_
 refine B.p (fun T d Bh hB=> ?_)
 go_wp2_with fail
 subst hB
 intro hcut todo
 have jv:Lay C (wl.re T d):=⟨hcut,hL.no⟩
 refine ay.ctl B hS jv rfl (fun _=>aZ rfl rfl func124 rfl) ?_
 exact ir.out.re T d
theorem Ic (B:eh p_ C b 0 ae Fin h) (hL:Lay C wl) (H:aQ A S vw vb vr va vt wl) (K:bN C A N0 h us L wl) (hT:aU A wl) (hi:i<us.length) {c:Int} (hw:S.back=c::ks) (hn:S.lines.length<=1000) (wi:S.recs.length<=90000) (c0:0<=c) (c1:c<=1000000) {l:Nat} (hl:l<S.lines.length) (jV:gf S=(l:Nat)) {S2:Hs} (KP:S2=conn {S with back:=ks} c l S.lines[l]) (L8:S.recs.length<S2.recs.length)
 (hc:∀aK qS qb,Lay C aK->aQ A (iZ S2 S.recs.length S2.recs[S.recs.length] ((i+1:Nat):Int)) vw qS qb va vt aK->bN C A N0 h (told us i 1 c) (upd L (N0+i) (.live ⟨us[i].bt,us[i].x,c⟩)) aK->aU A aK->
  ay p_ C b 0 ae Fin Post h (aY b N h (upd L (N0+i) (.live ⟨us[i].bt,us[i].x,c⟩))) aK (G (aI.at (aS.put ((av[aN]?).bind (·.dst)) (.string ⟨(dL++L_ c).toArray⟩)) (.inRegion av ak::aV)) cs)):
 ay p_ C b 0 ae Fin Post h (aY b N h L) wl (G ((base 124).at ⟨sP A i 0,[]⟩ [.code (az 1 (ai 1 cy)),.code (az 2 cy)]) (aI.at aS (.inRegion av (aN::ak)::aV)::cs)):=by
 have hS:=aH b N h L
 refine B.p (fun T d Bh hB=> ?_)
 have hd:decide ((0:Int)≠0)=false:=by simp
 unfold sP
 rw [hd]
 have ir:=aa hc
 clear hc
 simp only [ai,az,cy,f124,A_]
 go_wp2_with fail
 refine bh hB ?_
 refine B.s ?_
 refine B.p (fun T d Bh hB=> ?_)
 obtain ⟨g,cap,_,ev,_⟩:=cz H.back (by rw [hw];simp)
 have hlen:S.back.length=ks.length+1:=by rw [hw];rfl
 have c8:∀T d,(wl.re T d).cell? ⟨A.hb,8,none⟩=some vb:=fun _ _=>H.c.2.2.2.2.2.1
 rw [ev,hlen] at c8
 have Dx:((ks.length:Int)+1=0)=False:=by simp;omega
 have CP:(0:Int)<(ks.length:Int)+1:=by omega
 go_wp2_with fail
 refine bh hB ?_
 refine B.s ?_
 refine B.p (fun T d Bh hB=> ?_)
 have dJ:=aa (kK (H.heap (w':=wl.re T d) rfl) hn)
 go_wp2_with fail
 refine dJ.out.mono ?_
 rintro e w2 ⟨rfl,rfl⟩
 rw [jV]
 have uK:(0:Int)<=(l:Int):=by omega
 have Mb:((l:Int)<0)=False:=by simp
 go_wp2_with fail
 refine bh hB ?_
 refine B.s ?_
 refine B.p (fun T d Bh hB=> ?_)
 go_wp2_with fail
 refine bh hB ?_
 refine B.s ?_
 refine B.p (fun T d Bh hB=> ?_)
 have ho:=H.back
 rw [ev,hlen,hw] at ho
 have y1:∀T d,(wl.re T d).cell? ⟨g,0,none⟩=some (.int .i64 c):=fun _ _=>(ho.cellAt 0 (by omega)).trans rfl
 go_wp2_with fail
 refine bh hB ?_
 refine B.s ?_
 refine B.p (fun T d Bh hB=> ?_)
 have bR:(wl.re T d).ownsRow A.B 3 1 (.slice (some ⟨g,0,none⟩) (c::ks).length cap) (c::ks).length ((c::ks).map (ah .i64)):=ho
 have CU:=aa (Gt bR (i:=0) (by simp))
 have H0:=aa (H.heap (w':=wl.re T d) rfl)
 have K0:f_ (bN C A N0 h us L (wl.re T d)):=⟨K.len,K.small,K.live,K.n0,K.ap,K.fo,K.kM,K.cells⟩
 have T0:f_ (aU A (wl.re T d)):=hT
 have hno:=aa hL.no
 have VO:=c8 T d
 replace hS:=aa hS
 clear H K hT hL bR y1 c8 dJ ho
 generalize wl.re T d=w0 at *
 go_wp2_with fail
 refine CU.out.mono ?_
 rintro e w2 ⟨rfl,ho,hg⟩
 have Mf:vb.ownBlock=some g:=by rw [ev];rfl
 have hgB:=(H0.out.back.lt g Mf).1
 have Ba:=H0.out.ok.hb
 have hne:some A.hb≠some g:=fun e=>by injection e with e;omega
 have c8b:=hg.cell (a:=⟨A.hb,8,none⟩) VO hne
 have f8b:w2.frozen? ⟨A.hb,8,none⟩=false:=(m_ (hg.block A.hb (E_ Ba H0.out.big) hne)).trans (H0.out.z 8)
 have hp:=aa (H0.out.FG (v:=.slice (some ⟨g,0,none⟩) ks.length cap) (ks:=ks) (by rw [Mf];exact hg) (by rw [Mf];rfl) ho)
 clear hg ho CU VO
 go_wp2_with fail
 subst hB
 intro hcut
 generalize w2.setCell ⟨A.hb,8,none⟩ (.slice (some ⟨g,0,none⟩) ks.length cap)=w3 at *
 have gA:Lay C w3:=⟨hcut,hno.out⟩
 clear hcut
 refine B.s ?_ (hS:=hS.out)
 refine B.p (fun T d Bh hB=> ?_) (hS:=hS.out)
 have H3:=aa (hp.out.1.heap (w':=w3.re T d) rfl)
 have K3:f_ (bN C A N0 h us L (w3.re T d)):=by
  have k3:=K0.out.fr H0.out hp.out.2
  exact ⟨k3.len,k3.small,k3.live,k3.n0,k3.ap,k3.fo,k3.kM,k3.cells⟩
 have T3:f_ (aU A (w3.re T d)):=by
  have t3:=T0.out.fr H0.out hp.out.2
  exact t3
 have xG:=aa (oy H3.out (c:=c) (l:=l) hl hn (by show S.recs.length<=100000;omega) (by omega) (by omega) (Fr.refl A (w3.re T d)))
 clear hp K0 T0 H0 c8b f8b gA
 generalize w3.re T d=w4 at *
 go_wp2_with fail
 refine xG.out.mono ?_
 rintro e w5 ⟨rfl,⟨qb,H5⟩,F5⟩
 have H5:=aa H5
 have K5:=aa (K3.out.fr H3.out F5)
 have T5:=aa (T3.out.fr H3.out F5)
 clear F5 K3 T3 H3 xG
 go_wp2_with fail
 subst hB
 intro hcut
 have qu:Lay C w5:=⟨hcut,hno.out⟩
 have hS:=hS.out
 have mj:S2.rc c=some S.recs.length:=by rw [KP];show (if c=c then _ else _)=_;rw [if_pos rfl]
 have H6:aQ A S2 vw (.slice (some ⟨g,0,none⟩) ks.length cap) qb va vt w5:=by rw [KP];exact H5.out
 have YX:S2.recs.length<=100000:=by rw [KP];show (S.recs++[_]).length<=_;rw [K_];simp;omega
 generalize Mc:((i+1:Nat):Int)=iv at *
 iterate 3 refine B.n ?_
 refine B.o (.int .i64 iv) (fun T d=> ?_) ?_
 ·go_simp
  omega
 walk_nrm
 refine B.n ?_
 refine ay.ctl B hS qu rfl (fun _=>bY (vs:=#[.pointer (some ⟨A.hb,0,none⟩),.int .i64 iv,.int .i64 c]) rfl rfl (by k_ne) rfl func139 rfl rfl (by kernel_rfl)) ?_
 rw [Dg]
 subst Mc
 refine cg B qu H6 K5.out T5.out hi mj L8 YX c0 c1 fun aK fJ H' K' T'=> ?_
 have uh:=aH b N h (upd L (N0+i) (.live ⟨us[i].bt,us[i].x,c⟩))
 walk_nrm
 iterate 2 refine B.n ?_
 refine ay.ctl B uh fJ rfl (fun _=>ma) ?_
 refine ay.ctl B uh fJ rfl (fun _=>aZ rfl rfl func124 rfl) ?_
 exact ir.out aK _ _ fJ H' K' T'
def lY (S:Hs) (us:List Od) (i:Nat):Hs × List Od × Bs:=
 match us[i]? with
 |none=>(S,us,[])
 |some u=>if u.k≠0 then (S,us,l8) else match S.back with
  |[]=>(S,us,qB)
  |c::ks=>if gf S<0 then (S,us,KQ) else match S.lines[(gf S).toNat]? with
   |none=>(S,us,[])
   |some x=>(iZ (conn {S with back:=ks} c (gf S).toNat x) S.recs.length (kT {S with back:=ks} c (gf S).toNat) ((i+1:Nat):Int),told us i 1 c,dL++L_ c)
structure Ft (S:Hs):Prop where
 lines:S.lines.length<=1000
 recs:S.recs.length<=90000
 back:∀c∈S.back,0<=c/\c<=1000000
theorem Ly (B:eh p_ C b 0 ae Fin h) (hL:Lay C wl) (H:cQ A va vt S wl) (K:bN C A N0 h us L wl) (hT:aU A wl) (hi:i<us.length) (cK:Ft S)
 (hc:Behind C b N N0 h A va vt ae Fin Post aI aS av aN ak aV cs (lY S us i)):
 ay p_ C b 0 ae Fin Post h (aY b N h L) wl (G ((base 124).at ⟨#[.pointer (some ⟨A.hb,0,none⟩),.int .i64 ((i+1:Nat):Int)]++F_ 41 I',[]⟩ [.code cy]) (aI.at aS (.inRegion av (aN::ak)::aV)::cs)):=by
 obtain ⟨vw,vb,vr,H⟩:=H
 refine RS B hL H K hT hi fun aK fJ H' K' T'=> ?_
 have hu:us[i]?=some us[i]:=G_ hi
 by_cases hk:us[i].k≠0
 ·have hR:lY S us i=(S,us,l8):=by unfold lY;rw [hu];simp only [if_pos hk]
  rw [hR] at hc
  exact Ff B fJ hk (hc aK L fJ ⟨_,_,_,H'⟩ K' T')
 ·have vF:us[i].k=0:=j_ hk
  rw [vF]
  cases hw:S.back with
  |nil=>
   have hR:lY S us i=(S,us,qB):=by unfold lY;rw [hu];simp only [if_neg hk,hw]
   rw [hR] at hc
   exact Ib B fJ H' hw (hc aK L fJ ⟨_,_,_,H'⟩ K' T')
  |cons c ks=>
   have jX:=cK.back c (by rw [hw];simp)
   rcases lX S with hf|⟨l,hl,hf,_⟩
   ·have hR:lY S us i=(S,us,KQ):=by
     unfold lY
     rw [hu]
     simp only [if_neg hk,hw,hf]
     rfl
    rw [hR] at hc
    exact Ie B fJ H' hw cK.lines hf (hc aK L fJ ⟨_,_,_,H'⟩ K' T')
   ·have hn:¬(((l:Nat):Int)<0):=by omega
    have hx:(conn {S with back:=ks} c l S.lines[l]).recs[S.recs.length]'(by simp [conn])=kT {S with back:=ks} c l:=by simp [conn]
    have hR:lY S us i=(iZ (conn {S with back:=ks} c l S.lines[l]) S.recs.length (kT {S with back:=ks} c l) ((i+1:Nat):Int),told us i 1 c,dL++L_ c):=by
     unfold lY
     rw [hu]
     simp only [if_neg hk,hw,hf,if_neg hn,Int.toNat_natCast,G_ hl]
    rw [hR,<-hx] at hc
    exact Ic B fJ H' K' T' hi hw cK.lines cK.recs jX.1 jX.2 hl hf rfl (by simp [conn]) fun Pz qS qb Rt H'' K'' T''=>hc Pz _ Rt ⟨_,_,_,H''⟩ K'' T''
theorem PD (B:eh p_ C b 0 ae Fin h) (hL:Lay C wl) (H:cQ A va vt S wl) (K:bN C A N0 h us L wl) (hT:aU A wl) (cK:rC S) {n:Int} (n0:0<=n) (n1:n<=1000000) (k0:0<=S.clock) (k1:S.clock<=1000000)
 (hc:Behind C b N N0 h A va vt ae Fin Post aI aS av aN ak aV cs ((waited A.P S n).1,us,(waited A.P S n).2)):
 ay p_ C b 0 ae Fin Post h (aY b N h L) wl (G (fZ p_ 125 #[.pointer (some ⟨A.hb,0,none⟩),.int .i64 n] .normal) (aI.at aS (.inRegion av (aN::ak)::aV)::cs)):=by
 have hS:=aH b N h L
 obtain ⟨vw,vb,vr,H⟩:=H
 refine ay.call (ok:=il) B pA hS hL (by kernel_rfl) (by kernel_rfl) fun T d=> ?_
 have H0:=H.heap (w':=wl.re T d) rfl
 have K0:bN C A N0 h us L (wl.re T d):=⟨K.len,K.small,K.live,K.n0,K.ap,K.fo,K.kM,K.cells⟩
 have T0:aU A (wl.re T d):=hT
 refine (IP H0 cK n0 n1 k0 k1 (T0.PO H0) (Fr.refl A _)).mono ?_
 rintro e w' ⟨rfl,H',F'⟩
 refine ⟨_,rfl,fun hcut=> ?_⟩
 rw [Frame.finish_at]
 exact hc w' L ⟨hcut,hL.no⟩ H' (K0.fr H0 F') (T0.fr H0 F')
end
section
open Go Go.Conc Go.aC Go.Proofs
open Go.RowKit hiding Hid
variable {P:U'} {w:J'}
theorem mE (d:Nat) {t e:Q'} {dir:ChanDir} (h:P.underlying t=some (.chan dir e)) (a b:Option Nat):(Op.equalIn (d+1) t (.chan a) (.chan b)).run P w=.ok (a==b) w:=by
 rw [Op.equalIn];simp [run_underlying h]
theorem rY {t e:Q'} {dir:ChanDir} (h:P.underlying t=some (.chan dir e)) (a:Option Nat):(binOp .neq t (.chan a) (.chan none)).run P w=.ok (.bool a.isSome) w:=by
 simp only [binOp]
 simp [Op.equal,Op.maxDepth,mE 9999 h]
 try (cases a<;>rfl)
theorem De {t e:Q'} {dir:ChanDir} (h:P.underlying t=some (.chan dir e)) (a:Option Nat):(binOp .eql t (.chan a) (.chan none)).run P w=.ok (.bool a.isNone) w:=by
 simp only [binOp]
 simp [Op.equal,Op.maxDepth,mE 9999 h]
 try (cases a<;>rfl)
variable {B:Nat} {v:M'} {zs:List Int}
theorem ze (h:w.ownsRow B 3 1 v zs.length (zs.map (ah .i64))) {g cap:Nat} (hv:v=.slice (some ⟨g,0,none⟩) zs.length cap) (j:Nat) (hj:j<zs.length):w.cell? ⟨g,0+j,none⟩=some (.int .i64 (zs.getD j 0)):=by
 rw [hv] at h
 rw [Nat.zero_add,h.cellAt j (by omega)]
 simp [List.getElem?_map,G_ hj,List.getD_eq_getElem?_getD]
theorem nW (h:w.ownsRow B 3 1 v zs.length (zs.map (ah .i64))) (hb:zs.length<=1000000) (x:Int):Calls p_ 127 #[v,.int .i64 x] w fun e w'=>e=.returned (.bool (zs.contains x))/\w'=w:=by
 rcases h.2 with ⟨h0,h1⟩|⟨g,cap,cur,h1,_⟩
 ·have hz:zs=[]:=List.length_eq_zero_iff.1 h1
  subst hz
  rw [h0]
  exact Tryz.slices_Contains_int_empty none 0 x w
 ·have:=Tryz.slices_Contains_int g 0 zs.length cap zs x w (C_ _) (by omega) (fun j hj=>ze h h1 j hj)
  rw [List.take_length] at this
  rw [h1];exact this
theorem Hz (h:w.ownsRow B 3 1 v zs.length (zs.map (ah .i64))) (hb:zs.length<=1000000) (x:Int):Calls p_ 132 #[v,.int .i64 x] w fun e w'=>e=.returned (.int .i64 (Lib.idxOf zs x))/\w'=w:=by
 rcases h.2 with ⟨h0,h1⟩|⟨g,cap,cur,h1,_⟩
 ·have hz:zs=[]:=List.length_eq_zero_iff.1 h1
  subst hz
  rw [h0]
  exact Tryz.slices_Index_int_empty none 0 x w
 ·have:=Tryz.slices_Index_int g 0 zs.length cap zs x w (C_ _) (by omega) (fun j hj=>ze h h1 j hj)
  rw [List.take_length] at this
  rw [h1];exact this
end
section
open Go Go.Conc Go.Conc.Lib Go.ConcR Go.ConcR.Gen Go.aC Go.Proofs
open Go.RowKit hiding Hid
open Go.ConcN (upd upd_ne upd_same)
noncomputable def bF:Code:=f121.body.getD .skip
def tT:Bs:=[107,110,111,119,110]
variable {C:cS} {b N N0 h:Nat} {L:Nat->Of.Os} {us:List Od} {A:Ha} {S:Hs} {vw vb vr va vt:M'} {ae Fin:O'->J'->Prop} {Post:M'->J'->Prop} {wl:J'} {aI:Y'} {aS:Act} {av:Array y_} {aN:Nat} {ak:List Nat} {aV:List x_} {cs:List Y'}
theorem D9 (B:eh p_ C b 0 ae Fin h) (hL:Lay C wl) (H:aQ A S vw vb vr va vt wl) {c pt:Int} (lW:S.back.length<=1000000) (hk:(S.of c).isSome=true\/S.back.contains c=true)
 (hc:ay p_ C b 0 ae Fin Post h (aY b N h L) wl (G (aI.at (aS.put ((av[aN]?).bind (·.dst)) (.string ⟨tT.toArray⟩)) (.inRegion av ak::aV)) cs)):
 ay p_ C b 0 ae Fin Post h (aY b N h L) wl (G ((base 121).at ⟨#[.pointer (some ⟨A.hb,0,none⟩),.int .i64 c,.int .i64 pt]++F_ 77 I',[]⟩ [.code bF]) (aI.at aS (.inRegion av (aN::ak)::aV)::cs)):=by
 have hS:=aH b N h L
 have ea:(#[.pointer (some ⟨A.hb,0,none⟩),.int .i64 c,.int .i64 pt]++F_ 77 I':Array M')=#[.pointer (some ⟨A.hb,0,none⟩),.int .i64 c,.int .i64 pt,I',I',I',I',I',I',I',I',I',I',I',I',I',I',I',I',I',I',I',I',I',I',I',I',I',I',I',I',I',I',I',I',I',I',I',I',I',I',I',I',I',I',I',I',I',I',I',I',I',I',I',I',I',I',I',I',I',I',I',I',I',I',I',I',I',I',I',I',I',I',I',I',I',I',I',I',I']:=by kernel_rfl
 rw [ea]
 have e1:bF=.seq (ai 0 bF) (.seq (ai 1 bF) (az 2 bF)):=by kernel_rfl
 rw [e1]
 refine B.s ?_
 refine B.p (fun T d Bh hB=> ?_)
 simp only [ai,bF,f121,A_]
 go_wp2_with fail
 refine bh hB ?_
 refine B.s ?_
 refine B.p (fun T d Bh hB=> ?_)
 have ir:=aa hc
 have c5:(wl.re T d).cell? ⟨A.hb,5,none⟩=some (.map (some A.m2)):=H.c.2.2.1
 have c8:(wl.re T d).cell? ⟨A.hb,8,none⟩=some vb:=H.c.2.2.2.2.2.1
 have kE:=H.of.heap (w':=wl.re T d) rfl
 have sY:=aa (nW (w:=wl.re T d) (H.heap (w':=wl.re T d) rfl).back lW c)
 have hno:=aa hL.no
 obtain ⟨ab,cb,K8⟩:=aE H.back
 rw [K8] at c8 sY
 clear hc hL H
 simp only [ai,bF,f121,A_]
 cases hx:S.of c with
 |some x=>
  have nT:(binOp .neq 78 (.chan (some x)) (.chan none)).run p_ (wl.re T d)=.ok (.bool true) (wl.re T d):=rY Tryz.underlying78 (some x)
  go_wp2_with (at_lookup;refine cU _ rfl _ _ 72 false rfl pe Tryz.underlying72 A.m2 rfl kE c rfl qQ ?_;simp only [hx,Option.map_some,A_,qp,if_false])
  subst hB
  intro hcut todo
  have jv:Lay C (wl.re T d):=⟨hcut,hno.out⟩
  refine ay.ctl B hS jv rfl (fun _=>aZ rfl rfl func121 rfl) ?_
  exact ir.out.re T d
 |none=>
  have nT:(binOp .neq 78 (.chan none) (.chan none)).run p_ (wl.re T d)=.ok (.bool false) (wl.re T d):=rY Tryz.underlying78 none
  have yL:S.back.contains c=true:=by rcases hk with h|h;rw [hx] at h;cases h;exact h
  rw [yL] at sY
  go_wp2_with (at_lookup;refine cU _ rfl _ _ 72 false rfl pe Tryz.underlying72 A.m2 rfl kE c rfl qQ ?_;simp only [hx,Option.map_none,Option.getD_none,qp,if_false])
  refine sY.out.mono ?_
  rintro e w2 ⟨rfl,rfl⟩
  go_wp2_with fail
  subst hB
  intro hcut todo
  have jv:Lay C (wl.re T d):=⟨hcut,hno.out⟩
  refine ay.ctl B hS jv rfl (fun _=>aZ rfl rfl func121 rfl) ?_
  exact ir.out.re T d
end
end Go.aC.Of
