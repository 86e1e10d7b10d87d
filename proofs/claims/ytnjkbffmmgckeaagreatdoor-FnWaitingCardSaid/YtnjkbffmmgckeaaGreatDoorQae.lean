/-
  runHall, whole.
-/
import Derived.Below
import Derived.StillTailTactics
import Derived.Test.YtnjkbffmmgckeaaGreatDoorQaa
import Derived.Test.YtnjkbffmmgckeaaGreatDoorQab
import Derived.Test.YtnjkbffmmgckeaaGreatDoorQac
import Derived.Test.YtnjkbffmmgckeaaGreatDoorQad
set_option linter.all false
set_option maxRecDepth 100000
set_option maxHeartbeats 32000000
open Go renaming undef->I',World->J',Value->M',TypeId->Q',execOp->V',heap_alloc_new->Z',heap_setCell_other->a_,Calls->d_,Addr->z_
open Go.RowKit renaming Hid->f_,Below->g_
open Go.RowKit.Below renaming refl->h_
open Option renaming getD_some->A_
open Go.World renaming size_alloc->B_,cell?_of_block->J_,grownBy_alloc->N_,size_setCell->o_
open Nat renaming le_refl->C_,le_trans->D_,lt_of_lt_of_le->E_,zero_le->nz
open List renaming getElem?_eq_getElem->G_,length_append->K_,length_take->Q_,mem_cons->R_,map_cons->S_,take_succ_eq_append_getElem->sC
open Go.Lib renaming itoa->L_
open Option.some renaming inj->M_,injEq->n_
open Bool renaming and_eq_true->T_
open Go.Proofs.Tryz renaming prog->p_
open Array renaming getD_eq_getD_getElem?->r_
open Go.Value renaming int->ah,slice->mN
open Go.Obj renaming cells->jY
open Ne renaming symm->ru
open Go.Proofs.Tryz
namespace Go.aC.Of
section
open Go Go.Conc Go.Conc.Lib Go.ConcR Go.ConcR.Gen Go.aC Go.Proofs
open Go.RowKit hiding Hid
open Go.ConcN (upd upd_ne upd_same)
def Ev.good (m:Nat):Ev->Prop
 | .ring c pt=>(1<=c/\c<=99)/\0<=pt/\pt<=9
 | .hang c=>1<=c/\c<=99
 | .answer i=>i<m
 | .back i=>i<m
 | .wait n=>1<=n/\n<=60
theorem IV {r:Raw} {m:Int} (h:bu r m=true):∃e:Ev,e.raw=r/\e.good m.toNat:=by
 obtain ⟨k,who,word⟩:=r
 unfold bu at h
 split at h
 ·cases h
 split at h
 ·cases h
 split at h
 ·cases h
 simp only at *
 split at h
 ·rename_i hk
  subst hk
  simp only [T_,decide_eq_true_eq] at h
  exact ⟨.ring who word,rfl,⟨by omega,by omega⟩,by omega,by omega⟩
 split at h
 ·rename_i hk
  subst hk
  simp only [T_,decide_eq_true_eq,beq_iff_eq] at h
  obtain ⟨h1,rfl⟩:=h
  exact ⟨.hang who,rfl,by omega,by omega⟩
 split at h
 ·rename_i hk
  simp only [T_,decide_eq_true_eq,beq_iff_eq] at h
  obtain ⟨h1,rfl⟩:=h
  have he:(((who - 1).toNat+1:Nat):Int)=who:=by omega
  rcases hk with rfl|rfl
  ·exact ⟨.answer (who - 1).toNat,by show (⟨_,_,_⟩:Raw)=_;rw [show Ev.who (.answer (who - 1).toNat)=_ from he];rfl,by show _<_;omega⟩
  ·exact ⟨.back (who - 1).toNat,by show (⟨_,_,_⟩:Raw)=_;rw [show Ev.who (.back (who - 1).toNat)=_ from he];rfl,by show _<_;omega⟩
 split at h
 ·rename_i hk
  subst hk
  simp only [T_,decide_eq_true_eq,beq_iff_eq] at h
  obtain ⟨h1,rfl⟩:=h
  exact ⟨.wait who,rfl,by omega,by omega⟩
 ·cases h
theorem s8 {rs:List Raw} {m:Int} (h:rs.all (fun r=>bu r m)=true):∃evs:List Ev,rs=evs.map Ev.raw/\∀e∈evs,e.good m.toNat:=by
 induction rs with
 |nil=>exact ⟨[],rfl,fun e he=>by cases he⟩
 |cons r rs ih=>
  rw [List.all_cons,T_] at h
  obtain ⟨e,h1,h2⟩:=IV h.1
  obtain ⟨evs,h3,h4⟩:=ih h.2
  exact ⟨e::evs,by rw [S_,h1,<-h3],fun x hx=>by
   rcases List.mem_cons.1 hx with rfl|hx
   ·exact h2
   ·exact h4 x hx⟩
theorem NJ {p q:M'}:Frame.enter p_ 45 #[p,q] .normal=(base 45).at ⟨#[p,q]++Array.replicate 71 I',[]⟩ [.code bz]:=by kernel_rfl
def Bf (P:Int) (ls:List Nat) (us:List Od) (evs:List Ev):Hs:={(eC P (LK ls,us) evs).1 with cg:=(eC P (LK ls,us) evs).2.map (·.k)}
def SQ (w w':J'):Prop:=∀(g:Nat) (cs:Array M') (e:Q') (f:Nat × Nat),w.heap[g]?=some (jY cs e f)->w'.heap[g]?=some (jY cs e f)
def GG (P:Int) (ls:List Nat) (us:List Od) (evs:List Ev):Prop:=Dr P (LK ls,us) evs/\(eC P (LK ls,us) evs).2.length<=999/\(eC P (LK ls,us) evs).1.cg=[]
variable {oa:cS} {b o:Nat} {Post:M'->J'->Prop} {Bd:Nat} {wl:J'} {aI:Frame} {aS:Act} {av:Array Oper} {aN:Nat} {sg:List Nat} {aV:List Item} {cs:List Frame} {fG O P:Int} {ea:Option z_} {ec:Nat} {rs:List Raw}
theorem FE (hL:Lay oa wl) (hlen:rs.length<=1048576) (bR:fF wl ea rs) (sr:qO wl) (SI:Bd<1000000000)
 (oF:(dw fG O P&&decide (rs.length<=60)&&rs.all (fun r=>bu r O))=false->∀aK,Lay oa aK->dI wl aK->Can p_ oa b o Post 0 (db Bd) aK (G (aI.at (aS.put ((av[aN]?).bind (·.dst)) (.pointer none)) (.inRegion av sg::aV)) cs))
 (J9:∀evs ls us,rs=evs.map Ev.raw->dw fG O P=true->evs.length<=60->(∀e∈evs,e.good O.toNat)->ls.Nodup->(ls.length:Int)=fG->(us.length:Int)=O->(∀u∈us,Od.k u=0)->GG P ls us evs/\
  ∀C' bw A va vt aK,Lay C' aK->cQ A va vt (Bf P ls us evs) aK->SQ wl aK->wl.heap.size<=A.hb->wl.heap.size<=aK.heap.size->Can p_ C' bw 0 Post 0 (db (Bd+5)) aK (G (aI.at (aS.put ((av[aN]?).bind (·.dst)) (.pointer (some ⟨A.hb,0,none⟩))) (.inRegion av sg::aV)) cs)):
 Can p_ oa b o Post 0 (db Bd) wl (G (Frame.enter p_ 45 #[.agg #[.int .i64 fG,.int .i64 O,.int .i64 P],.slice ea rs.length ec] .normal) (aI.at aS (.inRegion av (aN::sg)::aV)::cs)):=by
 rw [NJ]
 refine P1 hL hlen (fun hb aK fJ k=>oF (by rw [hb];rfl) aK fJ k) fun cK OZ w1 g1 g2 z0 z1 z2 z3 z4 z5 z6 z7 nU k1 x1 x2 l1 l2 l3=> ?_
 refine PZ nU OZ (bR.keep k1) x1 x2 (fun hb aK fJ k=>oF (by rw [hb,Bool.and_false]) aK fJ (k1.trans k)) fun eU w2 z0 z1 z2 z3 z4 z5 z6 z7 z8 z9 dB cZ z12 de dn dm dk dj dA dz z20 du k2=> ?_
 have ho:(1<=fG/\fG<=6)/\(1<=O/\O<=4)/\1<=P/\P<=60:=by
  simp only [dw,T_,decide_eq_true_eq] at cK
  obtain ⟨⟨h1,h2⟩,h3⟩:=cK
  omega
 obtain ⟨⟨p1,p2⟩,⟨p3,p4⟩,p5⟩:=ho
 have kk:=k1.trans k2
 have y1:=k2.blk _ _ x1
 have y2:=k2.blk _ _ x2
 refine Jk du y1 p1 p2 fun w3 X ls vl bw z0 z1 z2 z3 z4 z5 z6 z7 z8 z9 dB cZ z12 de dn dm dk dj dA dz z20 z21 z22 z23 z24 z25 z26 dD z28 dC dM z31 dQ dK dP dO dV z37 ey ew z40 eu eL eO eP gA b3 Ma CV lbw sbw=> ?_
 have sz3:w3.heap.size=(oH w3 bw #[] 108).heap.size:=by simp [oH]
 refine Can.NH (b':=bw) (o':=0) (Rn:=fun N=>pI bw N (fun _=>.gone)) gA ⟨(cell_of_block CV rfl).1,(cell_of_block CV rfl).1,(cell_of_block CV rfl).2,(cell_of_block CV rfl).2⟩ (fun w hw=>IL CV (cs:=#[]) (by simp) (fun k hk=>by simp at hk) hw) (fun tC U aDl hs=>⟨by simp only [oH,Array.size_setIfInBounds];exact hs.size,fun b o hb ho=>hs.obj b o hb (by rw [Bm (by omega)] at ho;exact ho)⟩) (fun N rel ρ h0 _ hA su=>Ax h0 hA su) ?_
 intro N hN Z7
 have qv:=JP (N:=N) CV gA
 have b4:jz w2 X ls [] vl (.slice none 0 0) (oH w3 bw #[] 108):=b3.turn (fun k hk=>Bm hk) sz3.symm rfl rfl lbw CV (by decide) (by decide) (by decide) (by simp [Value.ownBlock])
 have K4:LL (oa.anew N (Mo bw 0) True ⟨bw,0,none⟩) N [] (fun _=>.gone) (.slice none 0 0) w2 (oH w3 bw #[] 108):=
  ⟨fun i hi=>absurd hi (Nat.not_lt_zero _),(fun j v _ hv=>by cases hv),(fun i j u v _ _ _ hu=>by cases hu),⟨trivial,(fun g l h=>h),(fun j u _ hu=>by cases hu)⟩,fun i hi=>absurd hi (Nat.not_lt_zero _),fun i hi=>absurd hi (Nat.not_lt_zero _),fun i hi=>absurd hi (Nat.not_lt_zero _)⟩
 generalize oH w3 bw #[] 108=w4 at *
 generalize oa.anew N (Mo bw 0) True ⟨bw,0,none⟩=C4 at *
 have hS:=iS bw N (fun _=>.gone)
 have e1:az 6 bz=.seq (.seq (ai 0 (ai 6 bz)) (.block 4 (.loop oI))) (az 7 bz):=by kernel_rfl
 rw [e1]
 refine hS.steady.s qv ?_
 refine hS.steady.s qv ?_
 have cO:w4.cell? ⟨g1,1,none⟩=some (.int .i64 O):=by
  have hlt:=(cI y1)
  rw [J_ (b4.old.block g1 hlt (by simp)),cV y1];rfl
 generalize hX:[Item.code (Code.block 4 (.loop oI)),Item.code (az 7 bz)]=X0
 simp only [ai,bz,f45,A_]
 refine Can.ctl hS.steady qv rfl (fun _=>zb) ?_
 refine Can.op (ok:=il) hS.steady qv rfl rfl (by k_ne) (by kernel_rfl) (fun T d=>⟨.pointer (some ⟨g1,1,none⟩),w4.re T d, ?_,fun _=>Can.re ?_ T d⟩)
 ·go_simp
 walk_nrm
 refine Can.op (ok:=il) hS.steady qv rfl rfl (by k_ne) (by kernel_rfl) (fun T d=>⟨.int .i64 O,w4.re T d, ?_,fun _=>Can.re ?_ T d⟩)
 ·have h0:(w4.re T d).cell? ⟨g1,1,none⟩=some (.int .i64 O):=cO
  go_simp
 walk_nrm
 refine Can.op (ok:=il) hS.steady qv rfl rfl (by k_ne) (by kernel_rfl) (fun T d=>⟨.int .i64 ((0:Nat):Int),w4.re T d, ?_,fun _=>Can.re ?_ T d⟩)
 ·go_simp
 walk_nrm
 refine Can.ctl hS.steady qv rfl (fun _=>stepG_region_end) ?_
 subst hX
 refine Can.ctl hS.steady qv rfl (fun _=>stepG_block) ?_
 refine Can.ctl hS.steady qv rfl (fun _=>stepG_loop) ?_
 refine P0 (N0:=N) (W0:=w2) (X:=X) (ls:=ls) (vl:=vl) (wl:=w4) p3 p4 hN (by omega) (fun _=>trivial) ?_ O.toNat 0 (by omega) (by omega) C4 [] (fun _=>.gone) w4 _ _ _ _ _ _ _ _ _ _ _ _ _ _ _ _ _ _ _ _ _ _ _ _ _ _ _ _ _ _ _ _ _ _ _ _ _ _ _ _ _ _ _ _ _ _ _ _ _ _ _ _ _ _ _ _ _ _ _ _ _ _ _ _ _ _ _ (.slice none 0 0) rfl qv b4 K4
 intro C5 w5 L5 us vo z0 z1 z2 z3 z4 z5 z6 z7 z8 z9 dB cZ z12 de dn dm dk dj dA dz z20 z21 z22 z23 z24 z25 z26 dD z28 dC dM z31 dQ dK dP dO dV z37 ey ew z40 eu eK eJ eI eH z46 eQ eN z49 en z51 iu z53 iF iE iD iC iB z59 nv nu np nk sW sV rH rG rF hus qu b5 K5
 obtain ⟨evs,EP,Q4⟩:=s8 eU
 have UC:evs.length=rs.length:=by rw [EP,List.length_map]
 have hkz:∀u∈us,Od.k u=0:=fun u hu=>by
  obtain ⟨i,hi,rfl⟩:=List.getElem_of_mem hu
  exact K5.kz i hi
 obtain ⟨⟨hrun,wi,hrt⟩,lI⟩:=J9 evs ls us EP cK (by omega) Q4 b5.nd Ma hus hkz
 have T9:qO w2:=by
  obtain ⟨g,cs',e,f,t1,t2,t3⟩:=sr
  exact ⟨g,cs',e,f,t1,kk.blk _ _ t2,t3⟩
 obtain ⟨A,a1,a2,a3,a4,a5,a6,a7,a8,H5,C5',T5⟩:=LB b5 K5 (by omega) (by omega) (by omega) hN T9
 have old:∀(r:Nat) (ob:Obj),w2.heap[r]?=some ob->w5.heap[r]?=some ob:=fun r ob hr=>by
  rw [b5.old.block r (cI hr) (by simp)];exact hr
 have Ow:w2.heap.size<=A.hb:=by rw [a1];exact b5.low.1
 have uJ:fF w2 ea (evs.map Ev.raw):=by rw [<-EP];exact bR.keep kk
 have OC:=b5.hv
 rw [<-a1] at OC
 have YN:X.hv≠A.hb:=fun e=>by rw [e,a1,b5.box] at OC;simp at OC
 have g2l:=(cI y2)
 have y5:=old _ _ y2
 rw [<-UC] at y5
 have aP:A.P=P:=a4.trans eP
 refine MA (Bd:=Bd+5) (A:=A) (us:=us) (L:=L5) (hv:=X.hv) (evs:=evs) (ea:=ea) (ec:=ec) qu H5 C5' T5 hN (by omega) (by omega) (by rw [a6];exact OC) (by rw [a5];exact (cI OC)) YN (by rw [a6];exact y5) (by rw [a5];exact (cI y5)) (by omega) (La a5 a6 Ow old uJ) (by omega) (by rw [aP];exact hrun) (by rw [aP];exact wi) (by rw [aP];exact hrt) fun w6 va6 vt6 Iz H6 T6=> ?_
 rw [aP] at H6
 refine lI C5 bw A va6 vt6 w6 Iz H6 (fun g cs' e f hg=> ?_) (D_ kk.size Ow) ?_
 ·have h2:=kk.blk _ _ hg
  have h5:=old _ _ h2
  exact T6.2.2 g _ _ _ (by rw [a5];exact (cI h5)) (by have:=(cI h2);omega) (by rw [a6];exact h5)
 ·obtain ⟨_,_,_,H6'⟩:=H6
  have:=H6'.big
  rw [a7] at this
  have h1:=b5.old.size
  have h2:=kk.size
  omega
end
section
open Go
structure Rm where
 recs:List Rec
 wait:List (Int × Int)
 back:List (Int × Int)
 clock:Int
 log:List Bs
def isOpen (r:Rec):Bool:=decide (r.fin=eR)
def dE (rs:List Rec) (c:Int):Option Nat:=rs.findIdx? fun r=>decide (r.call=c)&&isOpen r
def ez (rs:List Rec) (op:Int):Int:=match rs.find? (fun r=>decide (r.op=op)&&isOpen r) with|some r=>r.call|none=>0
def lM (rs:List Rec) (l:Int):Bool:=rs.any fun r=>decide (r.line=l)&&isOpen r
def AD (nl:Nat) (rs:List Rec):List Int:=((List.range nl).map fun i=>((i+1:Nat):Int)).filter fun l=> !lM rs l
def jJ (m:Rm) (i:Nat) (e:Bs):Rm:=match m.recs[i]? with
 |none=>m
 |some r=>{m with recs:=m.recs.set i {r with wI:=m.clock,fin:=e},wait:=aJ m.wait r.call}
def im (m:Rm) (c:Int):Bool:=m.back.any fun p=>decide (p.1=c)
def kS (nl:Nat) (m:Rm) (c pt:Int):Rm × Bs:=
 if (dE m.recs c).isSome||im m c then (m,tT) else match AD nl m.recs with
  |[]=>({m with back:=m.back++[(c,pt)]},KQ)
  |l::_=>({m with recs:=m.recs++[⟨c,l,0,m.clock, -1, -1,eR⟩],wait:=gY m.wait (placeOf m.wait pt) (c,pt)},jj++L_ l)
def hZ (m:Rm) (op:Int):Rm × Bs:=
 if ez m.recs op>0 then (m,l8) else match m.wait with
  |[]=>(m,qB)
  |p::_=>match dE m.recs p.1 with
   |none=>(m,[])
   |some i=>match m.recs[i]? with
    |none=>(m,[])
    |some r=>({m with recs:=m.recs.set i {r with op:=op,heard:=m.clock},wait:=aJ m.wait p.1},dL++L_ p.1)
def lD (nl:Nat) (m:Rm) (op:Int):Rm × Bs:=
 if ez m.recs op>0 then (m,l8) else match m.back with
  |[]=>(m,qB)
  |p::_=>match AD nl m.recs with
   |[]=>(m,KQ)
   |l::_=>({m with back:=aJ m.back p.1,recs:=m.recs++[⟨p.1,l,op,m.clock,m.clock, -1,eR⟩]},dL++L_ p.1)
def lv (m:Rm) (c:Int):Rm × Bs:=
 match dE m.recs c with
 |some i=>match m.recs[i]? with
  |none=>(m,[])
  |some r=>if r.op>0 then (jJ m i iy,iy) else (jJ m i ie,ie)
 |none=>if im m c then ({m with back:=aJ m.back c},JC) else (m,Da)
def fB (P:Int) (q:Rm × Bs) (p:Int × Int):Rm × Bs:=match dE q.1.recs p.1 with
 |none=>q
 |some i=>match q.1.recs[i]? with
  |none=>q
  |some r=>if q.1.clock - r.jy>=P then ({jJ q.1 i eT with back:=q.1.back++[p]},q.2++(32::L_ p.1)) else q
def mB (P:Int) (m:Rm) (n:Int):Rm × Bs:=m.wait.foldl (fB P) ({m with clock:=m.clock+n},rI++L_ (m.clock+n))
def qy (nl:Nat) (P:Int) (m:Rm):Ev->Rm × Bs
 | .ring c pt=>kS nl m c pt
 | .hang c=>lv m c
 | .answer i=>hZ m ((i+1:Nat):Int)
 | .back i=>lD nl m ((i+1:Nat):Int)
 | .wait n=>mB P m n
def Ca (nl:Nat) (P:Int) (m:Rm) (e:Ev):Rm:={(qy nl P m e).1 with log:=(qy nl P m e).1.log++[(qy nl P m e).2]}
def ja (nl:Nat) (P:Int) (evs:List Ev):Rm:=evs.foldl (Ca nl P) ⟨[],[],[],0,[]⟩
def iA (rs:List Rec) (i:Nat) (r:Rec):Prop:=rs[i]?=some r/\r.fin=eR
variable {rs:List Rec} {i j:Nat} {r':Rec}
theorem iA.set {r0:Rec} (h:rs[i]?=some r0) {s:Rec}:iA (rs.set i r') j s↔(j=i/\s=r'/\s.fin=eR)\/(j≠i/\iA rs j s):=by
 have hlt:=(List.getElem?_eq_some_iff.1 h).1
 unfold iA
 rw [List.getElem?_set]
 by_cases e:i=j
 ·subst e
  simp only [if_true,hlt,n_,ne_eq,not_true_eq_false,false_and,or_false,true_and]
  constructor
  ·rintro ⟨rfl,h⟩;exact ⟨rfl,h⟩
  ·rintro ⟨rfl,h⟩;exact ⟨rfl,h⟩
 ·have e':¬j=i:=fun h=>e h.symm
  simp only [e,if_false,e',false_and,ne_eq,not_false_eq_true,true_and,false_or]
theorem iA.app {s:Rec}:iA (rs++[r']) j s↔iA rs j s\/(j=rs.length/\s=r'/\s.fin=eR):=by
 unfold iA
 rw [List.getElem?_append]
 by_cases e:j<rs.length
 ·rw [if_pos e]
  constructor
  ·exact .inl
  ·rintro (h|⟨rfl,_⟩)
   ·exact h
   ·exact absurd e (Nat.lt_irrefl _)
 ·rw [if_neg e]
  have hn:rs[j]?=none:=List.getElem?_eq_none (by omega)
  rw [hn]
  by_cases e2:j=rs.length
  ·subst e2
   simp only [Nat.sub_self,List.getElem?_cons_zero,n_,true_and]
   constructor
   ·rintro ⟨rfl,h⟩;exact .inr ⟨rfl,h⟩
   ·rintro (⟨h,_⟩|⟨rfl,h⟩)
    ·cases h
    ·exact ⟨rfl,h⟩
  ·have:([r']:List Rec)[j - rs.length]?=none:=List.getElem?_eq_none (by simp;omega)
   rw [this]
   constructor
   ·rintro ⟨h,_⟩;cases h
   ·rintro (⟨h,_⟩|⟨h,_⟩)
    ·cases h
    ·exact absurd h e2
structure LP (nl no:Nat) (rs:List Rec):Prop where
 qM:∀(i j:Nat) (r s:Rec),iA rs i r->iA rs j s->r.call=s.call->i=j
 FK:∀(i j:Nat) (r s:Rec),iA rs i r->iA rs j s->r.line=s.line->i=j
 TG:∀(i j:Nat) (r s:Rec),iA rs i r->iA rs j s->r.op=s.op->r.op≠0->i=j
 G8:∀(i:Nat) (r:Rec),rs[i]?=some r->(1<=r.line/\r.line<=(nl:Int))/\(0<=r.op/\r.op<=(no:Int))/\1<=r.call/\r.call<=99
variable {nl no:Nat}
theorem kX (g:LP nl no rs) {c:Int} {r:Rec} (h:iA rs i r) (hc:r.call=c):dE rs c=some i:=by
 unfold dE
 rw [List.findIdx?_eq_some_iff_getElem]
 obtain ⟨hlt,e⟩:=List.getElem?_eq_some_iff.1 h.1
 refine ⟨hlt,by rw [e];simp [isOpen,hc,h.2],fun j hj hp=> ?_⟩
 simp only [T_,decide_eq_true_eq,isOpen] at hp
 have:=g.qM j i rs[j] r ⟨G_ _,hp.2⟩ h (by rw [hp.1,hc])
 omega
theorem wT {c:Int} (h:dE rs c=some i):∃r,iA rs i r/\r.call=c:=by
 unfold dE at h
 obtain ⟨hlt,hp,_⟩:=List.findIdx?_eq_some_iff_getElem.1 h
 simp only [T_,decide_eq_true_eq,isOpen] at hp
 exact ⟨rs[i],⟨G_ _,hp.2⟩,hp.1⟩
theorem Ej {c:Int} (h:dE rs c=none):∀i r,iA rs i r->r.call≠c:=by
 intro i r hr hc
 unfold dE at h
 rw [List.findIdx?_eq_none_iff] at h
 have:=h r (List.mem_iff_getElem?.2 ⟨i,hr.1⟩)
 simp [isOpen,hc,hr.2] at this
theorem uy {c:Int} (h:∀i r,iA rs i r->r.call≠c):dE rs c=none:=by
 cases hx:dE rs c with
 |none=>rfl
 |some i=>obtain ⟨r,h1,h2⟩:=wT hx;exact absurd h2 (h i r h1)
theorem BV (g:LP nl no rs) {op:Int} (h0:op≠0) {r:Rec} (h:iA rs i r) (ho:r.op=op):ez rs op=r.call:=by
 unfold ez
 have:rs.find? (fun r=>decide (r.op=op)&&isOpen r)=some r:=by
  rw [List.find?_eq_some_iff_getElem]
  obtain ⟨hlt,e⟩:=List.getElem?_eq_some_iff.1 h.1
  refine ⟨by simp [isOpen,ho,h.2],i,hlt,e,fun j hj=> ?_⟩
  cases hp:(decide ((rs[j]).op=op)&&isOpen rs[j]) with
  |false=>rfl
  |true=>
   simp only [T_,decide_eq_true_eq,isOpen] at hp
   have:=g.TG j i rs[j] r ⟨G_ _,hp.2⟩ h (by rw [hp.1,ho]) (by rw [hp.1];exact h0)
   omega
 rw [this]
theorem BW {op:Int} (h:∀i r,iA rs i r->r.op≠op):ez rs op=0:=by
 unfold ez
 have:rs.find? (fun r=>decide (r.op=op)&&isOpen r)=none:=by
  rw [List.find?_eq_none]
  intro r hr hp
  simp only [T_,decide_eq_true_eq,isOpen] at hp
  obtain ⟨i,hi⟩:=List.mem_iff_getElem?.1 hr
  exact h i r ⟨hi,hp.2⟩ hp.1
 rw [this]
variable {l:Int}
theorem GR:lM rs l=true↔∃i r,iA rs i r/\r.line=l:=by
 unfold lM
 rw [List.any_eq_true]
 constructor
 ·rintro ⟨r,hr,hp⟩
  simp only [T_,decide_eq_true_eq,isOpen] at hp
  obtain ⟨i,hi⟩:=List.mem_iff_getElem?.1 hr
  exact ⟨i,r,⟨hi,hp.2⟩,hp.1⟩
 ·rintro ⟨i,r,h,hl⟩
  exact ⟨r,List.mem_iff_getElem?.2 ⟨i,h.1⟩,by simp [isOpen,hl,h.2]⟩
structure Rel (nl no n:Nat) (S:Hs) (us:List Od) (m:Rm):Prop where
 good:LP nl no m.recs
 recs:S.recs=m.recs
 clock:S.clock=m.clock
 wait:S.wait=m.wait
 back:S.back=m.back.map (·.1)
 log:S.log=m.log
 cg:S.cg=[]
 ll:S.lines.length=nl
 nd:S.lines.Nodup
 ul:us.length=no
 JE:∀c x,S.of c=some x->∃i r,iA m.recs i r/\r.call=c/\S.lines[(r.line - 1).toNat]?=some x/\S.rc c=some i
 MQ:∀i r,iA m.recs i r->∃x,S.of r.call=some x
 Oq:∀x c,S.on x=some c->∃i r,iA m.recs i r/\r.call=c/\S.lines[(r.line - 1).toNat]?=some x
 MN:∀i r x,iA m.recs i r->S.lines[(r.line - 1).toNat]?=some x->S.on x=some r.call
 LY:∀q u i r,us[q]?=some u->iA m.recs i r->r.op=((q+1:Nat):Int)->u.k=r.call
 MV:∀q u,us[q]?=some u->u.k≠0->∃i r,iA m.recs i r/\r.op=((q+1:Nat):Int)
 w0:(m.wait.map (·.1)).Nodup
 w1:∀p,p∈m.wait->∃i r,iA m.recs i r/\r.call=p.1/\r.op=0
 w2:∀i r,iA m.recs i r->r.op=0->r.call∈m.wait.map (·.1)
 b0:(m.back.map (·.1)).Nodup
 b1:∀p,p∈m.back->∀i r,iA m.recs i r->r.call≠p.1
 b2:∀p,p∈m.back->1<=p.1/\p.1<=99
 jy:∀(i:Nat) (r:Rec),m.recs[i]?=some r->0<=r.jy/\r.jy<=m.clock
 cl:0<=m.clock
 n1:m.recs.length<=n
 n2:m.wait.length+m.back.length<=n
 n4:m.clock<=60 * (n:Int)
theorem iA.one {r s:Rec} (h:iA rs i r) (k:iA rs i s):r=s:=M_ (h.1.symm.trans k.1)
variable {n:Nat} {S:Hs} {us yW:List Od} {m:Rm} {w' b':List (Int × Int)}
theorem Rel.close (R:Rel nl no n S us m) {r:Rec} (h:iA m.recs i r) {q:Bs} (hq:q≠eR) {x:Nat} (hx:S.lines[(r.line - 1).toNat]?=some x)
 (hu:yW.length=us.length) (hk:∀(k:Nat) (u:Od),yW[k]?=some u->(r.op=((k+1:Nat):Int)/\u.k=0)\/(r.op≠((k+1:Nat):Int)/\us[k]?=some u))
 (w0:(w'.map (·.1)).Nodup) (w1:∀p,p∈w'->p∈m.wait/\p.1≠r.call) (w2:∀p,p∈m.wait->p.1≠r.call->p∈w')
 (b0:(b'.map (·.1)).Nodup) (b1:∀p,p∈b'->p∈m.back\/p.1=r.call) (nn:w'.length+b'.length<=n):
 Rel nl no n {uk S r.call x i r q with wait:=w',back:=b'.map (·.1)} yW {m with recs:=m.recs.set i {r with wI:=m.clock,fin:=q},wait:=w',back:=b'}:=by
 have ho:∀{j:Nat} {s:Rec},iA (m.recs.set i {r with wI:=m.clock,fin:=q}) j s↔j≠i/\iA m.recs j s:=by
  intro j s
  rw [iA.set h.1]
  constructor
  ·rintro (⟨_,rfl,h3⟩|h)
   ·exact absurd h3 hq
   ·exact h
  ·exact .inr
 have Nr:∀{j:Nat} {s:Rec},(m.recs.set i {r with wI:=m.clock,fin:=q})[j]?=some s->(s={r with wI:=m.clock,fin:=q})\/m.recs[j]?=some s:=by
  intro j s hs
  rw [List.getElem?_set] at hs
  split at hs
  ·split at hs
   ·exact .inl (M_ hs).symm
   ·cases hs
  ·exact .inr hs
 have QV:=R.good.G8 i r h.1
 refine ⟨⟨?_, ?_, ?_, ?_⟩, ?_,R.clock,rfl,rfl,R.log,R.cg,R.ll,R.nd,hu.trans R.ul, ?_, ?_, ?_, ?_, ?_, ?_,w0, ?_, ?_,b0, ?_, ?_, ?_,R.cl, ?_,nn,R.n4⟩
 ·intro a b s t hs ht;exact R.good.qM a b s t (ho.1 hs).2 (ho.1 ht).2
 ·intro a b s t hs ht;exact R.good.FK a b s t (ho.1 hs).2 (ho.1 ht).2
 ·intro a b s t hs ht;exact R.good.TG a b s t (ho.1 hs).2 (ho.1 ht).2
 ·intro a s hs
  rcases Nr hs with rfl|hs
  ·exact QV
  ·exact R.good.G8 a s hs
 ·show S.recs.set i {r with wI:=S.clock,fin:=q}=_
  rw [R.recs,R.clock]
 ·intro c y hy
  have pg:(if c=r.call then none else S.of c)=some y:=hy
  split at pg
  ·cases pg
  ·rename_i hne
   obtain ⟨j,s,h1,h2,h3,h4⟩:=R.JE c y pg
   refine ⟨j,s,ho.2 ⟨fun e=> ?_,h1⟩,h2,h3,h4⟩
   subst e
   exact hne (by rw [<-h2,iA.one h h1])
 ·intro j s hs
  obtain ⟨y,hy⟩:=R.MQ j s (ho.1 hs).2
  refine ⟨y, ?_⟩
  show (if s.call=r.call then none else S.of s.call)=some y
  rw [if_neg fun e=>(ho.1 hs).1 (R.good.qM j i s r (ho.1 hs).2 h e)]
  exact hy
 ·intro y c hy
  have pg:(if y=x then none else S.on y)=some c:=hy
  split at pg
  ·cases pg
  ·rename_i hne
   obtain ⟨j,s,h1,h2,h3⟩:=R.Oq y c pg
   refine ⟨j,s,ho.2 ⟨fun e=> ?_,h1⟩,h2,h3⟩
   subst e
   obtain rfl:=iA.one h h1
   rw [hx] at h3
   exact hne (M_ h3).symm
 ·intro j s y hs hy
  have pg:S.lines[(s.line - 1).toNat]?=some y:=hy
  show (if y=x then none else S.on y)=some s.call
  have hne:y≠x:=fun e=>by
   subst e
   have h1:=R.good.G8 j s (ho.1 hs).2.1
   have e2:=(List.getElem?_inj (List.getElem?_eq_some_iff.1 hx).1 R.nd).1 (hx.trans pg.symm)
   exact (ho.1 hs).1 (R.good.FK j i s r (ho.1 hs).2 h (by omega))
  rw [if_neg hne]
  exact R.MN j s y (ho.1 hs).2 pg
 ·intro k u j s HE hs hop
  rcases hk k u HE with ⟨h1,_⟩|⟨_,h2⟩
  ·exact absurd (R.good.TG j i s r (ho.1 hs).2 h (by rw [hop,h1]) (by rw [hop];omega)) (ho.1 hs).1
  ·exact R.LY k u j s h2 (ho.1 hs).2 hop
 ·intro k u HE h0
  rcases hk k u HE with ⟨_,h1⟩|⟨h1,h2⟩
  ·exact absurd h1 h0
  ·obtain ⟨j,s,h3,h4⟩:=R.MV k u h2 h0
   refine ⟨j,s,ho.2 ⟨fun e=> ?_,h3⟩,h4⟩
   subst e
   obtain rfl:=iA.one h h3
   exact h1 h4
 ·intro p hp
  obtain ⟨h1,h2⟩:=w1 p hp
  obtain ⟨j,s,h3,h4,h5⟩:=R.w1 p h1
  refine ⟨j,s,ho.2 ⟨fun e=> ?_,h3⟩,h4,h5⟩
  subst e
  exact h2 (by rw [<-h4,iA.one h h3])
 ·intro j s hs h0
  obtain ⟨p,hp,e⟩:=List.mem_map.1 (R.w2 j s (ho.1 hs).2 h0)
  exact List.mem_map.2 ⟨p,w2 p hp (fun e2=>(ho.1 hs).1 (R.good.qM j i s r (ho.1 hs).2 h (e.symm.trans e2))),e⟩
 ·intro p hp j s hs
  rcases b1 p hp with h1|h1
  ·exact R.b1 p h1 j s (ho.1 hs).2
  ·exact fun e=>(ho.1 hs).1 (R.good.qM j i s r (ho.1 hs).2 h (e.trans h1))
 ·intro p hp
  rcases b1 p hp with h1|h1
  ·exact R.b2 p h1
  ·rw [h1];exact QV.2.2
 ·intro j s hs
  rcases Nr hs with rfl|hs
  ·exact R.jy i r h.1
  ·exact R.jy j s hs
 ·show (m.recs.set i _).length<=n
  rw [List.length_set];exact R.n1
variable {hd:Int}
theorem Rel.add (R:Rel nl no n S us m) {c:Int} {l:Nat} (hl:l<S.lines.length) (hf:S.on S.lines[l]=none) (hc:∀i r,iA m.recs i r->r.call≠c) (c0:1<=c) (c1:c<=99)
 {o:Int} (hop:o=0\/((1<=o/\o<=(no:Int))/\∀i r,iA m.recs i r->r.op≠o))
 (hu:yW.length=us.length) (hk:∀(k:Nat) (u:Od),yW[k]?=some u->(o=((k+1:Nat):Int)/\u.k=c)\/(o≠((k+1:Nat):Int)/\us[k]?=some u))
 (w0:(w'.map (·.1)).Nodup) (w1:∀p,p∈w'->p∈m.wait\/(p.1=c/\o=0)) (w2:∀p,p∈m.wait->p∈w') (w3:o=0->c∈w'.map (·.1))
 (b0:(b'.map (·.1)).Nodup) (b1:∀p,p∈b'->p∈m.back/\p.1≠c) (nn:w'.length+b'.length<=n+1):
 Rel nl no (n+1) {S with on:=fun y=>if y=S.lines[l] then some c else S.on y,of:=fun y=>if y=c then some S.lines[l] else S.of y,rc:=fun y=>if y=c then some S.recs.length else S.rc y,recs:=S.recs++[⟨c,(l:Int)+1,o,S.clock,hd, -1,eR⟩],wait:=w',back:=b'.map (·.1)} yW
  {m with recs:=m.recs++[⟨c,((l+1:Nat):Int),o,m.clock,hd, -1,eR⟩],wait:=w',back:=b'}:=by
 have ho:∀{j:Nat} {s:Rec},iA (m.recs++[⟨c,((l+1:Nat):Int),o,m.clock,hd, -1,eR⟩]) j s↔iA m.recs j s\/(j=m.recs.length/\s=⟨c,((l+1:Nat):Int),o,m.clock,hd, -1,eR⟩):=by
  intro j s
  rw [iA.app]
  constructor
  ·rintro (h|⟨h1,h2,_⟩)
   ·exact .inl h
   ·exact .inr ⟨h1,h2⟩
  ·rintro (h|⟨h1,h2⟩)
   ·exact .inl h
   ·exact .inr ⟨h1,h2,by rw [h2]⟩
 have Nr:∀{j:Nat} {s:Rec},(m.recs++[⟨c,((l+1:Nat):Int),o,m.clock,hd, -1,eR⟩])[j]?=some s->s=⟨c,((l+1:Nat):Int),o,m.clock,hd, -1,eR⟩\/m.recs[j]?=some s:=by
  intro j s hs
  have:=List.mem_iff_getElem?.2 ⟨j,hs⟩
  rw [List.getElem?_append] at hs
  split at hs
  ·exact .inr hs
  ·left
   obtain ⟨k,hk⟩:∃k,k=j - m.recs.length:=⟨_,rfl⟩
   rw [<-hk] at hs
   cases k with
   |zero=>exact (M_ hs).symm
   |succ k=>cases hs
 have hlt:∀{j:Nat} {s:Rec},iA m.recs j s->j<m.recs.length:=fun h=>(List.getElem?_eq_some_iff.1 h.1).1
 have UB:∀j s,iA m.recs j s->s.line≠((l+1:Nat):Int):=by
  intro j s hs e
  have:=R.MN j s S.lines[l] hs (by rw [e,show ((((l+1:Nat):Int)) - 1).toNat=l by omega];exact G_ _)
  rw [hf] at this;cases this
 have Ma:=R.ll
 refine ⟨⟨?_, ?_, ?_, ?_⟩, ?_,R.clock,rfl,rfl,R.log,R.cg,R.ll,R.nd,hu.trans R.ul, ?_, ?_, ?_, ?_, ?_, ?_,w0, ?_, ?_,b0, ?_, ?_, ?_,R.cl, ?_,nn, ?_⟩
 ·intro a b s t hs ht e
  rcases ho.1 hs with hs|⟨rfl,rfl⟩<;>rcases ho.1 ht with ht|⟨rfl,rfl⟩
  ·exact R.good.qM a b s t hs ht e
  ·exact absurd e (hc a s hs)
  ·exact absurd e.symm (hc b t ht)
  ·rfl
 ·intro a b s t hs ht e
  rcases ho.1 hs with hs|⟨rfl,rfl⟩<;>rcases ho.1 ht with ht|⟨rfl,rfl⟩
  ·exact R.good.FK a b s t hs ht e
  ·exact absurd e (UB a s hs)
  ·exact absurd e.symm (UB b t ht)
  ·rfl
 ·intro a b s t hs ht e e0
  rcases ho.1 hs with hs|⟨rfl,rfl⟩<;>rcases ho.1 ht with ht|⟨rfl,rfl⟩
  ·exact R.good.TG a b s t hs ht e e0
  ·rcases hop with h0|h0
   ·exact absurd (e.trans h0) e0
   ·exact absurd e (h0.2 a s hs)
  ·rcases hop with h0|h0
   ·exact absurd h0 e0
   ·exact absurd e.symm (h0.2 b t ht)
  ·rfl
 ·intro a s hs
  rcases Nr hs with rfl|hs
  ·refine ⟨⟨?_, ?_⟩,⟨?_, ?_⟩,c0,c1⟩
   ·show (1:Int)<=((l+1:Nat):Int);omega
   ·show ((l+1:Nat):Int)<=(nl:Int);omega
   ·show (0:Int)<=o;omega
   ·show o<=(no:Int);omega
  ·exact R.good.G8 a s hs
 ·show S.recs++[(⟨c,(l:Int)+1,o,S.clock,hd, -1,eR⟩:Rec)]=_
  rw [R.recs,R.clock]
  rfl
 ·intro d y hy
  have pg:(if d=c then some S.lines[l] else S.of d)=some y:=hy
  split at pg
  ·rename_i he
   subst he
   refine ⟨m.recs.length,_,ho.2 (.inr ⟨rfl,rfl⟩),rfl, ?_, ?_⟩
   ·show S.lines[(((l+1:Nat):Int) - 1).toNat]?=some y
    rw [<-pg,show ((((l+1:Nat):Int)) - 1).toNat=l by omega]
    exact G_ _
   ·show (if d=d then some S.recs.length else S.rc d)=_
    rw [if_pos rfl,R.recs]
  ·rename_i hne
   obtain ⟨j,s,h1,h2,h3,h4⟩:=R.JE d y pg
   refine ⟨j,s,ho.2 (.inl h1),h2,h3, ?_⟩
   show (if d=c then some S.recs.length else S.rc d)=_
   rw [if_neg hne];exact h4
 ·intro j s hs
  show ∃x,(if s.call=c then some S.lines[l] else S.of s.call)=some x
  rcases ho.1 hs with hs|⟨rfl,rfl⟩
  ·rw [if_neg (hc j s hs)];exact R.MQ j s hs
  ·rw [if_pos rfl];exact ⟨_,rfl⟩
 ·intro y d hy
  have pg:(if y=S.lines[l] then some c else S.on y)=some d:=hy
  split at pg
  ·rename_i he
   obtain rfl:=M_ pg
   refine ⟨m.recs.length,_,ho.2 (.inr ⟨rfl,rfl⟩),rfl, ?_⟩
   show S.lines[(((l+1:Nat):Int) - 1).toNat]?=some y
   rw [he,show ((((l+1:Nat):Int)) - 1).toNat=l by omega]
   exact G_ _
  ·obtain ⟨j,s,h1,h2,h3⟩:=R.Oq y d pg
   exact ⟨j,s,ho.2 (.inl h1),h2,h3⟩
 ·intro j s y hs hy
  have pg:S.lines[(s.line - 1).toNat]?=some y:=hy
  show (if y=S.lines[l] then some c else S.on y)=some s.call
  rcases ho.1 hs with hs|⟨rfl,rfl⟩
  ·have h2:=R.MN j s y hs pg
   rw [if_neg fun e=>by rw [e,hf] at h2;cases h2]
   exact h2
  ·have Qo:S.lines[(((l+1:Nat):Int) - 1).toNat]?=some y:=pg
   rw [show ((((l+1:Nat):Int)) - 1).toNat=l by omega,G_ hl] at Qo
   rw [if_pos (M_ Qo).symm]
 ·intro k u j s HE hs he
  rcases hk k u HE with ⟨h1,h2⟩|⟨h1,h2⟩
  ·rcases ho.1 hs with hs|⟨rfl,rfl⟩
   ·rcases hop with h0|h0
    ·omega
    ·exact absurd (he.trans h1.symm) (h0.2 j s hs)
   ·exact h2
  ·rcases ho.1 hs with hs|⟨rfl,rfl⟩
   ·exact R.LY k u j s h2 hs he
   ·exact absurd he h1
 ·intro k u HE h0
  rcases hk k u HE with ⟨h1,h2⟩|⟨h1,h2⟩
  ·exact ⟨m.recs.length,_,ho.2 (.inr ⟨rfl,rfl⟩),h1⟩
  ·obtain ⟨j,s,h3,h4⟩:=R.MV k u h2 h0
   exact ⟨j,s,ho.2 (.inl h3),h4⟩
 ·intro p hp
  rcases w1 p hp with h1|⟨h1,h2⟩
  ·obtain ⟨j,s,h3,h4,h5⟩:=R.w1 p h1
   exact ⟨j,s,ho.2 (.inl h3),h4,h5⟩
  ·exact ⟨m.recs.length,_,ho.2 (.inr ⟨rfl,rfl⟩),h1.symm,h2⟩
 ·intro j s hs h0
  rcases ho.1 hs with hs|⟨rfl,rfl⟩
  ·obtain ⟨p,hp,e⟩:=List.mem_map.1 (R.w2 j s hs h0)
   exact List.mem_map.2 ⟨p,w2 p hp,e⟩
  ·exact w3 h0
 ·intro p hp j s hs
  rcases ho.1 hs with hs|⟨rfl,rfl⟩
  ·exact R.b1 p (b1 p hp).1 j s hs
  ·exact fun e=>(b1 p hp).2 e.symm
 ·intro p hp;exact R.b2 p (b1 p hp).1
 ·intro j s hs
  rcases Nr hs with rfl|hs
  ·exact ⟨R.cl,Int.le_refl _⟩
  ·exact R.jy j s hs
 ·show (m.recs++_).length<=n+1
  rw [K_];have:=R.n1;show m.recs.length+1<=n+1;omega
 ·have:=R.n4;show m.clock<=60 * ((n+1:Nat):Int);omega
theorem Rel.S6 (R:Rel nl no n S us m) {r:Rec} (h:iA m.recs i r) {o:Int} (h1:1<=o) (h2:o<=(no:Int)) (hno:∀i r,iA m.recs i r->r.op≠o) (h0:r.op=0)
 (hu:yW.length=us.length) (hk:∀(k:Nat) (u:Od),yW[k]?=some u->(o=((k+1:Nat):Int)/\u.k=r.call)\/(o≠((k+1:Nat):Int)/\us[k]?=some u))
 (w0:(w'.map (·.1)).Nodup) (w1:∀p,p∈w'->p∈m.wait/\p.1≠r.call) (w2:∀p,p∈m.wait->p.1≠r.call->p∈w') (nn:w'.length<=m.wait.length):
 Rel nl no n {S with recs:=S.recs.set i {r with op:=o,heard:=hd},wait:=w'} yW {m with recs:=m.recs.set i {r with op:=o,heard:=hd},wait:=w'}:=by
 have ho:∀{j:Nat} {s:Rec},iA (m.recs.set i {r with op:=o,heard:=hd}) j s↔(j=i/\s={r with op:=o,heard:=hd})\/(j≠i/\iA m.recs j s):=by
  intro j s
  rw [iA.set h.1]
  constructor
  ·rintro (⟨h3,h4,_⟩|h)
   ·exact .inl ⟨h3,h4⟩
   ·exact .inr h
  ·rintro (⟨h3,h4⟩|h')
   ·exact .inl ⟨h3,h4,by rw [h4];exact h.2⟩
   ·exact .inr h'
 have Nr:∀{j:Nat} {s:Rec},(m.recs.set i {r with op:=o,heard:=hd})[j]?=some s->(s={r with op:=o,heard:=hd})\/m.recs[j]?=some s:=by
  intro j s hs
  rw [List.getElem?_set] at hs
  split at hs
  ·split at hs
   ·exact .inl (M_ hs).symm
   ·cases hs
  ·exact .inr hs
 have QV:=R.good.G8 i r h.1
 have OM:∀{j:Nat} {s:Rec},iA m.recs j s->∃s',iA (m.recs.set i {r with op:=o,heard:=hd}) j s'/\s'.call=s.call/\s'.line=s.line/\(j≠i->s'=s):=by
  intro j s hs
  by_cases e:j=i
  ·subst e
   obtain rfl:=M_ (h.1.symm.trans hs.1)
   exact ⟨_,ho.2 (.inl ⟨rfl,rfl⟩),rfl,rfl,fun x=>absurd rfl x⟩
  ·exact ⟨s,ho.2 (.inr ⟨e,hs⟩),rfl,rfl,fun _=>rfl⟩
 have hold:∀{j:Nat} {s':Rec},iA (m.recs.set i {r with op:=o,heard:=hd}) j s'->∃s,iA m.recs j s/\s'.call=s.call/\s'.line=s.line/\(j≠i->s'=s)/\(j=i->s'.op=o):=by
  intro j s' hs
  rcases ho.1 hs with ⟨rfl,rfl⟩|⟨h3,h4⟩
  ·exact ⟨r,h,rfl,rfl,fun x=>absurd rfl x,fun _=>rfl⟩
  ·exact ⟨s',h4,rfl,rfl,fun _=>rfl,fun x=>absurd x h3⟩
 refine ⟨⟨?_, ?_, ?_, ?_⟩, ?_,R.clock,rfl,R.back,R.log,R.cg,R.ll,R.nd,hu.trans R.ul, ?_, ?_, ?_, ?_, ?_, ?_,w0, ?_, ?_,R.b0, ?_,R.b2, ?_,R.cl, ?_, ?_,R.n4⟩
 ·intro a b s t hs ht e
  obtain ⟨s0,a1,a2,_⟩:=hold hs;obtain ⟨t0,b1,b2,_⟩:=hold ht
  exact R.good.qM a b s0 t0 a1 b1 (by rw [<-a2,<-b2,e])
 ·intro a b s t hs ht e
  obtain ⟨s0,a1,_,a2,_⟩:=hold hs;obtain ⟨t0,b1,_,b2,_⟩:=hold ht
  exact R.good.FK a b s0 t0 a1 b1 (by rw [<-a2,<-b2,e])
 ·intro a b s t hs ht e e0
  rcases ho.1 hs with ⟨rfl,rfl⟩|⟨h3,h4⟩<;>rcases ho.1 ht with ⟨rfl,rfl⟩|⟨h5,h6⟩
  ·rfl
  ·exact absurd e.symm (hno b t h6)
  ·exact absurd e (hno a s h4)
  ·exact R.good.TG a b s t h4 h6 e e0
 ·intro a s hs
  rcases Nr hs with rfl|hs
  ·refine ⟨QV.1,⟨?_,h2⟩,QV.2.2⟩
   show (0:Int)<=o;omega
  ·exact R.good.G8 a s hs
 ·show S.recs.set i _=_
  rw [R.recs]
 ·intro c y hy
  obtain ⟨j,s,h3,h4,h5,h6⟩:=R.JE c y hy
  obtain ⟨s',a1,a2,a3,_⟩:=OM h3
  exact ⟨j,s',a1,a2.trans h4,by rw [a3];exact h5,h6⟩
 ·intro j s hs
  obtain ⟨s0,a1,a2,_⟩:=hold hs
  rw [a2];exact R.MQ j s0 a1
 ·intro y c hy
  obtain ⟨j,s,h3,h4,h5⟩:=R.Oq y c hy
  obtain ⟨s',a1,a2,a3,_⟩:=OM h3
  exact ⟨j,s',a1,a2.trans h4,by rw [a3];exact h5⟩
 ·intro j s y hs hy
  obtain ⟨s0,a1,a2,a3,_⟩:=hold hs
  rw [a2];exact R.MN j s0 y a1 (by rw [<-a3];exact hy)
 ·intro k u j s HE hs he
  rcases hk k u HE with ⟨h3,h4⟩|⟨h3,h4⟩
  ·rcases ho.1 hs with ⟨rfl,rfl⟩|⟨h5,h6⟩
   ·exact h4
   ·exact absurd (he.trans h3.symm) (hno j s h6)
  ·rcases ho.1 hs with ⟨rfl,rfl⟩|⟨h5,h6⟩
   ·exact absurd he h3
   ·exact R.LY k u j s h4 h6 he
 ·intro k u HE hz
  rcases hk k u HE with ⟨h3,h4⟩|⟨h3,h4⟩
  ·exact ⟨i,_,ho.2 (.inl ⟨rfl,rfl⟩),h3⟩
  ·obtain ⟨j,s,h5,h6⟩:=R.MV k u h4 hz
   refine ⟨j,s,ho.2 (.inr ⟨fun e=> ?_,h5⟩),h6⟩
   subst e
   obtain rfl:=M_ (h.1.symm.trans h5.1)
   rw [h0] at h6;omega
 ·intro p hp
  obtain ⟨a1,a2⟩:=w1 p hp
  obtain ⟨j,s,h3,h4,h5⟩:=R.w1 p a1
  refine ⟨j,s,ho.2 (.inr ⟨fun e=> ?_,h3⟩),h4,h5⟩
  subst e
  obtain rfl:=M_ (h.1.symm.trans h3.1)
  exact a2 h4.symm
 ·intro j s hs hz
  rcases ho.1 hs with ⟨rfl,rfl⟩|⟨h5,h6⟩
  ·have:o=0:=hz
   omega
  ·obtain ⟨p,hp,e⟩:=List.mem_map.1 (R.w2 j s h6 hz)
   exact List.mem_map.2 ⟨p,w2 p hp (fun e2=>h5 (R.good.qM j i s r h6 h (e.symm.trans e2))),e⟩
 ·intro p hp j s hs
  obtain ⟨s0,a1,a2,_⟩:=hold hs
  rw [a2];exact R.b1 p hp j s0 a1
 ·intro j s hs
  rcases Nr hs with rfl|hs
  ·exact R.jy i r h.1
  ·exact R.jy j s hs
 ·show (m.recs.set i _).length<=n
  rw [List.length_set];exact R.n1
 ·have:=R.n2;show w'.length+m.back.length<=n;omega
theorem Rel.Gx (R:Rel nl no n S us m) (b0:(b'.map (·.1)).Nodup) (b1:∀p,p∈b'->p∈m.back\/((1<=p.1/\p.1<=99)/\∀i r,iA m.recs i r->r.call≠p.1)) (nn:m.wait.length+b'.length<=n+1):
 Rel nl no (n+1) {S with back:=b'.map (·.1)} us {m with back:=b'}:=by
 refine ⟨R.good,R.recs,R.clock,R.wait,rfl,R.log,R.cg,R.ll,R.nd,R.ul,R.JE,R.MQ,R.Oq,R.MN,R.LY,R.MV,R.w0,R.w1,R.w2,b0, ?_, ?_,R.jy,R.cl,Nat.le_succ_of_le R.n1,nn, ?_⟩
 ·intro p hp
  rcases b1 p hp with h|h
  ·exact R.b1 p h
  ·exact h.2
 ·intro p hp
  rcases b1 p hp with h|h
  ·exact R.b2 p h
  ·exact h.1
 ·have:=R.n4;show m.clock<=60 * ((n+1:Nat):Int);omega
variable {d:Int}
theorem Rel.tick (R:Rel nl no n S us m) (h0:0<=d) (h1:d<=60):Rel nl no (n+1) {S with clock:=S.clock+d} us {m with clock:=m.clock+d}:=by
 refine ⟨R.good,R.recs,by rw [R.clock],R.wait,R.back,R.log,R.cg,R.ll,R.nd,R.ul,R.JE,R.MQ,R.Oq,R.MN,R.LY,R.MV,R.w0,R.w1,R.w2,R.b0,R.b1,R.b2, ?_, ?_,Nat.le_succ_of_le R.n1,Nat.le_succ_of_le R.n2, ?_⟩
 ·intro i r hr
  have:=R.jy i r hr
  exact ⟨this.1,by show r.jy<=m.clock+d;omega⟩
 ·have:=R.cl;show 0<=m.clock+d;omega
 ·have:=R.n4;show m.clock+d<=60 * ((n+1:Nat):Int);omega
theorem Rel.mono (R:Rel nl no n S us m):Rel nl no (n+1) S us m:=
 ⟨R.good,R.recs,R.clock,R.wait,R.back,R.log,R.cg,R.ll,R.nd,R.ul,R.JE,R.MQ,R.Oq,R.MN,R.LY,R.MV,R.w0,R.w1,R.w2,R.b0,R.b1,R.b2,R.jy,R.cl,Nat.le_succ_of_le R.n1,Nat.le_succ_of_le R.n2,by have:=R.n4;show m.clock<=60 * ((n+1:Nat):Int);omega⟩
variable {ws:List (Int × Int)}
theorem nM {c:Int} {p:Int × Int}:p∈aJ ws c↔p∈ws/\p.1≠c:=by
 unfold aJ;rw [List.mem_filter];simp
theorem nK (h:(ws.map (·.1)).Nodup) (c:Int):((aJ ws c).map (·.1)).Nodup:=by
 unfold aJ;exact List.Nodup.sublist (List.Sublist.map _ List.filter_sublist) h
theorem jQ (ws:List (Int × Int)) (c:Int):(aJ ws c).length<=ws.length:=List.length_filter_le _ _
theorem rj {c:Int} (h:∀p,p∈ws->p.1≠c):aJ ws c=ws:=by
 unfold aJ;rw [List.filter_eq_self];intro p hp;exact decide_eq_true (h p hp)
theorem lT {p:Int × Int} (h:((p::ws).map (·.1)).Nodup):aJ (p::ws) p.1=ws:=by
 rw [S_,List.nodup_cons] at h
 have:aJ (p::ws) p.1=aJ ws p.1:=by unfold aJ;rw [List.filter_cons];simp
 rw [this]
 exact rj fun q hq e=>h.1 (List.mem_map.2 ⟨q,hq,e⟩)
theorem rk {p:Int × Int} {vs:List (Int × Int)} (h:((vs++p::ws).map (·.1)).Nodup):aJ (vs++p::ws) p.1=vs++ws:=by
 rw [List.map_append,List.nodup_append] at h
 obtain ⟨h1,h2,h3⟩:=h
 have:aJ (vs++p::ws) p.1=aJ vs p.1++aJ (p::ws) p.1:=by unfold aJ;rw [List.filter_append]
 rw [this,lT h2,rj fun q hq e=>h3 q.1 (List.mem_map.2 ⟨q,hq,rfl⟩) p.1 (by simp) e]
theorem Nf:∀(ws:List (Int × Int)) (k:Nat) (c:Int),(ws.map (·.1)).Nodup->(ws.map (·.1))[k]?=some c->(ws.map (·.1)).eraseIdx k=(aJ ws c).map (·.1)
 |[],_,_,_,h=>by simp at h
 |p::ws,0,c,hn,h=>by
  have:p.1=c:=by simpa using h
  subst this
  rw [lT hn];simp
 |p::ws,k+1,c,hn,h=>by
  rw [S_,List.nodup_cons] at hn
  have h':(ws.map (·.1))[k]?=some c:=by simpa using h
  have hne:p.1≠c:=fun e=>hn.1 (e▸List.mem_iff_getElem?.2 ⟨k,h'⟩)
  have e:aJ (p::ws) c=p::aJ ws c:=by unfold aJ;rw [List.filter_cons];simp [hne]
  rw [e,S_,S_,List.eraseIdx_cons_succ,Nf ws k c hn.2 h']
variable {x:Int × Int}
theorem xj {p:Int × Int}:p∈gY ws i x↔p=x\/p∈ws:=by
 unfold gY
 conv=>rhs;rw [<-List.take_append_drop i ws]
 simp only [List.mem_append,List.mem_singleton]
 constructor
 ·rintro ((h|h)|h)
  ·exact .inr (.inl h)
  ·exact .inl h
  ·exact .inr (.inr h)
 ·rintro (h|h|h)
  ·exact .inl (.inr h)
  ·exact .inl (.inl h)
  ·exact .inr h
theorem uA (ws:List (Int × Int)) (i:Nat) (x:Int × Int):(gY ws i x).length=ws.length+1:=by
 unfold gY
 simp only [K_,Q_,List.length_drop,List.length_singleton]
 omega
theorem Ep (h:(ws.map (·.1)).Nodup) (hx:∀p,p∈ws->p.1≠x.1) (i:Nat):((gY ws i x).map (·.1)).Nodup:=by
 have e:(gY ws i x).Perm (x::ws):=by
  unfold gY
  rw [List.append_assoc]
  refine List.perm_middle.trans ?_
  show (x::(List.take i ws++List.drop i ws)).Perm _
  rw [List.take_append_drop]
 refine (e.map (·.1)).nodup_iff.2 ?_
 rw [S_,List.nodup_cons]
 refine ⟨fun hm=> ?_,h⟩
 obtain ⟨p,hp,e⟩:=List.mem_map.1 hm
 exact hx p hp e
variable {k:Nat}
theorem zV {c:Int} {u:Od} (h:(told us i 1 c)[k]?=some u):(i=k/\u.k=c)\/(i≠k/\us[k]?=some u):=by
 unfold told at h
 rw [List.getElem?_modify] at h
 cases hx:us[k]? with
 |none=>rw [hx] at h;cases h
 |some v=>
  rw [hx] at h
  have h':(if i=k then (⟨v.bt,v.x,if (1:Int)=1 then c else v.k⟩:Od) else v)=u:=M_ h
  by_cases e:i=k
  ·rw [if_pos e] at h'
   exact .inl ⟨e,by rw [<-h'];rfl⟩
  ·rw [if_neg e] at h'
   exact .inr ⟨e,by rw [h']⟩
theorem wH (us:List Od) (i:Nat) (k c:Int):(told us i k c).length=us.length:=by unfold told;rw [List.length_modify]
theorem Rel.P5 (R:Rel nl no n S us m) {r:Rec} (h:iA m.recs i r):S.rc r.call=some i/\∃x,S.of r.call=some x/\S.lines[(r.line - 1).toNat]?=some x:=by
 obtain ⟨x,hx⟩:=R.MQ i r h
 obtain ⟨j,s,h1,h2,h3,h4⟩:=R.JE _ x hx
 obtain rfl:=R.good.qM j i s r h1 h h2
 obtain rfl:=iA.one h h1
 exact ⟨h4,x,hx,h3⟩
theorem Rel.FI (R:Rel nl no n S us m) {c:Int} (h:S.of c=none):∀i r,iA m.recs i r->r.call≠c:=by
 intro i r hr e
 obtain ⟨x,hx⟩:=R.MQ i r hr
 rw [e,h] at hx;cases hx
theorem Rel.ofc (R:Rel nl no n S us m) (c:Int):(S.of c).isSome=(dE m.recs c).isSome:=by
 cases h:S.of c with
 |none=>rw [uy (R.FI h)]
 |some x=>
  obtain ⟨i,r,h1,h2,_⟩:=R.JE c x h
  rw [kX R.good h1 h2];rfl
theorem Rel.CG (R:Rel nl no n S us m) (c:Int):S.back.contains c=im m c:=by
 rw [R.back]
 unfold im
 rw [Bool.eq_iff_iff,List.contains_iff_mem,List.mem_map,List.any_eq_true]
 constructor
 ·rintro ⟨p,hp,e⟩;exact ⟨p,hp,decide_eq_true e⟩
 ·rintro ⟨p,hp,e⟩;exact ⟨p,hp,of_decide_eq_true e⟩
theorem Rel.nobody (R:Rel nl no n S us m) {u:Od} (h:us[k]?=some u) (h0:u.k=0):∀i r,iA m.recs i r->r.op≠((k+1:Nat):Int):=by
 intro i r hr e
 have:=R.LY k u i r h hr e
 have:=R.good.G8 i r hr.1
 omega
theorem Rel.N5 (R:Rel nl no n S us m) {u:Od} (h:us[k]?=some u):ez m.recs ((k+1:Nat):Int)=u.k:=by
 by_cases h0:u.k=0
 ·rw [BW (R.nobody h h0),h0]
 ·obtain ⟨i,r,h1,h2⟩:=R.MV k u h h0
  rw [BV R.good (by omega) h1 h2,R.LY k u i r h h1 h2]
theorem Rel.pos (R:Rel nl no n S us m) {u:Od} (h:us[k]?=some u):(u.k≠0)↔u.k>0:=by
 constructor
 ·intro h0
  obtain ⟨i,r,h1,h2⟩:=R.MV k u h h0
  have:=R.LY k u i r h h1 h2
  have:=R.good.G8 i r h1.1
  omega
 ·intro h0;omega
theorem Rel.used (R:Rel nl no n S us m) {l:Nat} (hl:l<S.lines.length):lM m.recs ((l+1:Nat):Int)=(S.on S.lines[l]).isSome:=by
 rw [Bool.eq_iff_iff,GR]
 constructor
 ·rintro ⟨i,r,h1,h2⟩
  rw [R.MN i r S.lines[l] h1 (by rw [h2,show ((((l+1:Nat):Int)) - 1).toNat=l by omega];exact G_ _)]
  rfl
 ·intro h
  cases hx:S.on S.lines[l] with
  |none=>rw [hx] at h;cases h
  |some c=>
   obtain ⟨i,r,h1,h2,h3⟩:=R.Oq _ c hx
   refine ⟨i,r,h1, ?_⟩
   have:=(List.getElem?_inj hl R.nd).1 ((G_ hl).trans h3.symm)
   have:=R.good.G8 i r h1.1
   omega
theorem Rel.zv (R:Rel nl no n S us m) (h:gf S= -1):AD nl m.recs=[]:=by
 have h1:S.lines.findIdx? (fun x=>(S.on x).isNone)=none:=by
  unfold gf at h
  cases hx:S.lines.findIdx? (fun x=>(S.on x).isNone) with
  |none=>rfl
  |some k=>rw [hx] at h;simp only at h;omega
 rw [List.findIdx?_eq_none_iff] at h1
 unfold AD
 rw [List.filter_eq_nil_iff]
 intro a ha
 obtain ⟨i,hi,rfl⟩:=List.mem_map.1 ha
 rw [List.mem_range] at hi
 have lE:i<S.lines.length:=by rw [R.ll];exact hi
 rw [R.used lE]
 have:=h1 _ (List.getElem_mem lE)
 cases hx:S.on S.lines[i] with
 |none=>rw [hx] at this;cases this
 |some c=>simp
theorem Rel.zu (R:Rel nl no n S us m) {l:Nat} (h:gf S=(l:Nat)):∃t,AD nl m.recs=((l+1:Nat):Int)::t:=by
 have h1:S.lines.findIdx? (fun x=>(S.on x).isNone)=some l:=by
  unfold gf at h
  cases hx:S.lines.findIdx? (fun x=>(S.on x).isNone) with
  |none=>rw [hx] at h;simp only at h;omega
  |some k=>rw [hx] at h;simp only at h;rw [show k=l by omega]
 obtain ⟨hl,h2,h3⟩:=List.findIdx?_eq_some_iff_getElem.1 h1
 have hh:(AD nl m.recs).head?=some ((l+1:Nat):Int):=by
  unfold AD
  rw [List.head?_filter,List.find?_map]
  have:(List.range nl).find? ((fun l=> !lM m.recs l) ∘ fun i=>((i+1:Nat):Int))=some l:=by
   rw [List.find?_range_eq_some]
   refine ⟨?_,by rw [List.mem_range,<-R.ll];exact hl,fun j hj=> ?_⟩
   ·show (!lM m.recs ((l+1:Nat):Int))=true
    rw [R.used hl]
    cases hx:S.on S.lines[l] with
    |none=>rfl
    |some c=>rw [hx] at h2;cases h2
   ·show (!(!lM m.recs ((j+1:Nat):Int)))=true
    rw [R.used (by omega)]
    have:=h3 j hj
    cases hx:S.on (S.lines[j]'(by omega)) with
    |none=>rw [hx] at this;simp at this
    |some c=>rfl
  rw [this];rfl
 cases hx:AD nl m.recs with
 |nil=>rw [hx] at hh;cases hh
 |cons a t=>rw [hx] at hh;exact ⟨t,by rw [M_ hh]⟩
def Same (nl no n:Nat) (R:Hs × List Od × Bs) (q:Rm × Bs):Prop:=Rel nl no n R.1 R.2.1 q.1/\R.2.2=q.2
variable {pt:Int}
theorem Rel.ring (R:Rel nl no n S us m) {c:Int} (c0:1<=c) (c1:c<=99):Same nl no (n+1) (oe S us c pt) (kS nl m c pt):=by
 unfold oe kS
 rw [R.ofc c,R.CG c]
 by_cases hk:((dE m.recs c).isSome||im m c)=true
 ·rw [if_pos hk,if_pos hk];exact ⟨R.mono,rfl⟩
 rw [if_neg hk,if_neg hk]
 rw [Bool.or_eq_true,not_or] at hk
 have hno:∀i r,iA m.recs i r->r.call≠c:=Ej (by
  cases hx:dE m.recs c with
  |none=>rfl
  |some i=>rw [hx] at hk;exact absurd rfl hk.1)
 have BH:∀p,p∈m.back->p.1≠c:=fun p hp e=>hk.2 (by unfold im;rw [List.any_eq_true];exact ⟨p,hp,decide_eq_true e⟩)
 rcases lX S with h|⟨l,hl,h,h0⟩
 ·rw [if_pos (by omega),R.zv h]
  refine ⟨?_,rfl⟩
  show Rel nl no (n+1) {S with back:=S.back++[c]} us {m with back:=m.back++[(c,pt)]}
  have e:S.back++[c]=(m.back++[(c,pt)]).map (·.1):=by rw [R.back];simp
  rw [e]
  refine R.Gx ?_ ?_ ?_
  ·rw [List.map_append,List.nodup_append]
   refine ⟨R.b0,by simp, ?_⟩
   intro a ha b hb
   obtain ⟨p,hp,rfl⟩:=List.mem_map.1 ha
   simp at hb
   rw [hb];exact BH p hp
  ·intro p hp
   rw [List.mem_append,List.mem_singleton] at hp
   rcases hp with hp|rfl
   ·exact .inl hp
   ·exact .inr ⟨⟨c0,c1⟩,hno⟩
  ·have:=R.n2
   rw [K_,List.length_singleton];omega
 ·obtain ⟨t,ht⟩:=R.zu h
  rw [if_neg (by omega),ht,h,Int.toNat_natCast,G_ hl]
  refine ⟨?_,by show jj++L_ _=jj++L_ _;congr 2⟩
  have hw:∀p,p∈m.wait->p.1≠c:=fun p hp e=>by
   obtain ⟨i,r,h1,h2,_⟩:=R.w1 p hp
   exact hno i r h1 (h2.trans e)
  have A:=R.add (yW:=us) (w':=gY m.wait (placeOf m.wait pt) (c,pt)) (b':=m.back) (o:=0) (hd:= -1) hl h0 hno c0 c1 (.inl rfl) rfl (fun k u HE=>.inr ⟨by omega,HE⟩)
   (Ep R.w0 hw _) (fun p hp=>by
    rcases xj.1 hp with rfl|hp
    ·exact .inr ⟨rfl,rfl⟩
    ·exact .inl hp) (fun p hp=>xj.2 (.inr hp)) (fun _=>List.mem_map.2 ⟨(c,pt),xj.2 (.inl rfl),rfl⟩) R.b0 (fun p hp=>⟨hp,BH p hp⟩)
   (by rw [uA];have:=R.n2;omega)
  have e:({conn S c l S.lines[l] with wait:=gY S.wait (placeOf S.wait pt) (c,pt)}:Hs)={S with on:=fun y=>if y=S.lines[l] then some c else S.on y,of:=fun y=>if y=c then some S.lines[l] else S.of y,rc:=fun y=>if y=c then some S.recs.length else S.rc y,recs:=S.recs++[⟨c,(l:Int)+1,0,S.clock, -1, -1,eR⟩],wait:=gY m.wait (placeOf m.wait pt) (c,pt),back:=m.back.map (·.1)}:=by
   unfold conn kT;rw [R.wait,<-R.back]
  show Rel nl no (n+1) ({conn S c l S.lines[l] with wait:=gY S.wait (placeOf S.wait pt) (c,pt)}:Hs) us _
  rw [e];exact A
theorem Rel.answer (R:Rel nl no n S us m) (hi:i<no):Same nl no (n+1) (og S us i) (hZ m ((i+1:Nat):Int)):=by
 have hu:i<us.length:=by rw [R.ul];exact hi
 have hg:us[i]?=some us[i]:=G_ hu
 unfold og hZ
 rw [hg,R.N5 hg]
 simp only
 by_cases h0:us[i].k≠0
 ·rw [if_pos h0,if_pos ((R.pos hg).1 h0)];exact ⟨R.mono,rfl⟩
 rw [if_neg h0,if_neg (fun h=>h0 ((R.pos hg).2 h)),R.wait]
 cases hw:m.wait with
 |nil=>exact ⟨R.mono,rfl⟩
 |cons p ws=>
  obtain ⟨j,r,h1,h2,h3⟩:=R.w1 p (by rw [hw];exact List.mem_cons_self)
  have mj:=(R.P5 h1).1
  rw [h2] at mj
  simp only
  rw [mj,kX R.good h1 h2]
  simp only
  rw [show S.recs[j]?=some r by rw [R.recs];exact h1.1,h1.1]
  have hn:=R.w0
  rw [hw] at hn
  have A:=R.S6 (yW:=told us i 1 p.1) (w':=ws) (o:=((i+1:Nat):Int)) (hd:=m.clock) h1 (by omega) (by omega) (R.nobody hg (Decidable.not_not.1 h0)) h3 (wH us i 1 p.1)
   (fun k u hk=>by
    rcases zV hk with ⟨e,h⟩|⟨e,h⟩
    ·exact .inl ⟨by omega,by rw [h,h2]⟩
    ·exact .inr ⟨by omega,h⟩) (by rw [S_,List.nodup_cons] at hn;exact hn.2)
   (fun q hq=>⟨by rw [hw];exact List.mem_cons_of_mem _ hq,fun e=>by rw [S_,List.nodup_cons] at hn;exact hn.1 (List.mem_map.2 ⟨q,hq,e.trans h2⟩)⟩)
   (fun q hq e=>by
    rw [hw] at hq
    rcases List.mem_cons.1 hq with rfl|hq
    ·exact absurd h2.symm e
    ·exact hq) (by rw [hw];simp)
  refine ⟨?_,rfl⟩
  show Rel nl no (n+1) (iZ {S with wait:=ws} j r ((i+1:Nat):Int)) (told us i 1 p.1) {m with recs:=m.recs.set j {r with op:=((i+1:Nat):Int),heard:=m.clock},wait:=aJ (p::ws) p.1}
  rw [lT hn]
  have e:iZ {S with wait:=ws} j r ((i+1:Nat):Int)={S with recs:=S.recs.set j {r with op:=((i+1:Nat):Int),heard:=m.clock},wait:=ws}:=by
   unfold iZ;rw [R.clock]
  rw [e]
  exact A.mono
theorem Rel.calls (R:Rel nl no n S us m) (hi:i<no):Same nl no (n+1) (lY S us i) (lD nl m ((i+1:Nat):Int)):=by
 have hu:i<us.length:=by rw [R.ul];exact hi
 have hg:us[i]?=some us[i]:=G_ hu
 unfold lY lD
 rw [hg,R.N5 hg]
 simp only
 by_cases h0:us[i].k≠0
 ·rw [if_pos h0,if_pos ((R.pos hg).1 h0)];exact ⟨R.mono,rfl⟩
 rw [if_neg h0,if_neg (fun h=>h0 ((R.pos hg).2 h)),R.back]
 cases hw:m.back with
 |nil=>exact ⟨R.mono,rfl⟩
 |cons p bs=>
  simp only [S_]
  have hn:=R.b0
  rw [hw] at hn
  rcases lX S with h|⟨l,hl,h,b9⟩
  ·rw [if_pos (by omega),R.zv h];exact ⟨R.mono,rfl⟩
  ·obtain ⟨t,ht⟩:=R.zu h
   rw [if_neg (by omega),ht,h,Int.toNat_natCast,G_ hl]
   simp only
   have Uk:p∈m.back:=by rw [hw];exact List.mem_cons_self
   have h99:=R.b2 p Uk
   have A:=R.add (yW:=told us i 1 p.1) (w':=m.wait) (b':=bs) (o:=((i+1:Nat):Int)) (hd:=m.clock) hl b9 (R.b1 p Uk) h99.1 h99.2 (.inr ⟨⟨by omega,by omega⟩,R.nobody hg (Decidable.not_not.1 h0)⟩) (wH us i 1 p.1)
    (fun k u hk=>by
     rcases zV hk with ⟨e,h⟩|⟨e,h⟩
     ·exact .inl ⟨by omega,h⟩
     ·exact .inr ⟨by omega,h⟩) R.w0 (fun _ h=>.inl h) (fun _ h=>h) (fun e=>by omega) (by rw [S_,List.nodup_cons] at hn;exact hn.2)
    (fun q hq=>⟨by rw [hw];exact List.mem_cons_of_mem _ hq,fun e=>by rw [S_,List.nodup_cons] at hn;exact hn.1 (List.mem_map.2 ⟨q,hq,e⟩)⟩)
    (by have:=R.n2;rw [hw,List.length_cons] at this;omega)
   refine ⟨?_,rfl⟩
   show Rel nl no (n+1) (iZ (conn {S with back:=bs.map (·.1)} p.1 l S.lines[l]) S.recs.length (kT {S with back:=bs.map (·.1)} p.1 l) ((i+1:Nat):Int)) (told us i 1 p.1) {m with back:=aJ (p::bs) p.1,recs:=m.recs++[⟨p.1,((l+1:Nat):Int),((i+1:Nat):Int),m.clock,m.clock, -1,eR⟩]}
   rw [lT hn]
   have e:iZ (conn {S with back:=bs.map (·.1)} p.1 l S.lines[l]) S.recs.length (kT {S with back:=bs.map (·.1)} p.1 l) ((i+1:Nat):Int)={S with on:=fun y=>if y=S.lines[l] then some p.1 else S.on y,of:=fun y=>if y=p.1 then some S.lines[l] else S.of y,rc:=fun y=>if y=p.1 then some S.recs.length else S.rc y,recs:=S.recs++[⟨p.1,(l:Int)+1,((i+1:Nat):Int),S.clock,m.clock, -1,eR⟩],wait:=m.wait,back:=bs.map (·.1)}:=by
    unfold iZ conn kT
    simp only [List.set_append_right _ _ (C_ _),Nat.sub_self,List.set_cons_zero,R.clock,R.wait]
   rw [e];exact A
theorem Rel.hangs (R:Rel nl no n S us m) (c:Int):Same nl no (n+1) (ou S us c) (lv m c):=by
 unfold ou lv
 cases kE:S.of c with
 |none=>
  have hno:=R.FI kE
  rw [uy hno]
  simp only
  rcases uE S.back c with ⟨h1,h2⟩|⟨k,hk,h1,h2,_⟩
  ·rw [if_pos (by omega),if_pos (by omega),<-R.CG c,h2]
   exact ⟨R.mono,rfl⟩
  ·have Nq:im m c=true:=by rw [<-R.CG c,List.contains_iff_mem,<-h2];exact List.getElem_mem hk
   rw [if_neg (by omega),if_neg (by omega),Nq,h1,Int.toNat_natCast]
   refine ⟨?_,rfl⟩
   have yL:(m.back.map (·.1))[k]?=some c:=by rw [<-R.back,G_ hk,h2]
   show Rel nl no (n+1) {S with back:=S.back.eraseIdx k} us {m with back:=aJ m.back c}
   rw [R.back,Nf m.back k c R.b0 yL]
   refine R.Gx (nK R.b0 c) (fun p hp=>.inl (nM.1 hp).1) ?_
   have:=R.n2;have:=jQ m.back c;omega
 |some x=>
  obtain ⟨i,r,h1,h2,h3,h4⟩:=R.JE c x kE
  simp only
  rw [h4,kX R.good h1 h2]
  simp only
  rw [show S.recs[i]?=some r by rw [R.recs];exact h1.1,h1.1]
  simp only
  subst h2
  have hr:=R.good.G8 i r h1.1
  by_cases hop:r.op≠0
  ·rw [if_pos hop,if_pos (by omega)]
   have hw:∀p,p∈m.wait->p.1≠r.call:=fun p hp e=>by
    obtain ⟨j,s,a1,a2,a3⟩:=R.w1 p hp
    obtain rfl:=R.good.qM j i s r a1 h1 (a2.trans e)
    obtain rfl:=iA.one h1 a1
    exact hop a3
   have A:=R.close (yW:=told us (r.op.toNat - 1) 1 0) (w':=m.wait) (b':=m.back) (q:=iy) h1 (by decide) h3 (wH us _ 1 0)
    (fun k u hk=>by
     rcases zV hk with ⟨e,h⟩|⟨e,h⟩
     ·exact .inl ⟨by omega,h⟩
     ·exact .inr ⟨by omega,h⟩) R.w0 (fun p hp=>⟨hp,hw p hp⟩) (fun p hp _=>hp) R.b0 (fun p hp=>.inl hp) R.n2
   refine ⟨?_,rfl⟩
   have e1:(jJ m i iy)={m with recs:=m.recs.set i {r with wI:=m.clock,fin:=iy},wait:=m.wait,back:=m.back}:=by
    unfold jJ;rw [h1.1];simp only;rw [rj hw]
   have e2:uk S r.call x i r iy={uk S r.call x i r iy with wait:=m.wait,back:=m.back.map (·.1)}:=by
    rw [<-R.wait,<-R.back];rfl
   show Rel nl no (n+1) (uk S r.call x i r iy) _ (jJ m i iy)
   rw [e1,e2];exact A.mono
  ·rw [if_neg hop,if_neg (by omega)]
   have A:=R.close (yW:=us) (w':=aJ m.wait r.call) (b':=m.back) (q:=ie) h1 (by decide) h3 rfl
    (fun k u hk=>.inr ⟨by omega,hk⟩) (nK R.w0 _) (fun p hp=>nM.1 hp) (fun p hp h=>nM.2 ⟨hp,h⟩) R.b0 (fun p hp=>.inl hp) (by have:=R.n2;have:=jQ m.wait r.call;omega)
   refine ⟨?_,rfl⟩
   have e1:(jJ m i ie)={m with recs:=m.recs.set i {r with wI:=m.clock,fin:=ie},wait:=aJ m.wait r.call,back:=m.back}:=by
    unfold jJ;rw [h1.1]
   have e2:({uk S r.call x i r ie with wait:=aJ S.wait r.call}:Hs)={uk S r.call x i r ie with wait:=aJ m.wait r.call,back:=m.back.map (·.1)}:=by
    rw [<-R.wait,<-R.back];rfl
   show Rel nl no (n+1) ({uk S r.call x i r ie with wait:=aJ S.wait r.call}:Hs) _ (jJ m i ie)
   rw [e1,e2];exact A.mono
theorem Rel.wD (P:Int):∀(rest:List (Int × Int)) (q:Wq) (mm:Rm) (t:Bs),Rel nl no n {q.S with wait:=q.keep++rest} us mm->q.text=t->
 Rel nl no n {(rest.foldl (bP P) q).S with wait:=(rest.foldl (bP P) q).keep} us (rest.foldl (fB P) (mm,t)).1/\(rest.foldl (bP P) q).text=(rest.foldl (fB P) (mm,t)).2
 |[],q,mm,t,R,ht=>by
  rw [List.append_nil] at R
  exact ⟨R,ht⟩
 |p::rest,q,mm,t,R,ht=>by
  rw [List.foldl_cons,List.foldl_cons]
  have hw:mm.wait=q.keep++p::rest:=R.wait.symm
  obtain ⟨i,r,h1,h2,h3⟩:=R.w1 p (by rw [hw];simp)
  obtain ⟨mj,x,kE,hx⟩:=R.P5 h1
  rw [h2] at mj kE
  have Y6:q.S.of p.1=some x:=kE
  have YY:q.S.rc p.1=some i:=mj
  have QG:q.S.recs=mm.recs:=R.recs
  have gv:q.S.clock=mm.clock:=R.clock
  have sD:q.S.back=mm.back.map (·.1):=R.back
  have es:bP P q p=if q.S.clock - r.jy<P then {q with keep:=q.keep++[p]} else ⟨{uk q.S p.1 x i r eT with back:=q.S.back++[p.1]},q.keep,q.text++(32::L_ p.1)⟩:=by
   unfold bP;rw [Y6,YY];simp only;rw [QG,h1.1]
  have er:fB P (mm,t) p=if mm.clock - r.jy>=P then ({jJ mm i eT with back:=mm.back++[p]},t++(32::L_ p.1)) else (mm,t):=by
   unfold fB;simp only;rw [kX R.good h1 h2];simp only;rw [h1.1]
  rw [es,er]
  by_cases hlt:q.S.clock - r.jy<P
  ·rw [if_pos hlt,if_neg (by omega)]
   refine Rel.wD P rest _ mm t ?_ ht
   show Rel nl no n {q.S with wait:=(q.keep++[p])++rest} us mm
   rw [List.append_assoc];exact R
  ·rw [if_neg hlt,if_pos (by omega)]
   have hn:=R.w0
   rw [hw] at hn
   refine Rel.wD P rest _ _ _ ?_ (by show q.text++_=_;rw [ht])
   have yJ:∀p',p'∈q.keep++rest↔p'∈mm.wait/\p'.1≠r.call:=by
    intro p'
    rw [<-rk hn,nM,hw,h2]
   have A:=R.close (yW:=us) (w':=q.keep++rest) (b':=mm.back++[p]) (q:=eT) h1 (by decide) hx rfl
    (fun k u hk=>.inr ⟨by omega,hk⟩) (by rw [<-rk hn];exact nK hn _) (fun p' Sx=>(yJ p').1 Sx) (fun p' a b=>(yJ p').2 ⟨a,b⟩)
    (by
     rw [List.map_append,List.nodup_append]
     refine ⟨R.b0,by simp, ?_⟩
     intro a ha b hb
     obtain ⟨p',Sx,rfl⟩:=List.mem_map.1 ha
     simp at hb
     rw [hb]
     exact fun e=>R.b1 p' Sx i r h1 (h2.trans e.symm))
    (fun p' Sx=>by
     rw [List.mem_append,List.mem_singleton] at Sx
     rcases Sx with h|rfl
     ·exact .inl h
     ·exact .inr h2.symm)
    (by
     have:=R.n2
     rw [hw] at this
     simp only [K_,List.length_cons,List.length_nil] at this ⊢
     omega)
   have e1:({jJ mm i eT with back:=mm.back++[p]}:Rm)={mm with recs:=mm.recs.set i {r with wI:=mm.clock,fin:=eT},wait:=q.keep++rest,back:=mm.back++[p]}:=by
    unfold jJ;rw [h1.1];simp only;rw [h2,hw,rk hn]
   have e2:({({uk q.S p.1 x i r eT with back:=q.S.back++[p.1]}:Hs) with wait:=q.keep++rest}:Hs)={uk {q.S with wait:=q.keep++p::rest} r.call x i r eT with wait:=q.keep++rest,back:=(mm.back++[p]).map (·.1)}:=by
    rw [h2,sD];simp [uk]
   show Rel nl no n ({({uk q.S p.1 x i r eT with back:=q.S.back++[p.1]}:Hs) with wait:=q.keep++rest}:Hs) us ({jJ mm i eT with back:=mm.back++[p]}:Rm)
   rw [e1,e2];exact A
theorem Rel.waits (R:Rel nl no n S us m) (P:Int) (h0:0<=d) (h1:d<=60):Rel nl no (n+1) (waited P S d).1 us (mB P m d).1/\(waited P S d).2=(mB P m d).2:=by
 have hw:S.wait=m.wait:=R.wait
 have:=Rel.wD P m.wait ⟨{S with clock:=S.clock+d},[],rI++L_ (S.clock+d)⟩ {m with clock:=m.clock+d} (rI++L_ (m.clock+d)) (by
  have e:({({S with clock:=S.clock+d}:Hs) with wait:=[]++m.wait}:Hs)={S with clock:=S.clock+d}:=by rw [List.nil_append,<-hw]
  show Rel nl no (n+1) {({S with clock:=S.clock+d}:Hs) with wait:=[]++m.wait} us _
  rw [e]
  exact R.tick h0 h1) (by show _++_=_;rw [R.clock])
 unfold waited waitAll mB
 rw [<-hw] at this ⊢
 exact this
theorem yi (P:Int) (q:Rm × Bs) (p:Int × Int):(fB P q p).1.log=q.1.log:=by
 unfold fB
 split
 ·rfl
 ·split
  ·rfl
  ·split
   ·show (jJ q.1 _ eT).log=_
    unfold jJ;split<;>rfl
   ·rfl
theorem GN (P:Int) (m:Rm) (d:Int):(mB P m d).1.log=m.log:=by
 have:∀(ws:List (Int × Int)) (q:Rm × Bs),(ws.foldl (fB P) q).1.log=q.1.log:=by
  intro ws
  induction ws with
  |nil=>intro q;rfl
  |cons p ws ih=>intro q;rw [List.foldl_cons,ih,yi]
 unfold mB
 exact this _ _
theorem yZ (nl:Nat) (P:Int) (m:Rm) (e:Ev):(qy nl P m e).1.log=m.log:=by
 have he:∀i q,(jJ m i q).log=m.log:=fun i q=>by unfold jJ;split<;>rfl
 cases e with
 |ring c pt=>
  show (kS nl m c pt).1.log=_
  unfold kS
  split
  ·rfl
  ·split<;>rfl
 |hang c=>
  show (lv m c).1.log=_
  unfold lv
  split
  ·split
   ·rfl
   ·split<;>exact he _ _
  ·split<;>rfl
 |answer i=>
  show (hZ m _).1.log=_
  unfold hZ
  split
  ·rfl
  ·split
   ·rfl
   ·split
    ·rfl
    ·split<;>rfl
 |back i=>
  show (lD nl m _).1.log=_
  unfold lD
  split
  ·rfl
  ·split
   ·rfl
   ·split<;>rfl
 |wait d=>exact GN P m d
theorem Rel.A9 (R:Rel nl no n S us m) (P:Int) {e:Ev} (h:e.good no):Same nl no (n+1) (gZ P S us e) (qy nl P m e):=by
 cases e with
 |ring c pt=>exact R.ring h.1.1 h.1.2
 |hang c=>exact R.hangs c
 |answer i=>exact R.answer h
 |back i=>exact R.calls h
 |wait d=>exact R.waits P (by have:=h.1;omega) h.2
theorem Rel.step (R:Rel nl no n S us m) (P:Int) {e:Ev} (h:e.good no):Rel nl no (n+1) (B6 P (S,us) e).1 (B6 P (S,us) e).2 (Ca nl P m e):=by
 obtain ⟨A,e2⟩:=R.A9 P h
 unfold B6 Ca
 exact ⟨A.good,A.recs,A.clock,A.wait,A.back,by show _++_=_++_;rw [A.log,e2],A.cg,A.ll,A.nd,A.ul,A.JE,A.MQ,A.Oq,A.MN,A.LY,A.MV,A.w0,A.w1,A.w2,A.b0,A.b1,A.b2,A.jy,A.cl,A.n1,A.n2,A.n4⟩
theorem Rel.Ro (R:Rel nl no n S us m) (hn:n<=60) (hl:nl<=1000):BA S us:=by
 have h1:=R.n1;have h2:=R.n2;have h4:=R.n4
 have e1:S.recs.length=m.recs.length:=by rw [R.recs]
 have e2:S.wait.length=m.wait.length:=by rw [R.wait]
 have e3:S.back.length=m.back.length:=by rw [R.back,List.length_map]
 have e4:=R.ll
 have e5:=R.clock
 have e6:=R.cl
 refine ⟨⟨by omega,by omega,by omega,by omega⟩,⟨by omega,by omega,by omega, ?_⟩,⟨by rw [R.wait];exact R.w0, ?_, ?_, ?_,by omega,by omega,by omega⟩,⟨by omega,by omega, ?_⟩,by omega,by omega⟩
 ·intro c x hx
  obtain ⟨i,r,a1,a2,a3,a4⟩:=R.JE c x hx
  obtain ⟨hlt,e⟩:=List.getElem?_eq_some_iff.1 a1.1
  have hg:S.recs[i]'(by omega)=r:=by
   have:S.recs[i]?=some r:=by rw [R.recs];exact a1.1
   exact (List.getElem?_eq_some_iff.1 this).2
  refine ⟨i,by omega,a4, ?_⟩
  rw [hg]
  have:=R.good.G8 i r a1.1
  by_cases h0:r.op=0
  ·exact .inl h0
  ·have:=R.ul
   exact .inr ⟨(r.op - 1).toNat,by omega,by omega⟩
 ·intro j hj
  have hp:S.wait[j]∈m.wait:=by rw [<-R.wait];exact List.getElem_mem hj
  obtain ⟨i,r,a1,a2,a3⟩:=R.w1 _ hp
  obtain ⟨b1,x,b2,b3⟩:=R.P5 a1
  rw [a2] at b1 b2
  have:=(List.getElem?_eq_some_iff.1 a1.1).1
  exact ⟨x,i,b2,b1,by omega⟩
 ·intro j hj
  have hp:S.wait[j]∈m.wait:=by rw [<-R.wait];exact List.getElem_mem hj
  obtain ⟨i,r,a1,a2,a3⟩:=R.w1 _ hp
  have:=R.good.G8 i r a1.1
  omega
 ·intro i hi
  have hg:m.recs[i]?=some S.recs[i]:=by rw [<-R.recs];exact G_ hi
  have:=R.jy i _ hg
  omega
 ·intro c hc
  rw [R.back] at hc
  obtain ⟨p,hp,rfl⟩:=List.mem_map.1 hc
  have:=R.b2 p hp
  omega
variable {ls:List Nat}
theorem Rel.zero (hd:ls.Nodup) (hl:ls.length=nl) (hu:us.length=no) (h0:∀u∈us,Od.k u=0):Rel nl no 0 (LK ls) us ⟨[],[],[],0,[]⟩:=by
 have hno:∀{i:Nat} {r:Rec},¬iA [] i r:=fun h=>by have:=h.1;simp at this
 refine ⟨⟨fun _ _ _ _ h=>absurd h hno,fun _ _ _ _ h=>absurd h hno,fun _ _ _ _ h=>absurd h hno,fun i r h=>by simp at h⟩,rfl,rfl,rfl,rfl,rfl,rfl,hl,hd,hu,fun c x h=>(by cases h),fun i r h=>absurd h hno,fun x c h=>(by cases h),fun _ _ _ h=>absurd h hno,fun _ _ _ _ _ h=>absurd h hno,fun q u hq hk=>absurd (h0 u (List.mem_iff_getElem?.2 ⟨q,hq⟩)) hk,by simp,fun p h=>(by cases h),fun _ _ h=>absurd h hno,by simp,fun p h=>(by cases h),fun p h=>(by cases h),fun i r h=>by simp at h,Int.le_refl _,C_ _,C_ _,Int.le_refl _⟩
variable {P:Int} {evs:List Ev}
theorem G6 (hk:k<evs.length):ja nl P (evs.take (k+1))=Ca nl P (ja nl P (evs.take k)) evs[k]:=by
 unfold ja
 rw [sC hk,List.foldl_append];rfl
theorem wO {nl no:Nat} {ls:List Nat} {us:List Od} {P:Int} {evs:List Ev} (hd:ls.Nodup) (hl:ls.length=nl) (hu:us.length=no) (h0:∀u∈us,Od.k u=0) (he:∀e∈evs,Ev.good no e):
 ∀k,k<=evs.length->Rel nl no k (eC P (LK ls,us) (evs.take k)).1 (eC P (LK ls,us) (evs.take k)).2 (ja nl P (evs.take k))/\(ja nl P (evs.take k)).log.length=k
 |0,_=>⟨by rw [List.take_zero];exact Rel.zero hd hl hu h0,by rw [List.take_zero];rfl⟩
 |k+1,hk=>by
  obtain ⟨R,h2⟩:=wO (P:=P) hd hl hu h0 he k (by omega)
  rw [zd (by omega),G6 (by omega)]
  refine ⟨R.step P (he _ (List.getElem_mem _)), ?_⟩
  show ((qy nl P _ _).1.log++[(qy nl P _ _).2]).length=_
  rw [yZ,K_,List.length_singleton,h2]
theorem Ag (hd:ls.Nodup) (hl:ls.length=nl) (hu:us.length=no) (h0:∀u∈us,Od.k u=0) (he:∀e∈evs,Ev.good no e) (hn:evs.length<=60) (rp:nl<=1000) (hno:no<=999):
 GG P ls us evs/\Rel nl no evs.length (eC P (LK ls,us) evs).1 (eC P (LK ls,us) evs).2 (ja nl P evs):=by
 have eU:=(wO (P:=P) hd hl hu h0 he evs.length (C_ _)).1
 rw [List.take_length] at eU
 refine ⟨⟨fun k hk=> ?_,by rw [eU.ul];exact hno,eU.cg⟩,eU⟩
 obtain ⟨R,h2⟩:=wO (P:=P) hd hl hu h0 he k (by omega)
 have hg:=he _ (List.getElem_mem hk)
 refine ⟨?_,R.Ro (by omega) rp, ?_⟩
 ·rw [R.ul]
  cases hx:evs[k] with
  |ring c pt=>rw [hx] at hg;have:=hg.1;exact ⟨by omega,by omega⟩
  |hang c=>trivial
  |answer i=>rw [hx] at hg;exact hg
  |back i=>rw [hx] at hg;exact hg
  |wait d=>rw [hx] at hg;have:=hg.1;have:=hg.2;exact ⟨by omega,by omega⟩
 ·rw [(R.A9 P hg).1.log,yZ,h2];omega
end
section
open Go Go.Conc Go.Conc.Lib Go.ConcR Go.ConcR.Gen Go.aC Go.Proofs
open Go.RowKit hiding Hid
open Go.ConcN (upd upd_ne upd_same)
theorem dx (n lo hi:Int) (w:J'):d_ p_ 52 #[.int .i64 n,.int .i64 lo,.int .i64 hi] w fun e w'=>e=.returned (.bool (decide (lo<=n)&&decide (n<=hi)))/\w'=w:=by
 by_cases h:lo<=n
 ·have hd:decide (lo<=n)=true:=by simpa using h
  go_enter func52,ntmps52
  go_wp2
  go_ret
  exact ⟨by first|rfl|(rw [hd];rfl),rfl⟩
 ·have hd:decide (lo<=n)=false:=by simpa using h
  go_enter func52,ntmps52
  go_wp2
  go_ret
  exact ⟨by first|rfl|(rw [hd];rfl),rfl⟩
def ox (u:Nat) (tail:Bs):Bs:=Lib.decDigits u++tail
theorem xT (u:Nat) (tail:Bs) (h:9<u):ox (u / 10) (UInt8.ofNat (48+u % 10)::tail)=ox u tail:=by
 unfold ox
 conv=>rhs;rw [Lib.decDigits,dif_neg (by omega)]
 simp
theorem xU (u:Nat) (tail:Bs) (h:u<=9):ox u tail=UInt8.ofNat (48+u)::tail:=by
 unfold ox;rw [Lib.decDigits,dif_pos (by omega)];rfl
theorem zD {v u:Nat} {l:Bs} (h:ox v l=Lib.decDigits u) (hu:u<=9223372036854775807):l.length<=21:=by
 have h1:=Lib.itoa_length_le (u:Int) (by omega) (by omega)
 unfold L_ at h1
 rw [if_neg (by omega),Int.toNat_natCast,<-h] at h1
 unfold ox at h1
 rw [K_] at h1
 omega
theorem uj (w:J') (n:Int):(convert 42 9 (.slice (some ⟨w.heap.size,0,none⟩) 1 1)).run p_ (w.alloc (.cells #[.int .u8 n] 5))=.ok (.string ⟨#[UInt8.ofNat n.toNat]⟩) (w.alloc (.cells #[.int .u8 n] 5)):=by
 rw [run_convert_bytes_string _ 42 9 5 _ _ _ Tryz.underlying42 Tryz.underlying5 Tryz.underlying9]
 rw [run_bytesToString _ _ 1 1 [n]]
 ·rfl
 ·have:=run_loadCells_list (P:=p_) (w.alloc (.cells #[.int .u8 n] 5)) ⟨w.heap.size,0,none⟩ [.int .u8 n] (by
   intro j v hj
   match j,hj with
   |0,hj=>simp at hj;subst hj;simp [Addr.add])
  simpa using this
theorem NQ (u:Nat) (w:J') (hu:u<=9223372036854775807):
 d_ p_ 113 #[.int .i64 (u:Int)] w fun e w'=>e=.returned (.string ⟨(Lib.decDigits u).toArray⟩)/\g_ w.heap.size w w':=by
 have h1:decide ((u:Int)< -9223372036854775807)=false:=by simp
 have h2:decide ((u:Int)<0)=false:=by simp
 go_enter func113,ntmps113
 go_wp2
 go_loopw [0,3] (fun n out wr=>∃(v:Nat) (l:Bs),n=.int .i64 (v:Int)/\v<=9223372036854775807/\out=.string ⟨l.toArray⟩/\f_ (ox v l=Lib.decDigits u)/\g_ w.heap.size w wr) (fun n _ _=>(intOf n).toNat)
 case atStart=>exact ⟨u,[],rfl,hu,rfl,by simp [f_,ox],h_ _ _⟩
 case round=>
  obtain ⟨v,l,rfl,hv,rfl,H,hb⟩:=hrel
  have Ma:=zD H.out hu
  by_cases hlt:9<v
  ·have gJ:(9:Int)<(v:Int):=by omega
   obtain ⟨c,hc⟩:∃c:UInt8,UInt8.ofNat (48+v % 10)=c:=⟨_,rfl⟩
   have hcv:=uj wr (48+(v:Int) % 10)
   rw [show (48+(v:Int) % 10).toNat=48+v % 10 from by omega,hc] at hcv
   have H2:f_ (ox (v / 10) (c::l)=Lib.decDigits u):=by rw [f_,<-hc,xT _ _ hlt];exact H.out
   clear hc
   go_wp2
   go_roundw
   case rel=>exact ⟨v / 10,c::l,by go_num,by omega,by congr 1,H2,hb.alloc hb.size _⟩
   case measure=>simp [intOf];omega
  ·have gJ:¬(9:Int)<(v:Int):=by omega
   obtain ⟨c,hc⟩:∃c:UInt8,UInt8.ofNat (48+v)=c:=⟨_,rfl⟩
   have hcv:=uj wr (48+(v:Int))
   rw [show (48+(v:Int)).toNat=48+v from by omega,hc] at hcv
   have H2:f_ (c::l=Lib.decDigits u):=by rw [f_,<-hc,<-H.out,xU _ _ (by omega)]
   clear hc
   go_wp2
   go_ret
   exact ⟨by (rw [<-H2.out];congr 2),hb.alloc hb.size _⟩
theorem lp (n:Int) (w:J') (h0:0<=n) (h1:n<=1000000000):
 d_ p_ 113 #[.int .i64 n] w fun e w'=>e=.returned (.string ⟨(L_ n).toArray⟩)/\g_ w.heap.size w w':=by
 obtain ⟨u,rfl⟩:=Int.eq_ofNat_of_zero_le h0
 rw [show L_ (u:Int)=Lib.decDigits u by unfold L_;rw [if_neg (by omega),Int.toNat_natCast]]
 exact NQ u w (by omega)
def gL (w:J') (v:M') (n:Nat) (xs:List M'):Prop:=(∃a cap,v=.slice a n cap)/\(0<xs.length->∃g cap,v=.slice (some ⟨g,0,none⟩) n cap/\n<=cap/\∀j (_:j<xs.length),w.cell? ⟨g,j,none⟩=xs[j]?)
variable {w:J'} {B sz:Nat} {xs:List M'}
theorem Ed {e n:Nat} {v:M'} (h:w.ownsRow B e sz v n xs) (hs:0<xs.length->0<n):gL w v n xs:=by
 refine ⟨aE h,fun hl=> ?_⟩
 obtain ⟨g,cap,cur,hv,_,_,hc,_⟩:=cz h (hs hl)
 subst hv
 have hx:xs.length=n * sz:=h.1
 exact ⟨g,cap,rfl,hc,fun j hj=>h.cellAt j (by rw [<-hx];exact hj)⟩
variable {w':J'}
theorem gL.keep {v:M'} {n:Nat} (h:gL w v n xs) (hk:∀g,v.ownBlock=some g->w'.heap[g]?=w.heap[g]?):gL w' v n xs:=by
 refine ⟨h.1,fun hl=> ?_⟩
 obtain ⟨g,cap,hv,hc,hcell⟩:=h.2 hl
 exact ⟨g,cap,hv,hc,fun j hj=>(J_ (hk g (by rw [hv];rfl))).trans (hcell j hj)⟩
theorem Ad (rs:List Rec):(cj rs).length=rs.length * 7:=by
 unfold cj;induction rs with
 |nil=>rfl
 |cons r rs ih=>rw [List.flatMap_cons,K_,ih];simp [Rec.cells];omega
theorem pT (ws:List (Int × Int)):(ax ws).length=ws.length * 2:=by
 unfold ax;induction ws with
 |nil=>rfl
 |cons r rs ih=>rw [List.flatMap_cons,K_,ih];simp;omega
variable {rs:List Rec} {i:Nat}
theorem nH {v:M'} (h:gL w v rs.length (cj rs)) (hi:i<rs.length):∃g cap,v=.slice (some ⟨g,0,none⟩) rs.length cap/\rs.length<=cap/\(w.cell? ⟨g,i * 7,none⟩=some (.int .i64 (rs[i]).call)/\w.cell? ⟨g,i * 7+1,none⟩=some (.int .i64 (rs[i]).line)/\w.cell? ⟨g,i * 7+2,none⟩=some (.int .i64 (rs[i]).op)/\w.cell? ⟨g,i * 7+3,none⟩=some (.int .i64 (rs[i]).jy)/\w.cell? ⟨g,i * 7+4,none⟩=some (.int .i64 (rs[i]).heard)/\w.cell? ⟨g,i * 7+5,none⟩=some (.int .i64 (rs[i]).wI)/\w.cell? ⟨g,i * 7+6,none⟩=some (.string ⟨(rs[i]).fin.toArray⟩)):=by
 have hl:=Ad rs
 obtain ⟨g,cap,hv,hc,hcell⟩:=h.2 (by omega)
 have hx:∀k,k<7->w.cell? ⟨g,i * 7+k,none⟩=((rs[i]).cells)[k]?:=fun k hk=>(hcell _ (by omega)).trans (jr Rec.cells 7 (fun _=>rfl) rs i k hi hk)
 exact ⟨g,cap,hv,hc,hx 0 (by omega),hx 1 (by omega),hx 2 (by omega),hx 3 (by omega),hx 4 (by omega),hx 5 (by omega),hx 6 (by omega)⟩
variable {ws:List (Int × Int)}
theorem pR {v:M'} (h:gL w v ws.length (ax ws)) (hi:i<ws.length):∃g cap,v=.slice (some ⟨g,0,none⟩) ws.length cap/\ws.length<=cap/\(w.cell? ⟨g,i * 2,none⟩=some (.int .i64 (ws[i]).1)/\w.cell? ⟨g,i * 2+1,none⟩=some (.int .i64 (ws[i]).2)):=by
 have hl:=pT ws
 obtain ⟨g,cap,hv,hc,hcell⟩:=h.2 (by omega)
 have hx:∀k,k<2->w.cell? ⟨g,i * 2+k,none⟩=([ah .i64 (ws[i]).1,ah .i64 (ws[i]).2])[k]?:=fun k hk=>(hcell _ (by omega)).trans (jr (fun p:Int × Int=>[ah .i64 p.1,ah .i64 p.2]) 2 (fun _=>rfl) ws i k hi hk)
 exact ⟨g,cap,hv,hc,hx 0 (by omega),hx 1 (by omega)⟩
theorem Ak {q:Bs} (h:q≠eR):((⟨q.toArray⟩:ByteArray).toList==[111,112,101,110])=false:=by
 rw [<-(show (⟨#[111,112,101,110]⟩:ByteArray).toList=[111,112,101,110] from ByteArray.toList_eq ⟨#[111,112,101,110]⟩)]
 refine (Lib.bytes_beq_false_iff _ ⟨#[111,112,101,110]⟩).2 fun e=>h ?_
 have:=congrArg (fun b:ByteArray=>b.data.toList) e
 simpa [eR] using this
def qA (rs:List Rec) (c:Int):Int:=match dE rs c with|some i=>(i:Nat)|none=> -1
def kG (ws:List (Int × Int)) (c:Int):Int:=match ws.findIdx? (fun p=>decide (p.1=c)) with|some i=>(i:Nat)|none=> -1
variable {k:Nat}
theorem Ek {c:Int} (hk:k<rs.length) (h:(decide ((rs[k]).call=c)&&isOpen rs[k])=true) (hb:∀j (hj:j<k),(decide ((rs[j]'(by omega)).call=c)&&isOpen (rs[j]'(by omega)))=false):qA rs c=(k:Nat):=by
 have:dE rs c=some k:=by
  unfold dE
  rw [List.findIdx?_eq_some_iff_getElem]
  exact ⟨hk,h,fun j hj=>by simp only [hb j hj];simp⟩
 unfold qA;rw [this]
theorem El {c:Int} (hb:∀j (hj:j<rs.length),(decide ((rs[j]).call=c)&&isOpen rs[j])=false):qA rs c= -1:=by
 have:dE rs c=none:=by
  unfold dE
  rw [List.findIdx?_eq_none_iff]
  intro r hr
  obtain ⟨j,hj,rfl⟩:=List.mem_iff_getElem.1 hr
  exact hb j hj
 unfold qA;rw [this]
theorem E2 {c:Int} (hk:k<ws.length) (h:(ws[k]).1=c) (hb:∀j (hj:j<k),(ws[j]'(by omega)).1≠c):kG ws c=(k:Nat):=by
 have:ws.findIdx? (fun p=>decide (p.1=c))=some k:=by
  rw [List.findIdx?_eq_some_iff_getElem]
  exact ⟨hk,decide_eq_true h,fun j hj=>by simp [hb j hj]⟩
 unfold kG;rw [this]
theorem E3 {c:Int} (hb:∀j (hj:j<ws.length),(ws[j]).1≠c):kG ws c= -1:=by
 have:ws.findIdx? (fun p=>decide (p.1=c))=none:=by
  rw [List.findIdx?_eq_none_iff]
  intro r hr
  obtain ⟨j,hj,rfl⟩:=List.mem_iff_getElem.1 hr
  simp [hb j hj]
 unfold kG;rw [this]
theorem GV {o:Int} (hk:k<rs.length) (h:(decide ((rs[k]).op=o)&&isOpen rs[k])=true) (hb:∀j (hj:j<k),(decide ((rs[j]'(by omega)).op=o)&&isOpen (rs[j]'(by omega)))=false):ez rs o=(rs[k]).call:=by
 have:rs.find? (fun r=>decide (r.op=o)&&isOpen r)=some rs[k]:=by
  rw [List.find?_eq_some_iff_getElem]
  exact ⟨h,k,hk,rfl,fun j hj=>by rw [hb j hj];rfl⟩
 unfold ez;rw [this]
theorem GU {o:Int} (hb:∀j (hj:j<rs.length),(decide ((rs[j]).op=o)&&isOpen rs[j])=false):ez rs o=0:=by
 have:rs.find? (fun r=>decide (r.op=o)&&isOpen r)=none:=by
  rw [List.find?_eq_none]
  intro r hr
  obtain ⟨j,hj,rfl⟩:=List.mem_iff_getElem.1 hr
  rw [hb j hj];simp
 unfold ez;rw [this]
theorem nO {v:M'} (hr:gL w v rs.length (cj rs)) (hn:rs.length<=1000) (c:Int):
 d_ p_ 110 #[v,.int .i64 c] w fun e w'=>e=.returned (.int .i64 (qA rs c))/\w'=w:=by
 obtain ⟨a₁,pC,sn⟩:=hr.1
 subst sn
 have hR:=aa hr
 clear hr
 go_enter func110,ntmps110
 go_wp2
 go_loopw [5] (fun i wr=>∃k:Nat,k<=rs.length/\i=.int .i64 k/\f_ (∀j (hj:j<k) (Dy:j<rs.length),(decide ((rs[j]).call=c)&&isOpen rs[j])=false)/\w=wr) (fun i _=>rs.length - (intOf i).toNat)
 case atStart=>exact ⟨0,nz _,rfl,fun j hj=>by omega,rfl⟩
 case round=>
  obtain ⟨k,hk,rfl,hT,rfl⟩:=hrel
  by_cases hlt:k<rs.length
  ·have gJ:(k:Int)<(rs.length:Int):=by omega
   obtain ⟨g,cap,hv,lJ,z0,z1,z2,z3,z4,z5,z6⟩:=nH hR.out hlt
   injection hv with e1 e2 e3
   subst e1
   have dS:f_ ((decide ((rs[k]).call=c)&&isOpen rs[k])=true->qA rs c=((k:Nat):Int)):=fun h0=>Ek hlt h0 (fun j hj=>hT.out j hj (by omega))
   have eF:f_ ((decide ((rs[k]).call=c)&&isOpen rs[k])=false->∀j (hj:j<k+1) (Dy:j<rs.length),(decide ((rs[j]).call=c)&&isOpen rs[j])=false):=fun h0 j hj Dy=>by
    by_cases e:j=k
    ·subst e;exact h0
    ·exact hT.out j (by omega) Dy
   generalize rs[k]=r at z0 z1 z2 z3 z4 z5 z6 dS eF
   by_cases hc:r.call=c
   ·by_cases hf:r.fin=eR
    ·have h1:=dS.out (by simp [isOpen,hc,hf])
     rw [hf] at z6
     unfold eR at z6
     clear dS eF z1 z3 z4 z5
     go_wp2
     go_ret
     exact ⟨by first|rfl|(rw [h1];rfl),rfl⟩
    ·have h1:=aa (eF.out (by simp [isOpen,hf]))
     have hne:=Ak hf
     generalize r.fin.toArray=q at z6 hne
     clear dS eF z1 z3 z4 z5
     go_wp2
     go_roundw
     case rel=>first|exact ⟨k+1,by omega,by go_num,h1,trivial⟩|exact ⟨k+1,by omega,by go_num,aa (by simpa using h1.out)⟩|exact ⟨k+1,by omega,by go_num,aa (by simpa using h1.out),trivial⟩
     case measure=>simp [intOf];omega
   ·have h1:=aa (eF.out (by simp [hc]))
    clear dS eF z1 z3 z4 z5 z6
    go_wp2
    go_roundw
    case rel=>first|exact ⟨k+1,by omega,by go_num,h1,trivial⟩|exact ⟨k+1,by omega,by go_num,aa (by simpa using h1.out)⟩|exact ⟨k+1,by omega,by go_num,aa (by simpa using h1.out),trivial⟩
    case measure=>simp [intOf];omega
  ·have h1:=El (rs:=rs) fun j hj=>hT.out j (by omega) hj
   go_wp2
   go_ret
   exact ⟨by first|rfl|(rw [h1];rfl),rfl⟩
theorem uB {v:M'} (hr:gL w v rs.length (cj rs)) (hn:rs.length<=1000) (c:Int):
 d_ p_ 114 #[v,.int .i64 c] w fun e w'=>e=.returned (.int .i64 (ez rs c))/\w'=w:=by
 obtain ⟨a₁,pC,sn⟩:=hr.1
 subst sn
 have hR:=aa hr
 clear hr
 go_enter func114,ntmps114
 go_wp2
 go_loopw [5] (fun i wr=>∃k:Nat,k<=rs.length/\i=.int .i64 k/\f_ (∀j (hj:j<k) (Dy:j<rs.length),(decide ((rs[j]).op=c)&&isOpen rs[j])=false)/\w=wr) (fun i _=>rs.length - (intOf i).toNat)
 case atStart=>exact ⟨0,nz _,rfl,fun j hj=>by omega,rfl⟩
 case round=>
  obtain ⟨k,hk,rfl,hT,rfl⟩:=hrel
  by_cases hlt:k<rs.length
  ·have gJ:(k:Int)<(rs.length:Int):=by omega
   obtain ⟨g,cap,hv,lJ,z0,z1,z2,z3,z4,z5,z6⟩:=nH hR.out hlt
   injection hv with e1 e2 e3
   subst e1
   have dS:f_ ((decide ((rs[k]).op=c)&&isOpen rs[k])=true->ez rs c=(rs[k]).call):=fun h0=>GV hlt h0 (fun j hj=>hT.out j hj (by omega))
   have eF:f_ ((decide ((rs[k]).op=c)&&isOpen rs[k])=false->∀j (hj:j<k+1) (Dy:j<rs.length),(decide ((rs[j]).op=c)&&isOpen rs[j])=false):=fun h0 j hj Dy=>by
    by_cases e:j=k
    ·subst e;exact h0
    ·exact hT.out j (by omega) Dy
   generalize rs[k]=r at z0 z1 z2 z3 z4 z5 z6 dS eF
   by_cases hc:r.op=c
   ·by_cases hf:r.fin=eR
    ·have h1:=dS.out (by simp [isOpen,hc,hf])
     rw [hf] at z6
     unfold eR at z6
     clear dS eF z1 z3 z4 z5
     go_wp2
     go_ret
     exact ⟨by first|rfl|(rw [h1];rfl),rfl⟩
    ·have h1:=aa (eF.out (by simp [isOpen,hf]))
     have hne:=Ak hf
     generalize r.fin.toArray=q at z6 hne
     clear dS eF z1 z3 z4 z5
     go_wp2
     go_roundw
     case rel=>first|exact ⟨k+1,by omega,by go_num,h1,trivial⟩|exact ⟨k+1,by omega,by go_num,aa (by simpa using h1.out)⟩|exact ⟨k+1,by omega,by go_num,aa (by simpa using h1.out),trivial⟩
     case measure=>simp [intOf];omega
   ·have h1:=aa (eF.out (by simp [hc]))
    clear dS eF z1 z3 z4 z5 z6
    go_wp2
    go_roundw
    case rel=>first|exact ⟨k+1,by omega,by go_num,h1,trivial⟩|exact ⟨k+1,by omega,by go_num,aa (by simpa using h1.out)⟩|exact ⟨k+1,by omega,by go_num,aa (by simpa using h1.out),trivial⟩
    case measure=>simp [intOf];omega
  ·have h1:=GU (rs:=rs) fun j hj=>hT.out j (by omega) hj
   go_wp2
   go_ret
   exact ⟨by first|rfl|(rw [h1];rfl),rfl⟩
theorem xl {v:M'} (hr:gL w v ws.length (ax ws)) (hn:ws.length<=1000) (c:Int):
 d_ p_ 111 #[v,.int .i64 c] w fun e w'=>e=.returned (.int .i64 (kG ws c))/\w'=w:=by
 obtain ⟨a₁,pC,sn⟩:=hr.1
 subst sn
 have hR:=aa hr
 clear hr
 go_enter func111,ntmps111
 go_wp2
 go_loopw [5] (fun i wr=>∃k:Nat,k<=ws.length/\i=.int .i64 k/\f_ (∀j (hj:j<k) (Dy:j<ws.length),(ws[j]).1≠c)/\w=wr) (fun i _=>ws.length - (intOf i).toNat)
 case atStart=>exact ⟨0,nz _,rfl,fun j hj=>by omega,rfl⟩
 case round=>
  obtain ⟨k,hk,rfl,hT,rfl⟩:=hrel
  by_cases hlt:k<ws.length
  ·have gJ:(k:Int)<(ws.length:Int):=by omega
   obtain ⟨g,cap,hv,lJ,z0,z1⟩:=pR hR.out hlt
   injection hv with e1 e2 e3
   subst e1
   have dS:f_ ((ws[k]).1=c->kG ws c=(k:Nat)):=fun h0=>E2 hlt h0 (fun j hj=>hT.out j hj (by omega))
   have eF:f_ ((ws[k]).1≠c->∀j (hj:j<k+1) (Dy:j<ws.length),(ws[j]).1≠c):=fun h0 j hj Dy=>by
    by_cases e:j=k
    ·subst e;exact h0
    ·exact hT.out j (by omega) Dy
   generalize ws[k]=r at z0 z1 dS eF
   by_cases hc:r.1=c
   ·have h1:=dS.out hc
    clear dS eF z1
    go_wp2
    go_ret
    exact ⟨by first|rfl|(rw [h1];rfl),rfl⟩
   ·have h1:=aa (eF.out hc)
    clear dS eF z1
    go_wp2
    go_roundw
    case rel=>first|exact ⟨k+1,by omega,by go_num,h1,trivial⟩|exact ⟨k+1,by omega,by go_num,aa (by simpa using h1.out)⟩|exact ⟨k+1,by omega,by go_num,aa (by simpa using h1.out),trivial⟩
    case measure=>simp [intOf];omega
  ·have h1:=E3 (ws:=ws) fun j hj=>hT.out j (by omega) hj
   go_wp2
   go_ret
   exact ⟨by first|rfl|(rw [h1];rfl),rfl⟩
theorem pX:(Tryz.prog.info? 114).map (fun i=>(i.zero,i.size,i.bytes))=some (some (.agg #[.int .i64 0,.int .i64 0]),2,16):=by kernel_rfl
def Low (w:J') (v:M'):Prop:=∀g,v.ownBlock=some g->g<w.heap.size
theorem gL.below {v:M'} {n:Nat} (h:gL w v n xs) (hl:Low w v) (hb:g_ w.heap.size w w'):gL w' v n xs:=h.keep fun g hg=>hb.block g (hl g hg)
theorem CB {c:Int} (hk:k<ws.length):aJ (ws.take (k+1)) c=aJ (ws.take k) c++(if (ws[k]).1=c then [] else [ws[k]]):=by
 unfold aJ
 rw [sC hk,List.filter_append]
 congr 1
 by_cases h:(ws[k]).1=c<;>simp [h]
theorem gE (a b:List (Int × Int)):ax (a++b)=ax a++ax b:=by simp [ax]
theorem jR {v:M'} (hr:gL w v ws.length (ax ws)) (hl:Low w v) (hn:ws.length<=1000) (c:Int):
 d_ p_ 115 #[v,.int .i64 c] w fun e w'=>∃u,e=.returned u/\w'.ownsRow w.heap.size 114 2 u (aJ ws c).length (ax (aJ ws c))/\g_ w.heap.size w w'/\∃g,u.ownBlock=some g:=by
 obtain ⟨a₁,pC,sn⟩:=hr.1
 subst sn
 have hR:=aa hr
 have hL:=aa hl
 clear hr hl
 have e0:f_ ((w.alloc (.cells #[] 114)).ownsRow w.heap.size 114 2 (.slice (some ⟨w.heap.size,0,none⟩) 0 0) 0 []):=World.ownsRow_lit w #[] 0 (C_ _) (by decide) (by simp)
 have b0:f_ (g_ w.heap.size w (w.alloc (.cells #[] 114))):=(h_ _ _).alloc (C_ _) _
 go_enter func115,ntmps115
 go_wp2
 obtain ⟨i0,qJ,tX,rm,uF⟩:=info_parts pX
 go_loopw [5,6] (fun u i wr=>∃k:Nat,k<=ws.length/\i=.int .i64 k/\f_ (wr.ownsRow w.heap.size 114 2 u (aJ (ws.take k) c).length (ax (aJ (ws.take k) c))/\g_ w.heap.size w wr)/\f_ (∃g,u.ownBlock=some g)) (fun _ i _=>ws.length - (intOf i).toNat)
 case atStart=>exact ⟨0,nz _,rfl,⟨e0.out,b0.out⟩,aa ⟨_,rfl⟩⟩
 case round=>
  clear e0 b0
  obtain ⟨k,hk,rfl,hT,hG⟩:=hrel
  by_cases hlt:k<ws.length
  ·have gJ:(k:Int)<(ws.length:Int):=by omega
   obtain ⟨g,cap,hv,lJ,z0,z1⟩:=pR (hR.out.below hL.out hT.out.2) hlt
   injection hv with e1 e2 e3
   subst e1 e3
   have AZ:f_ (aJ (ws.take (k+1)) c=aJ (ws.take k) c++(if (ws[k]).1=c then [] else [ws[k]])):=CB hlt
   have yK:f_ ((aJ (ws.take k) c).length<=k):=D_ (jQ _ _) (List.length_take_le _ _)
   generalize ws[k]=r at z0 z1 AZ
   by_cases hc:r.1=c
   ·have h1:f_ (aJ (ws.take (k+1)) c=aJ (ws.take k) c):=by rw [f_,AZ.out,if_pos hc,List.append_nil]
    clear AZ z1
    go_wp2
    go_roundw
    case rel=>exact ⟨k+1,by omega,by go_num,by rw [h1.out];exact hT,hG⟩
    case measure=>simp [intOf];omega
   ·have h1:f_ (aJ (ws.take (k+1)) c=aJ (ws.take k) c++[r]):=by rw [f_,AZ.out,if_neg hc]
    have ub:=aa hT.out.2.size
    clear AZ
    go_wp2_with (at_builtin;refine wpList_append_lies _ rfl (.tmp 21) (.tmp 26) 61 rfl w.heap.size 114 i0 _ 2 16 Tryz.underlying61 qJ tX rm uF rfl (by decide) _ _ _ rfl (hT.out.1.alloc _) ⟨wr.heap.size,0,none⟩ 1 1 [.int .i64 r.1,.int .i64 r.2] rfl rfl (fY wr _ _ rfl) ?c1 (by omega) ?c3 ?c4 ?c5 _ rfl ?_)
    case c1=>exact ⟨rfl,rfl⟩
    case c3=>have:=yK.out;unfold maxLen;omega
    case c4=>have:=yK.out;omega
    case c5=>have:=ub.out;omega
    intro gg mW w6 jl kh iP mR
    have EU:f_ (w6.ownsRow w.heap.size 114 2 (.slice (some ⟨gg,0,none⟩) ((aJ (ws.take k) c).length+1) mW) (aJ (ws.take (k+1)) c).length (ax (aJ (ws.take (k+1)) c))/\g_ w.heap.size w w6):=by
     refine ⟨?_,(hT.out.2.alloc ub.out _).grown kh (by have:=ub.out;rw [B_];omega) fun g e=>(hT.out.1.lt g e).1⟩
     rw [h1.out,K_,gE];exact jl
    clear jl kh iP mR hT
    go_wp2_with fail
    go_roundw
    case rel=>exact ⟨k+1,by omega,by go_num,EU,aa ⟨_,rfl⟩⟩
    case measure=>simp [intOf];omega
  ·have h1:=hT.out
   rw [List.take_of_length_le (by omega)] at h1
   replace h1:=aa h1
   clear hT
   go_wp2
   go_ret
   exact ⟨_,rfl,h1.out.1,h1.out.2,hG.out⟩
theorem US {v:M'} (hr:gL w v ws.length (ax ws)) (hl:Low w v) (hn:ws.length<=1000):
 d_ p_ 48 #[v] w fun e w'=>∃u,e=.returned u/\w'.ownsRow w.heap.size 3 1 u ws.length (ws.map fun p=>ah .i64 p.1)/\g_ w.heap.size w w':=by
 obtain ⟨a₁,pC,sn⟩:=hr.1
 subst sn
 have hR:=aa hr
 have hL:=aa hl
 clear hr hl
 have e0:f_ ((w.alloc (.cells #[] 3)).ownsRow w.heap.size 3 1 (.slice (some ⟨w.heap.size,0,none⟩) 0 0) 0 []):=World.ownsRow_lit w #[] 0 (C_ _) (by decide) (by simp)
 have b0:f_ (g_ w.heap.size w (w.alloc (.cells #[] 3))):=(h_ _ _).alloc (C_ _) _
 go_enter func48,ntmps48
 go_wp2
 obtain ⟨i0,qJ,tX,rm,uF⟩:=info_parts CF
 go_loopw [3,4] (fun u i wr=>∃k:Nat,k<=ws.length/\i=.int .i64 k/\f_ (wr.ownsRow w.heap.size 3 1 u k ((ws.take k).map fun p=>ah .i64 p.1)/\g_ w.heap.size w wr)) (fun _ i _=>ws.length - (intOf i).toNat)
 case atStart=>exact ⟨0,nz _,rfl,e0.out,b0.out⟩
 case round=>
  clear e0 b0
  obtain ⟨k,hk,rfl,hT⟩:=hrel
  by_cases hlt:k<ws.length
  ·have gJ:(k:Int)<(ws.length:Int):=by omega
   obtain ⟨g,cap,hv,lJ,z0,z1⟩:=pR (hR.out.below hL.out hT.out.2) hlt
   injection hv with e1 e2 e3
   subst e1 e3
   have h1:f_ ((ws.take (k+1)).map (fun p=>ah .i64 p.1)=(ws.take k).map (fun p=>ah .i64 p.1)++[.int .i64 (ws[k]).1]):=by rw [f_,sC hlt,List.map_append];rfl
   have ub:=aa hT.out.2.size
   generalize ws[k]=r at z0 z1 h1
   clear z1
   go_wp2_with (at_builtin;refine wpList_append_lies _ rfl (.tmp 12) (.tmp 18) 26 rfl w.heap.size 3 i0 _ 1 8 Tryz.underlying26 qJ tX rm uF rfl (by decide) _ _ _ rfl (hT.out.1.alloc _) ⟨wr.heap.size,0,none⟩ 1 1 [.int .i64 r.1] rfl rfl (fY wr _ _ rfl) ?c1 (by omega) ?c3 ?c4 ?c5 _ rfl ?_)
   case c1=>rfl
   case c3=>unfold maxLen;omega
   case c4=>omega
   case c5=>have:=ub.out;omega
   intro gg mW w6 jl kh iP mR
   have EU:f_ (w6.ownsRow w.heap.size 3 1 (.slice (some ⟨gg,0,none⟩) (k+1) mW) (k+1) ((ws.take (k+1)).map fun p=>ah .i64 p.1)/\g_ w.heap.size w w6):=by
    refine ⟨?_,(hT.out.2.alloc ub.out _).grown kh (by have:=ub.out;rw [B_];omega) fun g e=>(hT.out.1.lt g e).1⟩
    rw [h1.out];simpa using jl
   clear jl kh iP mR hT
   go_wp2_with fail
   go_roundw
   case rel=>exact ⟨k+1,by omega,by go_num,EU⟩
   case measure=>simp [intOf];omega
  ·have h1:=hT.out
   obtain rfl:k=ws.length:=by omega
   rw [List.take_length] at h1
   replace h1:=aa h1
   clear hT
   go_wp2
   go_ret
   exact ⟨_,rfl,h1.out⟩
def jD (L O P ck:Int) (vr vw vb vl:M'):M':=.agg #[.int .i64 L,.int .i64 O,.int .i64 P,.int .i64 ck,vr,vw,vb,vl]
def gi (L O P ck:Int) (vr vw vb vl:M'):Array M':=#[.int .i64 L,.int .i64 O,.int .i64 P,.int .i64 ck,vr,vw,vb,vl]
def kQ (rs:List Rec) (j:Nat) (l:Int):Bool:=(rs.take j).any fun r=>decide (r.line=l)&&isOpen r
variable {j:Nat} {l:Int}
theorem DX (hj:j<rs.length):kQ rs (j+1) l=(kQ rs j l||(decide ((rs[j]).line=l)&&isOpen rs[j])):=by
 unfold kQ;rw [sC hj,List.any_append];simp
theorem GQ:kQ rs rs.length l=lM rs l:=by unfold kQ lM;rw [List.take_length]
theorem xM (k:Nat) (rs:List Rec):AD (k+1) rs=AD k rs++(if lM rs ((k+1:Nat):Int)=true then [] else [((k+1:Nat):Int)]):=by
 unfold AD
 rw [List.range_succ,List.map_append,List.filter_append]
 congr 1
 by_cases h:lM rs ((k+1:Nat):Int)=true
 ·rw [if_pos h];simp only [S_,List.map_nil,List.filter_cons,h];rfl
 ·rw [if_neg h];simp only [Bool.not_eq_true] at h;simp only [S_,List.map_nil,List.filter_cons,h];rfl
theorem mV (k:Nat) (rs:List Rec):(AD k rs).length<=k:=by
 unfold AD
 exact D_ (List.length_filter_le _ _) (by simp)
theorem gG {B':Nat} {e n:Nat} {v:M'} (h:w.ownsRow B e sz v n xs) (hb:B'<=B):w.ownsRow B' e sz v n xs:=
 ⟨h.1,h.2.imp id fun ⟨g,cap,cur,h1,h2,h3⟩=>⟨g,cap,cur,h1,D_ hb h2,h3⟩⟩
variable {nl:Nat} {O P ck:Int} {vr vb vl:M'}
theorem rf {vw:M'} (hr:gL w vr rs.length (cj rs)) (hl:Low w vr) (hn:rs.length<=1000) (rp:nl<=1000):
 d_ p_ 43 #[jD (nl:Nat) O P ck vr vw vb vl] w fun e w'=>∃u,e=.returned u/\w'.ownsRow w.heap.size 3 1 u (AD nl rs).length ((AD nl rs).map (ah .i64))/\g_ w.heap.size w w':=by
 obtain ⟨a₁,pC,sn⟩:=hr.1
 subst sn
 obtain ⟨w1,cf⟩:∃w1,w.alloc (.cells (gi (nl:Nat) O P ck (.slice a₁ rs.length pC) vw vb vl) 63)=w1:=⟨_,rfl⟩
 have lr:f_ (w1.heap.size=w.heap.size+1):=by rw [<-cf];exact B_ ..
 have c0:w1.cell? ⟨w.heap.size,0,none⟩=some (.int .i64 (nl:Nat)):=by rw [<-cf];exact bJ rfl
 have c4:w1.cell? ⟨w.heap.size,4,none⟩=some (.slice a₁ rs.length pC):=by rw [<-cf];exact bJ rfl
 have eo:g_ w.heap.size w w1:=by rw [<-cf];exact (h_ _ _).alloc (C_ _) _
 have hR:=aa (hr.below hl eo)
 have hL:f_ (Low w1 (.slice a₁ rs.length pC)):=fun g hg=>by have:=hl g hg;have:=lr.out;omega
 have eo:=aa eo
 clear hr hl
 have e0:f_ ((w1.alloc (.cells #[] 3)).ownsRow w1.heap.size 3 1 (.slice (some ⟨w1.heap.size,0,none⟩) 0 0) 0 []):=World.ownsRow_lit w1 #[] 0 (C_ _) (by decide) (by simp)
 have b0:f_ (g_ w1.heap.size w1 (w1.alloc (.cells #[] 3))):=(h_ _ _).alloc (C_ _) _
 unfold gi at cf
 unfold jD
 go_enter func43,ntmps43
 go_wp2_with fail
 obtain ⟨i0,qJ,tX,rm,uF⟩:=info_parts CF
 clear cf
 go_loopw [3,4] (fun u i wr=>∃k:Nat,k<=nl/\i=.int .i64 ((k+1:Nat):Int)/\f_ (wr.ownsRow w1.heap.size 3 1 u (AD k rs).length ((AD k rs).map (ah .i64))/\g_ w1.heap.size w1 wr)) (fun _ i _=>nl+1 - (intOf i).toNat)
 case atStart=>exact ⟨0,nz _,rfl,e0.out,b0.out⟩
 case round=>
  clear e0 b0
  obtain ⟨k,hk,rfl,hT⟩:=hrel
  have d0:wr.cell? ⟨w.heap.size,0,none⟩=some (.int .i64 (nl:Nat)):=(hT.out.2.cell (p:=⟨w.heap.size,0,none⟩) (by have:=lr.out;show w.heap.size<_;omega)).trans c0
  have d4:wr.cell? ⟨w.heap.size,4,none⟩=some (.slice a₁ rs.length pC):=(hT.out.2.cell (p:=⟨w.heap.size,4,none⟩) (by have:=lr.out;show w.heap.size<_;omega)).trans c4
  have SG:=aa (hR.out.below hL.out hT.out.2)
  by_cases hlt:k<nl
  ·have gJ:((k+1:Nat):Int)<=(nl:Int):=by omega
   obtain ⟨l,hle⟩:∃l:Int,l=((k+1:Nat):Int):=⟨_,rfl⟩
   have Nk:=aa hle
   have Mb:1<=l:=by omega
   have Iv:l<=1001:=by omega
   rw [<-hle] at gJ ⊢
   have AZ:f_ (AD (k+1) rs=AD k rs++(if lM rs l=true then [] else [l])):=by rw [hle];exact xM k rs
   have yK:f_ ((AD k rs).length<=k):=mV k rs
   clear hle
   go_wp2_with fail
   go_loopw [5,6] (fun u i wr'=>∃j:Nat,j<=rs.length/\i=.int .i64 (j:Nat)/\u=.bool (kQ rs j l)/\wr=wr') (fun _ i _=>rs.length - (intOf i).toNat)
   case atStart=>exact ⟨0,nz _,rfl,rfl,rfl⟩
   case round=>
    obtain ⟨j,hj,rfl,rfl,rfl⟩:=hrel
    by_cases hjt:j<rs.length
    ·have aEb:(j:Int)<(rs.length:Int):=by omega
     obtain ⟨g,cap,hv,lJ,z0,z1,z2,z3,z4,z5,z6⟩:=nH SG.out hjt
     injection hv with e1 e2 e3
     subst e1 e3
     have AY:f_ (kQ rs (j+1) l=(kQ rs j l||(decide ((rs[j]).line=l)&&isOpen rs[j]))):=DX hjt
     generalize rs[j]=r at z0 z1 z2 z3 z4 z5 z6 AY
     clear z0 z2 z3 z4 z5
     cases hu:kQ rs j l
     ·by_cases hc:r.line=l
      ·by_cases hf:r.fin=eR
       ·rw [hf] at z6
        unfold eR at z6
        have h1:f_ (kQ rs (j+1) l=true):=by rw [f_,AY.out,hu];simp [hc,isOpen,hf]
        clear AY hu
        go_wp2_with fail
        go_roundw
        case rel=>exact ⟨j+1,by omega,by go_num,by rw [h1.out],trivial⟩
        case measure=>simp [intOf];omega
       ·have h1:f_ (kQ rs (j+1) l=false):=by rw [f_,AY.out,hu];simp [hc,isOpen,hf]
        have hne:=Ak hf
        generalize r.fin.toArray=q at z6 hne
        clear AY hu
        go_wp2_with fail
        go_roundw
        case rel=>exact ⟨j+1,by omega,by go_num,by rw [h1.out],trivial⟩
        case measure=>simp [intOf];omega
      ·have h1:f_ (kQ rs (j+1) l=false):=by rw [f_,AY.out,hu];simp [hc]
       clear AY hu z6
       go_wp2_with fail
       go_roundw
       case rel=>exact ⟨j+1,by omega,by go_num,by rw [h1.out],trivial⟩
       case measure=>simp [intOf];omega
     ·have h1:f_ (kQ rs (j+1) l=true):=by rw [f_,AY.out,hu];rfl
      clear AY hu z1 z6
      go_wp2_with fail
      go_roundw
      case rel=>exact ⟨j+1,by omega,by go_num,by rw [h1.out],trivial⟩
      case measure=>simp [intOf];omega
    ·obtain rfl:j=rs.length:=by omega
     have ub:=aa hT.out.2.size
     have FT:f_ (kQ rs rs.length l=lM rs l):=GQ
     cases hu:kQ rs rs.length l
     ·have h1:f_ (AD (k+1) rs=AD k rs++[l]):=by rw [f_,AZ.out,<-FT.out,hu];rfl
      clear hu FT AZ
      go_wp2_with (at_builtin;refine wpList_append_lies _ rfl (.tmp 44) (.tmp 46) 26 rfl w1.heap.size 3 i0 _ 1 8 Tryz.underlying26 qJ tX rm uF rfl (by decide) _ _ _ rfl (hT.out.1.alloc _) ⟨wr.heap.size,0,none⟩ 1 1 [.int .i64 l] rfl rfl (fY wr _ _ rfl) ?c1 (by omega) ?c3 ?c4 ?c5 _ rfl ?_)
      case c1=>first|rfl|(intro u hu;simp at hu;subst hu;rfl)
      case c3=>have:=yK.out;unfold maxLen;omega
      case c4=>have:=yK.out;omega
      case c5=>have:=ub.out;(try rw [B_]);omega
      intro gg mW w6 jl kh iP mR
      have EU:f_ (w6.ownsRow w1.heap.size 3 1 (.slice (some ⟨gg,0,none⟩) ((AD k rs).length+1) mW) (AD (k+1) rs).length ((AD (k+1) rs).map (ah .i64))/\g_ w1.heap.size w1 w6):=by
       refine ⟨?_,(hT.out.2.alloc ub.out _).grown kh (by have:=ub.out;rw [B_];omega) fun g e=>(hT.out.1.lt g e).1⟩
       rw [h1.out,K_,List.map_append];exact jl
      clear jl kh iP mR hT
      go_wp2_with fail
      go_roundw
      case rel=>exact ⟨k+1,by omega,by have:=Nk.out;go_num,EU⟩
      case measure=>have:=Nk.out;simp [intOf];omega
     ·have h1:f_ (AD (k+1) rs=AD k rs):=by rw [f_,AZ.out,<-FT.out,hu];simp
      clear hu FT AZ
      go_wp2_with fail
      go_roundw
      case rel=>exact ⟨k+1,by omega,by have:=Nk.out;go_num,by rw [h1.out];exact hT⟩
      case measure=>have:=Nk.out;simp [intOf];omega
  ·have h1:f_ (wr.ownsRow w.heap.size 3 1 u3 (AD nl rs).length ((AD nl rs).map (ah .i64))/\g_ w.heap.size w wr):=by
    have:=hT.out
    rw [show k=nl by omega] at this
    exact ⟨gG this.1 (by have:=lr.out;omega),eo.out.trans (this.2.mono (by have:=lr.out;omega))⟩
   have Nr:¬((k+1:Nat):Int)<=(nl:Int):=by omega
   clear hT
   go_wp2
   go_ret
   exact ⟨_,rfl,h1.out⟩
noncomputable def Gw:Code:=f112.body.getD .skip
noncomputable def V4:Code:=ai 3 Gw
variable {ga:Nat}
theorem MH {cap:Nat} (h:gL w (.slice (some ⟨ga,0,none⟩) ws.length cap) ws.length (ax ws)) (k:Nat):∀j u,(ax (ws.take k))[j]?=some u->w.cell? ((⟨ga,0,none⟩:z_).add j)=some u:=by
 intro j u hj
 rw [jb,List.getElem?_take] at hj
 split at hj
 ·have hlt:=(List.getElem?_eq_some_iff.1 hj).1
  obtain ⟨g,c,hv,_,hc⟩:=h.2 (by omega)
  injection hv with e1 e2 e3
  injection e1 with e1
  injection e1 with e1
  subst e1
  have:=(hc j hlt).trans hj
  by_cases h0:j=0
  ·subst h0;simpa [Addr.add] using this
  ·simpa [Addr.add,h0] using this
 ·cases hj
variable {ad:z_}
theorem MI {cap:Nat} (h:gL w (.slice (some ⟨ga,0,none⟩) ws.length cap) ws.length (ax ws)) (lJ:ws.length<=cap) (had:ad=if cap=k then ⟨ga,0,none⟩ else ⟨ga,k * 2,none⟩):∀j u,(ax (ws.drop k))[j]?=some u->w.cell? (ad.add j)=some u:=by
 intro j u hj
 rw [kU,List.getElem?_drop] at hj
 have hlt:=(List.getElem?_eq_some_iff.1 hj).1
 have yd:=pT ws
 rw [if_neg (by omega)] at had
 subst had
 obtain ⟨g,c,hv,_,hc⟩:=h.2 (by omega)
 injection hv with e1 e2 e3
 injection e1 with e1
 injection e1 with e1
 subst e1
 have:=(hc (k * 2+j) hlt).trans hj
 by_cases h0:j=0
 ·subst h0;simpa [Addr.add] using this
 ·simpa [Addr.add,h0] using this
structure Qx where
 u1:M'
 u2:M'
 u3:M'
 u4:M'
 g:Nat
structure Gz (w1:J') (ws:List (Int × Int)) (k:Nat) (y:Int × Int) (D:Array Bool) (q:Qx) (w:J'):Prop where
 vP:g_ w1.heap.size w1 w
 ord:(D.getD 4 false=true->D.getD 0 false=true)/\(D.getD 7 false=true->D.getD 4 false=true/\D.getD 6 false=true)/\(D.getD 11 false=true->D.getD 7 false=true)/\(D.getD 12 false=true->D.getD 11 false=true)
 r0:D.getD 0 false=true->D.getD 4 false=false->w.ownsRow w1.heap.size 114 2 q.u1 0 []
 r4:D.getD 4 false=true->D.getD 7 false=false->w.ownsRow w1.heap.size 114 2 q.u2 k (ax (ws.take k))
 r7:D.getD 7 false=true->D.getD 11 false=false->w.ownsRow w1.heap.size 114 2 q.u3 (k+1) (ax (ws.take k++[y]))
 Tp:D.getD 11 false=true->w.ownsRow w1.heap.size 114 2 q.u4 (ws.length+1) (ax (gY ws k y))
 n6:D.getD 6 false=true->D.getD 7 false=false->w.heap[q.g]?=some (.cells #[.int .i64 y.1,.int .i64 y.2] 114 (0,0))
 a0:D.getD 0 false=true->D.getD 6 false=true->D.getD 4 false=false->q.u1.ownBlock≠some q.g
 a4:D.getD 4 false=true->D.getD 6 false=true->D.getD 7 false=false->q.u2.ownBlock≠some q.g
variable {w1:J'} {D D':Array Bool}
theorem Gz.same {y:Int × Int} {q:Qx} (h:Gz w1 ws k y D q w) (qn:∀j,j≠i->D'.getD j false=D.getD j false) (hi:i∉[0,4,6,7,11,12]):Gz w1 ws k y D' q w:=by
 have e:∀j,j∈[0,4,6,7,11,12]->D'.getD j false=D.getD j false:=fun j hj=>qn j (fun e=>hi (e▸hj))
 have e0:=e 0 (by decide)
 have e4:=e 4 (by decide)
 have e6:=e 6 (by decide)
 have e7:=e 7 (by decide)
 have jZ:=e 11 (by decide)
 have xR:=e 12 (by decide)
 exact ⟨h.vP,by rw [e0,e4,e6,e7,jZ,xR];exact h.ord,by rw [e0,e4];exact h.r0,by rw [e4,e7];exact h.r4,by rw [e7,jZ];exact h.r7,by rw [jZ];exact h.Tp,by rw [e6,e7];exact h.n6,by rw [e0,e6,e4];exact h.a0,by rw [e4,e6,e7];exact h.a4⟩
theorem br {g:Nat} {o o':Obj} (h:w.heap[g]?=some o):(w.alloc o').heap[g]?=some o:=by
 exact ((N_ w o' none).block g (cI h) (by simp)).trans h
def ny (ws:List (Int × Int)) (k:Nat) (y:Int × Int) (ga cap:Nat) (ad:z_) (x:Qx):Nat->M'
 |0=>x.u1
 |1=>.slice (some ⟨ga,0,none⟩) ws.length cap
 |2=>.int .i64 (k:Nat)
 |3=>.slice (some ⟨ga,0,none⟩) k cap
 |4=>x.u2
 |5=>.agg #[.int .i64 y.1,.int .i64 y.2]
 |6=>.slice (some ⟨x.g,0,none⟩) 1 1
 |7=>x.u3
 |8=>.slice (some ⟨ga,0,none⟩) ws.length cap
 |9=>.int .i64 (k:Nat)
 |10=>.slice (some ad) (ws.length - k) (cap - k)
 |11=>x.u4
 |12=>x.u4
 |_=>I'
variable {bx:Nat} {z1 z4 z6 z7 z8 z9 dB cZ de dn dm dk dj dA dz dD dC dM dQ dK:M'} {Q:Exit->Act->J'->Prop}
theorem Jl (cf:w1=w) {cap:Nat} {y:Int × Int} (hr:gL w1 (.slice (some ⟨ga,0,none⟩) ws.length cap) ws.length (ax ws)) (hl:Low w1 (.slice (some ⟨ga,0,none⟩) ws.length cap)) (hn:ws.length<=1000) (hk:k<=ws.length) (had:ad=if cap=k then ⟨ga,0,none⟩ else ⟨ga,k * 2,none⟩) (lJ:ws.length<=cap) (BJ:cap<=maxLen) (lF:bx<w1.heap.size) (BL:w1.cell? ⟨bx,0,none⟩=some (.int .i64 y.1)) (eo:w1.cell? ⟨bx,1,none⟩=some (.int .i64 y.2)) {z2 z12 z20 z21 z22 z23 z24 z25 z26 z28 z31:M'}
 (hQ:∀w' (v Yp Yo Yn Ym Yl Yk Yj Yi Yh Yg Sn Sm:M'),w'.ownsRow w1.heap.size 114 2 v (ws.length+1) (ax (gY ws k y))->g_ w1.heap.size w1 w'->Q .normal ⟨#[.slice (some ⟨ga,0,none⟩) ws.length cap,z1,z2,.pointer (some ⟨bx,0,none⟩),v,.int .i64 (k:Nat),z6,z7,z8,z9,dB,cZ,z12,de,dn,dm,dk,dj,dA,dz,z20,z21,Yp,Yo,Yn,Ym,Yl,Yk,Yj,Yi,Yh,Yg,Sn,Sm],[]⟩ w'):
 Code.wp p_ V4 Q ⟨#[.slice (some ⟨ga,0,none⟩) ws.length cap,z1,z2,.pointer (some ⟨bx,0,none⟩),z4,.int .i64 (k:Nat),z6,z7,z8,z9,dB,cZ,z12,de,dn,dm,dk,dj,dA,dz,z20,z21,z22,z23,z24,z25,z26,dD,z28,dC,dM,z31,dQ,dK],[]⟩ w:=by
 subst cf
 have hR:=aa hr
 have hL:=aa hl
 clear hr hl
 unfold maxLen at BJ
 refine wpN 34 fun bs cn oq HI=> ?_
 simp only [V4,ai,Gw,f112,A_]
 refine mA (by kernel_rfl) (kP:=⟨I',I',I',I',0⟩) (base:=bs) (by rw [oq];kernel_rfl) (by kernel_rfl) (fun x=>ny ws k y ga cap ad x) (Gz w1 ws k y)
  (by
   exact ⟨(h_ _ _).drew,⟨E5,E5,E5,E5⟩,E5,E5,E5,E5,E5,E5,E5⟩) ?_ ?_
 ·intro i o' ho D x w a hD bc hw bH aD K k
  have hlt:i<13:=(cI ho)
  have Gl:=bT oq
  have qi:=qI hD hlt
  have qn:=qN D i
  have aA:=aa k
  clear k
  obtain rfl|rfl|rfl|rfl|rfl|rfl|rfl|rfl|rfl|rfl|rfl|rfl|rfl:i=0\/i=1\/i=2\/i=3\/i=4\/i=5\/i=6\/i=7\/i=8\/i=9\/i=10\/i=11\/i=12:=by omega
  all_goals obtain rfl:=so ho rfl
  ·clear aD ho
   have e0:=qi
   have e4:=qn 4 (by decide)
   have e6:=qn 6 (by decide)
   have e7:=qn 7 (by decide)
   have jZ:=qn 11 (by decide)
   have xR:=qn 12 (by decide)
   refine bj (v:=.slice (some ⟨w.heap.size,0,none⟩) 0 0) (w':=w.alloc (.cells #[] 114)) rfl rfl ?_ ?_
   ·clear bc hw aA bH qi qn e0 e4 e6 e7 jZ xR
    go_simp
   ·refine aA.out ⟨.slice (some ⟨w.heap.size,0,none⟩) 0 0,x.u2,x.u3,x.u4,x.g⟩ _ (fun j hj=>by
     have hne:j≠0:=fun e=>by rw [e,bH] at hj;cases hj
     unfold ny;split<;>first|rfl|exact absurd rfl hne) ⟨hw.vP.alloc hw.vP.size _, ?_, ?_, ?_, ?_, ?_, ?_, ?_, ?_⟩
    ·rw [e0,e4,e6,e7,jZ,xR];exact ⟨fun _=>rfl,hw.ord.2⟩
    ·intro _ _;exact World.ownsRow_lit w #[] 0 hw.vP.size (by decide) (by simp)
    ·rw [e4,e7];exact fun h1 h2=>(hw.r4 h1 h2).alloc _
    ·rw [e7,jZ];exact fun h1 h2=>(hw.r7 h1 h2).alloc _
    ·rw [jZ];exact fun h1=>(hw.Tp h1).alloc _
    ·rw [e6,e7];exact fun h1 h2=>br (hw.n6 h1 h2)
    ·rw [e6,e4];intro _ h2 h3 e
     have h7:=ff h3 fun hx=>(hw.ord.2.1 hx).1
     have:=(Array.getElem?_eq_some_iff.1 (hw.n6 h2 h7)).1
     have e':w.heap.size=x.g:=by simpa [Value.ownBlock] using e
     omega
    ·rw [e4,e6,e7];exact hw.a4
  ·obtain ⟨v0,w0⟩:=bc.oo (.slice (some ⟨ga,0,none⟩) ws.length cap) 0
   exact iY rfl (.slice (some ⟨ga,0,none⟩) ws.length cap) (aA.out x w (fun _ _=>rfl) (hw.same qn (by decide)))
  ·obtain ⟨v5,w5⟩:=bc.oo (.int .i64 (k:Nat)) 5
   exact iY rfl (.int .i64 (k:Nat)) (aA.out x w (fun _ _=>rfl) (hw.same qn (by decide)))
  ·have d1:=dq aD 1
   have d2:=dq aD 2
   obtain ⟨v23,XY⟩:=bc.vv (.slice (some ⟨ga,0,none⟩) ws.length cap) 23 1 d1
   obtain ⟨v24,w24⟩:=bc.vv (.int .i64 (k:Nat)) 24 2 d2
   have hkc:¬cap<k:=by omega
   have Zn:k<=cap:=by omega
   exact iY rfl (.slice (some ⟨ga,0,none⟩) k cap) (aA.out x w (fun _ _=>rfl) (hw.same qn (by decide)))
  ·have d0:=dq aD 0
   have d3:=dq aD 3
   obtain ⟨v22,w22⟩:=bc.vv (x.u1) 22 0 d0
   obtain ⟨v25,w25⟩:=bc.vv (.slice (some ⟨ga,0,none⟩) k cap) 25 3 d3
   clear aD ho
   have e0:=qn 0 (by decide)
   have e4:=qi
   have e6:=qn 6 (by decide)
   have e7:=qn 7 (by decide)
   have jZ:=qn 11 (by decide)
   have xR:=qn 12 (by decide)
   have hr:=hR.out.below hL.out hw.vP
   obtain ⟨i9,A5,Kl,nQ,nP⟩:=info_parts pX
   obtain ⟨v',w',hrun,yI,pZ,_,iP⟩:=run_append_own_at (P:=p_) w w1.heap.size 61 61 114 i9 _ 2 16 Tryz.underlying61 A5 Kl nQ nP rfl (by decide) x.u1 0 [] (hw.r0 d0 bH) ⟨ga,0,none⟩ k cap (ax (ws.take k)) (by rw [pT,Q_,Nat.min_eq_left hk]) (MH hr k) (vY _) (by unfold maxLen;omega) (by omega) hw.vP.size
   rw [Nat.zero_add,List.nil_append] at yI
   refine bj (v:=v') (w':=w') rfl rfl ?_ ?_
   ·clear bc hw aA bH qi qn e0 e4 e6 e7 jZ xR
    simp only [List.getElem_toArray,List.getElem_cons_succ,List.getElem_cons_zero,V',resolve,invoke,builtin,Sem.run_bind,Sem.run_pure,Result.andThen_ok,List.map_toArray,S_,List.map_nil,v22,v25,hrun]
   ·have bR:∀g,x.u1.ownBlock=some g->w1.heap.size<=g:=fun g e=>((hw.r0 d0 bH).lt g e).1
    have h7:=ff bH fun hx=>(hw.ord.2.1 hx).1
    have WS:=ff h7 fun hx=>hw.ord.2.2.1 hx
    refine aA.out ⟨x.u1,v',x.u3,x.u4,x.g⟩ _ (fun j hj=>by
     have hne:j≠4:=fun e=>by rw [e,bH] at hj;cases hj
     unfold ny;split<;>first|rfl|exact absurd rfl hne) ⟨hw.vP.grown pZ hw.vP.size bR, ?_, ?_, ?_, ?_, ?_, ?_, ?_, ?_⟩
    ·rw [e0,e4,e6,e7,jZ,xR];exact ⟨fun _=>d0,fun h=>⟨rfl,(hw.ord.2.1 h).2⟩,hw.ord.2.2⟩
    ·rw [e4];exact fun _ h=>by cases h
    ·intro _ _;exact yI
    ·rw [e7,h7];exact fun h=>by cases h
    ·rw [jZ,WS];exact fun h=>by cases h
    ·rw [e6,e7];exact fun h1 h2=>by
      rw [pZ.block x.g (Array.getElem?_eq_some_iff.1 (hw.n6 h1 h2)).1 (fun e=>hw.a0 d0 h1 bH e.symm)];exact hw.n6 h1 h2
    ·rw [e4];exact fun _ _ h=>by cases h
    ·rw [e6,e7];intro _ h2 h3 e
     have hlt:=(Array.getElem?_eq_some_iff.1 (hw.n6 h2 h3)).1
     rcases iP with h|h
     ·exact hw.a0 d0 h2 bH (h▸e)
     ·rw [h] at e;have:w.heap.size=x.g:=M_ e;omega
  ·obtain ⟨v3,w3⟩:=bc.oo (.pointer (some ⟨bx,0,none⟩)) 3
   have BL:w.cell? ⟨bx,0,none⟩=some (.int .i64 y.1):=(hw.vP.cell (p:=⟨bx,0,none⟩) lF).trans BL
   have eo:w.cell? ⟨bx,1,none⟩=some (.int .i64 y.2):=(hw.vP.cell (p:=⟨bx,1,none⟩) lF).trans eo
   exact iY rfl (.agg #[.int .i64 y.1,.int .i64 y.2]) (aA.out x w (fun _ _=>rfl) (hw.same qn (by decide)))
  ·have d5:=dq aD 5
   obtain ⟨v27,w27⟩:=bc.vv (.agg #[.int .i64 y.1,.int .i64 y.2]) 27 5 d5
   clear aD ho
   have e0:=qn 0 (by decide)
   have e4:=qn 4 (by decide)
   have e6:=qi
   have e7:=qn 7 (by decide)
   have jZ:=qn 11 (by decide)
   have xR:=qn 12 (by decide)
   have h7:=ff bH fun hx=>(hw.ord.2.1 hx).2
   refine bj (v:=.slice (some ⟨w.heap.size,0,none⟩) 1 1) (w':=w.alloc (.cells #[.int .i64 y.1,.int .i64 y.2] 114)) rfl rfl ?_ ?_
   ·clear bc hw aA bH qi qn e0 e4 e6 e7 jZ xR
    go_simp
   ·refine aA.out ⟨x.u1,x.u2,x.u3,x.u4,w.heap.size⟩ _ (fun j hj=>by
     have hne:j≠6:=fun e=>by rw [e,bH] at hj;cases hj
     unfold ny;split<;>first|rfl|exact absurd rfl hne) ⟨hw.vP.alloc hw.vP.size _, ?_, ?_, ?_, ?_, ?_, ?_, ?_, ?_⟩
    ·rw [e0,e4,e6,e7,jZ,xR];exact ⟨hw.ord.1,fun h=>⟨(hw.ord.2.1 h).1,rfl⟩,hw.ord.2.2⟩
    ·rw [e0,e4];exact fun h1 h2=>(hw.r0 h1 h2).alloc _
    ·rw [e4,e7];exact fun h1 h2=>(hw.r4 h1 h2).alloc _
    ·rw [e7,jZ];exact fun h1 h2=>(hw.r7 h1 h2).alloc _
    ·rw [jZ];exact fun h1=>(hw.Tp h1).alloc _
    ·intro _ _;exact Z' w _
    ·rw [e0,e4];exact fun h1 _ h3 e=>Nat.lt_irrefl _ ((hw.r0 h1 h3).lt _ e).2
    ·rw [e4,e7];exact fun h1 _ h3 e=>Nat.lt_irrefl _ ((hw.r4 h1 h3).lt _ e).2
  ·have d4:=dq aD 4
   have d6:=dq aD 6
   obtain ⟨v26,w26⟩:=bc.vv (x.u2) 26 4 d4
   obtain ⟨v28,w28⟩:=bc.vv (.slice (some ⟨x.g,0,none⟩) 1 1) 28 6 d6
   clear aD ho
   have e0:=qn 0 (by decide)
   have e4:=qn 4 (by decide)
   have e6:=qn 6 (by decide)
   have e7:=qi
   have jZ:=qn 11 (by decide)
   have xR:=qn 12 (by decide)
   have WS:=ff bH fun hx=>hw.ord.2.2.1 hx
   obtain ⟨i9,A5,Kl,nQ,nP⟩:=info_parts pX
   obtain ⟨v',w',hrun,yI,pZ,_,iP⟩:=run_append_own_at (P:=p_) w w1.heap.size 61 61 114 i9 _ 2 16 Tryz.underlying61 A5 Kl nQ nP rfl (by decide) x.u2 k _ (hw.r4 d4 bH) ⟨x.g,0,none⟩ 1 1 [.int .i64 y.1,.int .i64 y.2] rfl (World.news_of_block (w:=w) (hw.n6 d6 bH)) (by intro u hu;simp at hu;rcases hu with rfl|rfl<;>rfl) (by unfold maxLen;omega) (by omega) hw.vP.size
   refine bj (v:=v') (w':=w') rfl rfl ?_ ?_
   ·clear bc hw aA bH qi qn e0 e4 e6 e7 jZ xR
    simp only [List.getElem_toArray,List.getElem_cons_succ,List.getElem_cons_zero,V',resolve,invoke,builtin,Sem.run_bind,Sem.run_pure,Result.andThen_ok,List.map_toArray,S_,List.map_nil,v26,v28,hrun]
   ·have bR:∀g,x.u2.ownBlock=some g->w1.heap.size<=g:=fun g e=>((hw.r4 d4 bH).lt g e).1
    refine aA.out ⟨x.u1,x.u2,v',x.u4,x.g⟩ _ (fun j hj=>by
     have hne:j≠7:=fun e=>by rw [e,bH] at hj;cases hj
     unfold ny;split<;>first|rfl|exact absurd rfl hne) ⟨hw.vP.grown pZ hw.vP.size bR, ?_, ?_, ?_, ?_, ?_, ?_, ?_, ?_⟩
    ·rw [e0,e4,e6,e7,jZ,xR];exact ⟨hw.ord.1,fun _=>⟨d4,d6⟩,fun _=>rfl,hw.ord.2.2.2⟩
    ·rw [e4,d4];exact fun _ h=>by cases h
    ·rw [e7];exact fun _ h=>by cases h
    ·intro _ _;rw [gE];exact yI
    ·rw [jZ,WS];exact fun h=>by cases h
    ·rw [e7];exact fun _ h=>by cases h
    ·rw [e4,d4];exact fun _ _ h=>by cases h
    ·rw [e7];exact fun _ _ h=>by cases h
  ·obtain ⟨v0,w0⟩:=bc.oo (.slice (some ⟨ga,0,none⟩) ws.length cap) 0
   exact iY rfl (.slice (some ⟨ga,0,none⟩) ws.length cap) (aA.out x w (fun _ _=>rfl) (hw.same qn (by decide)))
  ·obtain ⟨v5,w5⟩:=bc.oo (.int .i64 (k:Nat)) 5
   exact iY rfl (.int .i64 (k:Nat)) (aA.out x w (fun _ _=>rfl) (hw.same qn (by decide)))
  ·have d8:=dq aD 8
   have d9:=dq aD 9
   obtain ⟨v30,w30⟩:=bc.vv (.slice (some ⟨ga,0,none⟩) ws.length cap) 30 8 d8
   obtain ⟨v31,w31⟩:=bc.vv (.int .i64 (k:Nat)) 31 9 d9
   clear aD ho
   have hkc:¬cap<k:=by omega
   have Zn:k<=cap:=by omega
   refine bj (v:=.slice (some ad) (ws.length - k) (cap - k)) (w':=w) rfl rfl ?_ (aA.out x w (fun _ _=>rfl) (hw.same qn (by decide)))
   clear bc hw aA bH qi qn
   rw [had]
   go_simp
   split<;>rfl
  ·have d7:=dq aD 7
   have d10:=dq aD 10
   obtain ⟨v29,w29⟩:=bc.vv (x.u3) 29 7 d7
   obtain ⟨v32,w32⟩:=bc.vv (.slice (some ad) (ws.length - k) (cap - k)) 32 10 d10
   clear aD ho
   have e0:=qn 0 (by decide)
   have e4:=qn 4 (by decide)
   have e6:=qn 6 (by decide)
   have e7:=qn 7 (by decide)
   have jZ:=qi
   have xR:=qn 12 (by decide)
   have h12:=ff bH fun hx=>hw.ord.2.2.2 hx
   have hr:=hR.out.below hL.out hw.vP
   have d4:=(hw.ord.2.1 d7).1
   obtain ⟨i9,A5,Kl,nQ,nP⟩:=info_parts pX
   obtain ⟨v',w',hrun,yI,pZ,_,iP⟩:=run_append_own_at (P:=p_) w w1.heap.size 61 61 114 i9 _ 2 16 Tryz.underlying61 A5 Kl nQ nP rfl (by decide) x.u3 (k+1) _ (hw.r7 d7 bH) ad (ws.length - k) (cap - k) (ax (ws.drop k)) (by rw [pT,List.length_drop]) (MI hr lJ had) (vY _) (by unfold maxLen;omega) (by omega) hw.vP.size
   refine bj (v:=v') (w':=w') rfl rfl ?_ ?_
   ·clear bc hw aA bH qi qn e0 e4 e6 e7 jZ xR
    simp only [List.getElem_toArray,List.getElem_cons_succ,List.getElem_cons_zero,V',resolve,invoke,builtin,Sem.run_bind,Sem.run_pure,Result.andThen_ok,List.map_toArray,S_,List.map_nil,v29,v32,hrun]
   ·have bR:∀g,x.u3.ownBlock=some g->w1.heap.size<=g:=fun g e=>((hw.r7 d7 bH).lt g e).1
    refine aA.out ⟨x.u1,x.u2,x.u3,v',x.g⟩ _ (fun j hj=>by
     have hne:j≠11:=fun e=>by rw [e,bH] at hj;cases hj
     unfold ny;split<;>first|rfl|exact absurd rfl hne|(rw [h12] at hj;cases hj)) ⟨hw.vP.grown pZ hw.vP.size bR, ?_, ?_, ?_, ?_, ?_, ?_, ?_, ?_⟩
    ·rw [e0,e4,e6,e7,jZ,xR];exact ⟨hw.ord.1,hw.ord.2.1,fun _=>d7,fun _=>rfl⟩
    ·rw [e4,d4];exact fun _ h=>by cases h
    ·rw [e7,d7];exact fun _ h=>by cases h
    ·rw [jZ];exact fun _ h=>by cases h
    ·intro _
     have e1:k+1+(ws.length - k)=ws.length+1:=by omega
     rw [e1,<-gE] at yI
     exact yI
    ·rw [e7,d7];exact fun _ h=>by cases h
    ·rw [e4,d4];exact fun _ _ h=>by cases h
    ·rw [e7,d7];exact fun _ _ h=>by cases h
  ·have d11:=dq aD 11
   obtain ⟨v33,w33⟩:=bc.vv (x.u4) 33 11 d11
   clear aD ho
   have e0:=qn 0 (by decide)
   have e4:=qn 4 (by decide)
   have e6:=qn 6 (by decide)
   have e7:=qn 7 (by decide)
   have jZ:=qn 11 (by decide)
   have xR:=qi
   refine bj (v:=x.u4) (w':=w) rfl rfl ?_ (aA.out x w (fun _ _=>rfl) ⟨hw.vP,by rw [e0,e4,e6,e7,jZ,xR];exact ⟨hw.ord.1,hw.ord.2.1,hw.ord.2.2.1,fun _=>d11⟩,by rw [e0,e4];exact hw.r0,by rw [e4,e7];exact hw.r4,by rw [e7,jZ];exact hw.r7,by rw [jZ];exact hw.Tp,by rw [e6,e7];exact hw.n6,by rw [e0,e6,e4];exact hw.a0,by rw [e4,e6,e7];exact hw.a4⟩)
   clear bc hw aA bH qi qn e0 e4 e6 e7 jZ xR
   go_simp
 ·intro D x w hd hw
  have:=hQ w x.u4 (x.u1) (.slice (some ⟨ga,0,none⟩) ws.length cap) (.int .i64 (k:Nat)) (.slice (some ⟨ga,0,none⟩) k cap) (x.u2) (.agg #[.int .i64 y.1,.int .i64 y.2]) (.slice (some ⟨x.g,0,none⟩) 1 1) (x.u3) (.slice (some ⟨ga,0,none⟩) ws.length cap) (.int .i64 (k:Nat)) (.slice (some ad) (ws.length - k) (cap - k)) (x.u4) (hw.Tp (hd 11 (by decide))) hw.vP
  generalize bc:slotsOf _ bs (ny ws k y ga cap ad x)=sl
  have eS:sl=#[.slice (some ⟨ga,0,none⟩) ws.length cap,z1,z2,.pointer (some ⟨bx,0,none⟩),x.u4,.int .i64 (k:Nat),z6,z7,z8,z9,dB,cZ,z12,de,dn,dm,dk,dj,dA,dz,z20,z21,x.u1,.slice (some ⟨ga,0,none⟩) ws.length cap,.int .i64 (k:Nat),.slice (some ⟨ga,0,none⟩) k cap,x.u2,.agg #[.int .i64 y.1,.int .i64 y.2],.slice (some ⟨x.g,0,none⟩) 1 1,x.u3,.slice (some ⟨ga,0,none⟩) ws.length cap,.int .i64 (k:Nat),.slice (some ad) (ws.length - k) (cap - k),x.u4]:=by rw [<-bc,<-cn];kernel_rfl
  rw [eS]
  exact this
theorem AK {cap:Nat} {y:Int × Int} (hr:gL w (.slice (some ⟨ga,0,none⟩) ws.length cap) ws.length (ax ws)) (hl:Low w (.slice (some ⟨ga,0,none⟩) ws.length cap)) (hn:ws.length<=1000) (lJ:ws.length<=cap) (BJ:cap<=maxLen):
 d_ p_ 112 #[.slice (some ⟨ga,0,none⟩) ws.length cap,.agg #[.int .i64 y.1,.int .i64 y.2]] w fun e w'=>∃u,e=.returned u/\w'.ownsRow w.heap.size 114 2 u (ws.length+1) (ax (gY ws (placeOf ws y.2) y))/\g_ w.heap.size w w':=by
 obtain ⟨w1,cf⟩:∃w1,w.alloc (.cells #[.int .i64 y.1,.int .i64 y.2] 114)=w1:=⟨_,rfl⟩
 have lr:f_ (w1.heap.size=w.heap.size+1):=by rw [<-cf];exact B_ ..
 have c0:w1.cell? ⟨w.heap.size,0,none⟩=some (.int .i64 y.1):=by rw [<-cf];exact bJ rfl
 have c1:w1.cell? ⟨w.heap.size,1,none⟩=some (.int .i64 y.2):=by rw [<-cf];exact bJ rfl
 have eo:g_ w.heap.size w w1:=by rw [<-cf];exact (h_ _ _).alloc (C_ _) _
 have hR:=aa (hr.below hl eo)
 have hL:f_ (Low w1 (.slice (some ⟨ga,0,none⟩) ws.length cap)):=fun g hg=>by have:=hl g hg;have:=lr.out;omega
 have eo:=aa eo
 have BJ:=aa BJ
 clear hr hl
 go_enter func112,ntmps112
 go_wp2_with fail
 clear cf
 go_loopw [5] (fun i wr=>∃k:Nat,k<=ws.length/\i=.int .i64 (k:Nat)/\f_ (∀j (hj:j<ws.length),j<k->y.2<=(ws[j]).2)/\f_ (wr.heap=w1.heap/\wr.os=w1.os/\wr.tape=w1.tape/\wr.output=w1.output)) (fun i _=>ws.length - (intOf i).toNat)
 case atStart=>exact ⟨0,nz _,rfl,fun j hj h=>by omega,rfl,rfl,rfl,rfl⟩
 case round=>
  obtain ⟨k,hk,rfl,hT,hW⟩:=hrel
  by_cases hlt:k<ws.length
  ·have gJ:(k:Int)<(ws.length:Int):=by omega
   have SG:f_ (gL wr (.slice (some ⟨ga,0,none⟩) ws.length cap) ws.length (ax ws)):=hR.out.keep fun g _=>by rw [hW.out.1]
   have d1:wr.cell? ⟨w.heap.size,1,none⟩=some (.int .i64 y.2):=(J_ (by rw [hW.out.1])).trans c1
   obtain ⟨g,cap',hv,Vh,z0,z1⟩:=pR SG.out hlt
   injection hv with e1 e2 e3
   injection e1 with e1
   injection e1 with e1
   subst e1 e3
   have dS:f_ (∀h:y.2<=(ws[k]).2,∀j (hj:j<ws.length),j<k+1->y.2<=(ws[j]).2):=fun h0 j hj Dy=>by
    by_cases e:j=k
    ·subst e;exact h0
    ·exact hT.out j hj (by omega)
   have yd:f_ (¬y.2<=(ws[k]).2->placeOf ws y.2=k):=fun h=>nI hk (fun j hj h=>hT.out j hj h) (fun _=>h)
   generalize ws[k]=p at z0 z1 dS yd
   by_cases hc:y.2<=p.2
   ·have h1:=aa (dS.out hc)
    clear dS yd z0
    go_wp2_with fail
    go_region
    go_wp2_with fail
    go_roundw
    case rel=>exact ⟨k+1,by omega,by go_num,h1,hW⟩
    case measure=>simp [intOf];omega
   ·have h1:=aa (yd.out hc)
    clear dS yd z0
    go_wp2_with fail
    go_region
    go_wp2_with fail
    have C8:wr.drew.heap=w1.heap:=hW.out.1
    have ZK:f_ (g_ w.heap.size w wr.drew):=⟨hW.out.2.1.trans eo.out.os,hW.out.2.2.1.trans eo.out.tape,hW.out.2.2.2.trans eo.out.output,by rw [C8];exact eo.out.size,fun g hg=>by rw [C8];exact eo.out.block g hg⟩
    refine Jl (w1:=wr.drew) rfl (ga:=ga) (cap:=cap) (bx:=w.heap.size) (y:=y) (k:=k) (SG.out.keep fun g _=>rfl) (fun g hg=>by rw [C8];exact hL.out g hg) hn hk rfl lJ BJ.out (by rw [C8,lr.out];omega) ((J_ (by rw [C8])).trans c0) ((J_ (by rw [C8])).trans c1) fun w2 v Yp Yo Yn Ym Yl Yk Yj Yi Yh Yg Sn Sm ho hb=> ?_
    have h2:f_ (w2.ownsRow w.heap.size 114 2 v (ws.length+1) (ax (gY ws (placeOf ws y.2) y))/\g_ w.heap.size w w2):=by
     rw [h1.out]
     exact ⟨gG ho (by rw [C8,lr.out];omega),ZK.out.trans (hb.mono (by rw [C8,lr.out];omega))⟩
    clear ho hb
    go_wp2_with fail
    go_ret
    exact ⟨_,rfl,h2.out⟩
  ·obtain rfl:k=ws.length:=by omega
   have h1:f_ (placeOf ws y.2=ws.length):=nI (C_ _) (fun j hj h=>hT.out j hj h) (fun h=>absurd h (Nat.lt_irrefl _))
   have SG:f_ (gL wr (.slice (some ⟨ga,0,none⟩) ws.length cap) ws.length (ax ws)):=hR.out.keep fun g _=>by rw [hW.out.1]
   go_wp2_with fail
   go_region
   go_wp2_with fail
   have C8:wr.drew.heap=w1.heap:=hW.out.1
   have ZK:f_ (g_ w.heap.size w wr.drew):=⟨hW.out.2.1.trans eo.out.os,hW.out.2.2.1.trans eo.out.tape,hW.out.2.2.2.trans eo.out.output,by rw [C8];exact eo.out.size,fun g hg=>by rw [C8];exact eo.out.block g hg⟩
   refine Jl (w1:=wr.drew) rfl (ga:=ga) (cap:=cap) (bx:=w.heap.size) (y:=y) (k:=ws.length) (SG.out.keep fun g _=>rfl) (fun g hg=>by rw [C8];exact hL.out g hg) hn (C_ _) rfl lJ BJ.out (by rw [C8,lr.out];omega) ((J_ (by rw [C8])).trans c0) ((J_ (by rw [C8])).trans c1) fun w2 v Yp Yo Yn Ym Yl Yk Yj Yi Yh Yg Sn Sm ho hb=> ?_
   have h2:f_ (w2.ownsRow w.heap.size 114 2 v (ws.length+1) (ax (gY ws (placeOf ws y.2) y))/\g_ w.heap.size w w2):=by
    rw [h1.out]
    exact ⟨gG ho (by rw [C8,lr.out];omega),ZK.out.trans (hb.mono (by rw [C8,lr.out];omega))⟩
   clear ho hb
   go_wp2_with fail
   go_ret
   exact ⟨_,rfl,h2.out⟩
structure bA (B:Nat) (m:Rm) (vr vw vb:M') (w:J'):Prop where
 big:B<=w.heap.size
 recs:w.ownsRow B 44 7 vr m.recs.length (cj m.recs)
 wait:w.ownsRow B 114 2 vw m.wait.length (ax m.wait)
 back:w.ownsRow B 114 2 vb m.back.length (ax m.back)
 apart:∀g,vw.ownBlock=some g->vb.ownBlock≠some g
 iQ:∃g,vw.ownBlock=some g
structure bg (vr vb:M') (w w':J'):Prop where
 os:w'.os=w.os
 tape:w'.tape=w.tape
 output:w'.output=w.output
 size:w.heap.size<=w'.heap.size
 block:∀g,g<w.heap.size->vr.ownBlock≠some g->vb.ownBlock≠some g->w'.heap[g]?=w.heap[g]?
theorem bg.refl (vr vb:M') (w:J'):bg vr vb w w:=⟨rfl,rfl,rfl,C_ _,fun _ _ _ _=>rfl⟩
variable {a:J'}
theorem bg.trans {b c:J'} (h:bg vr vb a b) (k:bg vr vb b c):bg vr vb a c:=⟨k.os.trans h.os,k.tape.trans h.tape,k.output.trans h.output,D_ h.size k.size,fun g hg h1 h2=>(k.block g (E_ hg h.size) h1 h2).trans (h.block g hg h1 h2)⟩
theorem bg.then {qb qS:M'} {b c:J'} (h:bg vr vb a b) (k:bg qb qS b c) (hr:∀g,g<a.heap.size->qb.ownBlock=some g->vr.ownBlock=some g) (hb:∀g,g<a.heap.size->qS.ownBlock=some g->vb.ownBlock=some g):bg vr vb a c:=
 ⟨k.os.trans h.os,k.tape.trans h.tape,k.output.trans h.output,D_ h.size k.size,fun g hg h1 h2=>(k.block g (E_ hg h.size) (fun e=>h1 (hr g hg e)) (fun e=>h2 (hb g hg e))).trans (h.block g hg h1 h2)⟩
theorem bg.bW (h:g_ w.heap.size w w'):bg vr vb w w':=⟨h.os,h.tape,h.output,h.size,fun g hg _ _=>h.block g hg⟩
theorem bg.drew:bg vr vb w w.drew:=⟨rfl,rfl,rfl,C_ _,fun _ _ _ _=>rfl⟩
theorem bg.alloc (o:Obj):bg vr vb w (w.alloc o):=.bW ((h_ _ _).alloc (C_ _) o)
theorem bg.te {g n:Nat} {v:M'} (h:vr.ownBlock=some g):bg vr vb w (w.setCell ⟨g,n,none⟩ v):=⟨rfl,rfl,rfl,by simp,fun i _ h1 _=>a_ w ⟨g,n,none⟩ i v (fun e=>h1 (by rw [h,show i=g from e]))⟩
theorem bg.i7 {g n:Nat} {v:M'} (h:bg vr vb a w) (hg:a.heap.size<=g):bg vr vb a (w.setCell ⟨g,n,none⟩ v):=⟨h.os,h.tape,h.output,by rw [o_];exact h.size,fun i hi h1 h2=>(a_ w ⟨g,n,none⟩ i v (fun e=>by have:i=g:=e;omega)).trans (h.block i hi h1 h2)⟩
theorem fE {e n:Nat} {v:M'} (h:w.ownsRow B e sz v n xs) (hk:∀g,v.ownBlock=some g->w'.heap[g]?=w.heap[g]?):w'.ownsRow B e sz v n xs:=by
 refine ⟨h.1, ?_⟩
 rcases h.2 with h0|⟨g,cap,cur,h1,h2,h3,h4⟩
 ·exact .inl h0
 ·exact .inr ⟨g,cap,cur,h1,h2,by rw [hk g (by rw [h1];rfl)];exact h3,h4⟩
variable {m:Rm}
theorem bA.keep {vw:M'} (R:bA B m vr vw vb w) (hs:w.heap.size<=w'.heap.size) (hk:∀g,B<=g->g<w.heap.size->w'.heap[g]?=w.heap[g]?):bA B m vr vw vb w':=
 ⟨D_ R.big hs,fE R.recs fun g e=>hk g (R.recs.lt g e).1 (R.recs.lt g e).2,fE R.wait fun g e=>hk g (R.wait.lt g e).1 (R.wait.lt g e).2,fE R.back fun g e=>hk g (R.back.lt g e).1 (R.back.lt g e).2,R.apart,R.iQ⟩
theorem bA.below {vw:M'} (R:bA B m vr vw vb w) (h:g_ w.heap.size w w'):bA B m vr vw vb w':=R.keep h.size fun g _ hg=>h.block g hg
theorem bA.alloc {vw:M'} (R:bA B m vr vw vb w) (o:Obj):bA B m vr vw vb (w.alloc o):=R.below ((h_ _ _).alloc (C_ _) o)
theorem bA.drew {vw:M'} (R:bA B m vr vw vb w):bA B m vr vw vb w.drew:=R.keep (C_ _) fun _ _ _=>rfl
variable {b:Nat}
theorem bA.cell {vw:M'} (R:bA B m vr vw vb w) {n:Nat} {v:M'} (h1:vr.ownBlock≠some b) (h2:vw.ownBlock≠some b) (h3:vb.ownBlock≠some b):bA B m vr vw vb (w.setCell ⟨b,n,none⟩ v):=
 ⟨by rw [o_];exact R.big,fE R.recs fun g e=>a_ w ⟨b,n,none⟩ g v (fun x=>h1 (by rw [e,show g=b from x])),fE R.wait fun g e=>a_ w ⟨b,n,none⟩ g v (fun x=>h2 (by rw [e,show g=b from x])),fE R.back fun g e=>a_ w ⟨b,n,none⟩ g v (fun x=>h3 (by rw [e,show g=b from x])),R.apart,R.iQ⟩
theorem bA.nN {vw:M'} (R:bA B m vr vw vb w):Low w vr/\Low w vw/\Low w vb:=⟨fun g e=>(R.recs.lt g e).2,fun g e=>(R.wait.lt g e).2,fun g e=>(R.back.lt g e).2⟩
theorem bA.set {vw:M'} (R:bA B m vr vw vb w) {g cap:Nat} (hv:vr=.slice (some ⟨g,0,none⟩) m.recs.length cap) (hi:i<m.recs.length) (hk:k<7) {v:M'} {r:Rec} (hr:r.cells=(m.recs[i]).cells.set k v):
 bA B {m with recs:=m.recs.set i r} vr vw vb (w.setCell ⟨g,i * 7+k,none⟩ v):=by
 have ho:=R.recs
 have hg:vr.ownBlock=some g:=by rw [hv];rfl
 have n1:=gF R.wait ho (by decide)
 have n2:=gF R.back ho (by decide)
 have hs:∀j,j≠g->(w.setCell ⟨g,i * 7+k,none⟩ v).heap[j]?=w.heap[j]?:=fun j hj=>a_ w ⟨g,i * 7+k,none⟩ j v hj
 refine ⟨by rw [o_];exact R.big, ?_,fE R.wait fun j e=>hs j fun x=> ?_,fE R.back fun j e=>hs j fun x=> ?_,R.apart,R.iQ⟩
 ·rw [hv] at ho ⊢
  have:=(ho.stored (i * 7+k) v).1
  simpa [cj,sK Rec.cells 7 (fun _=>rfl) _ _ _ hi hk v r hr] using this
 ·subst x;rcases n1 with h|h
  ·rw [h] at e;cases e
  ·exact h (e.trans hg.symm)
 ·subst x;rcases n2 with h|h
  ·rw [h] at e;cases e
  ·exact h (e.trans hg.symm)
theorem bA.rd {vw:M'} (R:bA B m vr vw vb w):gL w vr m.recs.length (cj m.recs)/\gL w vw m.wait.length (ax m.wait)/\gL w vb m.back.length (ax m.back):=by
 have l1:=Ad m.recs
 have l2:=pT m.wait
 have l3:=pT m.back
 exact ⟨Ed R.recs (by omega),Ed R.wait (by omega),Ed R.back (by omega)⟩
theorem bA.waits {vw:M'} (R:bA B m vr vw vb w) (hb:g_ w.heap.size w w') {u:M'} (h:w'.ownsRow w.heap.size 114 2 u ws.length (ax ws)) (hu:∃g,u.ownBlock=some g):bA B {m with wait:=ws} vr u vb w':=by
 have R':=R.below hb
 exact ⟨R'.big,R'.recs,gG h R.big,R'.back,fun g e e2=>by have:=(h.lt g e).1;have:=(R.back.lt g e2).2;omega,hu⟩
theorem bA.Gx {vw:M'} (R:bA B m vr vw vb w) (hb:g_ w.heap.size w w') {u:M'} (h:w'.ownsRow w.heap.size 114 2 u ws.length (ax ws)):bA B {m with back:=ws} vr vw u w':=by
 have R':=R.below hb
 exact ⟨R'.big,R'.recs,R'.wait,gG h R.big,fun g e e2=>by have:=(h.lt g e2).1;have:=(R.wait.lt g e).2;omega,R'.iQ⟩
theorem sM {q:Bs} (hi:i<m.recs.length):jJ m i q={m with recs:=m.recs.set i {m.recs[i] with wI:=m.clock,fin:=q},wait:=aJ m.wait (m.recs[i]).call}:=by
 unfold jJ;rw [G_ hi]
def aEi (w:J') (b:Nat) (c:Array M'):Prop:=∃t,w.heap[b]?=some (.cells c t (0,0))
def ia:Array M':=#[.int .i64 0,.int .i64 0,.int .i64 0,.int .i64 0,.slice none 0 0,.slice none 0 0,.slice none 0 0,.slice none 0 0]
def b8 (w:J') (b:Nat) (v0 v1 v2 v3 v4 v5 v6 v7:M'):J':=(((((((w.setCell ⟨b,0,none⟩ v0).setCell ⟨b,1,none⟩ v1).setCell ⟨b,2,none⟩ v2).setCell ⟨b,3,none⟩ v3).setCell ⟨b,4,none⟩ v4).setCell ⟨b,5,none⟩ v5).setCell ⟨b,6,none⟩ v6).setCell ⟨b,7,none⟩ v7
theorem lB {o0 o1 o2 o3 o4 o5 o6 o7:M'} {t:Q'} (h:w.heap[b]?=some (.cells #[o0,o1,o2,o3,o4,o5,o6,o7] t (0,0))) (v0 v1 v2 v3 v4 v5 v6 v7:M'):(b8 w b v0 v1 v2 v3 v4 v5 v6 v7).heap[b]?=some (.cells #[v0,v1,v2,v3,v4,v5,v6,v7] t (0,0)):=by
 have h0:=Go.heap_setCell_same w b 0 _ t v0 h
 simp at h0
 have h1:=Go.heap_setCell_same _ b 1 _ t v1 h0
 simp at h1
 have h2:=Go.heap_setCell_same _ b 2 _ t v2 h1
 simp at h2
 have h3:=Go.heap_setCell_same _ b 3 _ t v3 h2
 simp at h3
 have h4:=Go.heap_setCell_same _ b 4 _ t v4 h3
 simp at h4
 have h5:=Go.heap_setCell_same _ b 5 _ t v5 h4
 simp at h5
 have h6:=Go.heap_setCell_same _ b 6 _ t v6 h5
 simp at h6
 have h7:=Go.heap_setCell_same _ b 7 _ t v7 h6
 simp at h7
 exact h7
variable {v1 v2 v3 v4 v5 v6 v7:M'}
theorem kN {v0:M'} (h:j≠b):(b8 w b v0 v1 v2 v3 v4 v5 v6 v7).heap[j]?=w.heap[j]?:=by
 unfold b8
 iterate 8 rw [a_ _ ⟨b,_,none⟩ j _ h]
theorem aG {v0:M'} {t:Q'} (h:w.heap[b]?=some (.cells #[v0,v1,v2,v3,v4,v5,v6,v7] t (0,0))):
 (w.cell? ⟨b,0,none⟩=some v0/\w.cell? ⟨b,1,none⟩=some v1/\w.cell? ⟨b,2,none⟩=some v2/\w.cell? ⟨b,3,none⟩=some v3/\w.cell? ⟨b,4,none⟩=some v4/\w.cell? ⟨b,5,none⟩=some v5/\w.cell? ⟨b,6,none⟩=some v6/\w.cell? ⟨b,7,none⟩=some v7)/\
 (w.frozen? ⟨b,0,none⟩=false/\w.frozen? ⟨b,1,none⟩=false/\w.frozen? ⟨b,2,none⟩=false/\w.frozen? ⟨b,3,none⟩=false/\w.frozen? ⟨b,4,none⟩=false/\w.frozen? ⟨b,5,none⟩=false/\w.frozen? ⟨b,6,none⟩=false/\w.frozen? ⟨b,7,none⟩=false):=
 ⟨⟨cV h,cV h,cV h,cV h,cV h,cV h,cV h,cV h⟩,bX h,bX h,bX h,bX h,bX h,bX h,bX h,bX h⟩
theorem bA.b8 {vw:M'} (R:bA B m vr vw vb w) {v0:M'} (h1:vr.ownBlock≠some b) (h2:vw.ownBlock≠some b) (h3:vb.ownBlock≠some b):bA B m vr vw vb (b8 w b v0 v1 v2 v3 v4 v5 v6 v7):=by
 unfold Of.b8
 exact (((((((R.cell h1 h2 h3).cell h1 h2 h3).cell h1 h2 h3).cell h1 h2 h3).cell h1 h2 h3).cell h1 h2 h3).cell h1 h2 h3).cell h1 h2 h3
theorem bg.b8 (h:bg vr vb a w) {v0:M'} (hg:a.heap.size<=b):bg vr vb a (b8 w b v0 v1 v2 v3 v4 v5 v6 v7):=by
 unfold Of.b8
 exact (((((((h.i7 hg).i7 hg).i7 hg).i7 hg).i7 hg).i7 hg).i7 hg).i7 hg
theorem EZ {c:Array M'} {t:Q'} (h:w.heap[b]?=some (.cells c t (0,0))) (n:Nat):w.frozen? ⟨b,n,none⟩=false:=by
 unfold World.frozen?
 rw [show (⟨b,n,none⟩:z_).block=b from rfl,h]
 simp
variable {L:Int}
theorem xm {vw:M'} (R:bA B m vr vw vb w) (hi:i<m.recs.length) (hn:m.recs.length<=1000) (L9:m.wait.length<=1000) (mP:∃a n c,vl=.slice a n c) (q:Bs):
 d_ p_ 116 #[jD L O P m.clock vr vw vb vl,.int .i64 (i:Nat),.string ⟨q.toArray⟩] w fun e w'=>∃jA,e=.returned (jD L O P m.clock vr jA vb vl)/\bA B (jJ m i q) vr jA vb w'/\bg vr (.slice none 0 0) w w'/\(∀g,jA.ownBlock=some g->w.heap.size<=g):=by
 rw [sM hi]
 obtain ⟨al,bM,cl,rfl⟩:=mP
 obtain ⟨ab,cb,oK⟩:=aE R.back
 subst oK
 obtain ⟨g,cap,hv,lJ,z0,z1,z2,z3,z4,z5,z6⟩:=nH R.rd.1 hi
 have f5:w.frozen? ⟨g,i * 7+5,none⟩=false:=by have:=R.recs;rw [hv] at this;exact this.frozenAt _
 have f6:w.frozen? ⟨g,i * 7+6,none⟩=false:=by have:=R.recs;rw [hv] at this;exact this.frozenAt _
 have hgw:=R.nN.1 g (by rw [hv];rfl)
 obtain ⟨w1,cf⟩:∃w1,(w.alloc (.cells (gi L O P m.clock vr vw (.slice ab m.back.length cb) (.slice al bM cl)) 63)).alloc (.cells ia 63)=w1:=⟨_,rfl⟩
 have lr:f_ (w1.heap.size=w.heap.size+2):=by rw [f_,<-cf,B_,B_]
 have eo:g_ w.heap.size w w1:=by rw [<-cf];exact ((h_ _ _).alloc (C_ _) _).alloc (by rw [B_];exact Nat.le_succ _) _
 have DF:f_ (w1.heap[w.heap.size]?=some (.cells (gi L O P m.clock vr vw (.slice ab m.back.length cb) (.slice al bM cl)) 63 (0,0))):=by rw [f_,<-cf];exact br (Z' w _)
 have jx:f_ (w1.heap[w.heap.size+1]?=some (.cells ia 63 (0,0))):=by
  have:=Z' (w.alloc (.cells (gi L O P m.clock vr vw (.slice ab m.back.length cb) (.slice al bM cl)) 63)) (.cells ia 63)
  rw [B_,cf] at this
  exact this
 have R1:=R.below eo
 obtain ⟨g',cap',hv',Vh,y0,y1,y2,y3,y4,y5,y6⟩:=nH R1.rd.1 hi
 rw [hv] at hv'
 injection hv' with e1 e2 e3
 injection e1 with e1
 injection e1 with e1
 subst e1 e3
 have x5:w1.frozen? ⟨g,i * 7+5,none⟩=false:=by have:=R1.recs;rw [hv] at this;exact this.frozenAt _
 have x6:w1.frozen? ⟨g,i * 7+6,none⟩=false:=by have:=R1.recs;rw [hv] at this;exact this.frozenAt _
 have d3:w1.cell? ⟨w.heap.size,3,none⟩=some (.int .i64 m.clock):=by rw [cV DF.out];rfl
 have d4:w1.cell? ⟨w.heap.size,4,none⟩=some vr:=by rw [cV DF.out];rfl
 have d5:w1.cell? ⟨w.heap.size,5,none⟩=some vw:=by rw [cV DF.out];rfl
 have hne:w.heap.size≠g:=by omega
 have RA:=R1.set hv hi (k:=5) (by decide) (v:=.int .i64 m.clock) (r:={m.recs[i] with wI:=m.clock}) rfl
 have RB:=RA.set (i:=i) (g:=g) (cap:=cap) (by rw [hv];simp) (by simpa using hi) (k:=6) (by decide) (v:=.string ⟨q.toArray⟩) (r:={m.recs[i] with wI:=m.clock,fin:=q}) (by simp [Rec.cells])
 simp only [List.set_set] at RB
 have Nq:=aa hi
 have RB:=aa RB
 have Qs:=aa hv
 have jX:f_ (((m.recs[i]).call=(m.recs[i]).call)):=rfl
 have WQ:f_ (bg vr (.slice none 0 0) w ((w1.setCell ⟨g,i * 7+5,none⟩ (.int .i64 m.clock)).setCell ⟨g,i * 7+6,none⟩ (.string ⟨q.toArray⟩))):=(bg.bW eo).trans ((bg.te (by rw [hv];rfl)).trans (bg.te (by rw [hv];rfl)))
 generalize m.recs[i]=r at *
 have eo:=aa eo
 have Rq:=aa R
 have hnv:f_ (m.recs.length=m.recs.length):=rfl
 clear R RA R1 hv z0 z1 z2 z3 z4 z5 z6 f5 f6
 rw [Qs.out] at d4
 unfold gi ia at cf
 rw [Qs.out] at cf
 unfold jD
 rw [Qs.out]
 go_enter func116,ntmps116
 go_wp2_with fail
 have D4:((w1.setCell ⟨g,i * 7+5,none⟩ (.int .i64 m.clock)).setCell ⟨g,i * 7+6,none⟩ (.string ⟨q.toArray⟩)).cell? ⟨w.heap.size,4,none⟩=some (.slice (some ⟨g,0,none⟩) m.recs.length cap):=by rw [di _ _ (.inl (ru hne)),di _ _ (.inl (ru hne))];exact d4
 have D5:((w1.setCell ⟨g,i * 7+5,none⟩ (.int .i64 m.clock)).setCell ⟨g,i * 7+6,none⟩ (.string ⟨q.toArray⟩)).cell? ⟨w.heap.size,5,none⟩=some vw:=by rw [di _ _ (.inl (ru hne)),di _ _ (.inl (ru hne))];exact d5
 have Y0:((w1.setCell ⟨g,i * 7+5,none⟩ (.int .i64 m.clock)).setCell ⟨g,i * 7+6,none⟩ (.string ⟨q.toArray⟩)).cell? ⟨g,i * 7,none⟩=some (.int .i64 r.call):=by rw [di _ _ (.inr (by simp)),di _ _ (.inr (by simp))];exact y0
 have hH:f_ (∀b,b≠g->((w1.setCell ⟨g,i * 7+5,none⟩ (.int .i64 m.clock)).setCell ⟨g,i * 7+6,none⟩ (.string ⟨q.toArray⟩)).heap[b]?=w1.heap[b]?):=fun b hb=>(a_ _ ⟨g,i * 7+6,none⟩ b _ hb).trans (a_ _ ⟨g,i * 7+5,none⟩ b _ hb)
 have hS:f_ (((w1.setCell ⟨g,i * 7+5,none⟩ (.int .i64 m.clock)).setCell ⟨g,i * 7+6,none⟩ (.string ⟨q.toArray⟩)).heap.size=w.heap.size+2):=by rw [f_,o_,o_];exact lr.out
 generalize (w1.setCell ⟨g,i * 7+5,none⟩ (.int .i64 m.clock)).setCell ⟨g,i * 7+6,none⟩ (.string ⟨q.toArray⟩)=w3 at *
 clear y0 y1 y2 y3 y4 y5 y6 x5 x6 d3 d4 d5 cf
 have G':w3.frozen? ⟨w.heap.size,5,none⟩=false:=by
  rw [World.frozen?_of_block (w:=w1) (hH.out w.heap.size hne)]
  exact EZ DF.out 5
 obtain ⟨aw,cw,qG⟩:=aE RB.out.wait
 simp only at qG
 subst qG
 have sY:f_ (d_ p_ 115 #[.slice aw m.wait.length cw,.int .i64 r.call] w3.drew fun e w'=>∃u,e=.returned u/\w'.ownsRow w3.drew.heap.size 114 2 u (aJ m.wait r.call).length (ax (aJ m.wait r.call))/\g_ w3.drew.heap.size w3.drew w'/\∃g,u.ownBlock=some g):=jR (w:=w3.drew) RB.out.drew.rd.2.1 (fun g e=>RB.out.nN.2.1 g e) L9 r.call
 have Z0:w3.drew.cell? ⟨w.heap.size,4,none⟩=some (.slice (some ⟨g,0,none⟩) m.recs.length cap)/\w3.drew.cell? ⟨w.heap.size,5,none⟩=some (.slice aw m.wait.length cw)/\w3.drew.cell? ⟨g,i * 7,none⟩=some (.int .i64 r.call):=⟨D4,D5,Y0⟩
 have Vs:f_ (w3.drew.heap.size=w.heap.size+2):=hS.out
 have FL:f_ (∀b,b≠g->w3.drew.heap[b]?=w1.heap[b]?):=hH.out
 have RBd:f_ (bA B {m with recs:=m.recs.set i {r with wI:=m.clock,fin:=q}} vr (.slice aw m.wait.length cw) (.slice ab m.back.length cb) w3.drew):=RB.out.drew
 have EX:f_ (bg vr (.slice none 0 0) w w3.drew):=WQ.out.trans .drew
 have hfd:w3.drew.frozen? ⟨w.heap.size,5,none⟩=false:=G'
 clear D4 D5 Y0 G'
 obtain ⟨Z1,Z2,Z3⟩:=Z0
 go_still_tail 8,(by kernel_rfl)
 change wpList _ _ _ _ _ w3.drew
 generalize w3.drew=w4 at *
 have iI:f_ (∀w5,g_ w4.heap.size w4 w5->w5.heap[w.heap.size]?=some (.cells (gi L O P m.clock vr (.slice aw m.wait.length cw) (.slice ab m.back.length cb) (.slice al bM cl)) 63 (0,0))/\w5.heap[w.heap.size+1]?=some (.cells ia 63 (0,0))):=fun w5 qo=>⟨(qo.block _ (by rw [Vs.out];omega)).trans ((FL.out _ hne).trans DF.out),(qo.block _ (by rw [Vs.out];omega)).trans ((FL.out _ (by omega)).trans jx.out)⟩
 rw [Qs.out] at iI
 clear Z1 Z2 Z3 hfd
 go_wp2_with (go_at_call 115;(with_reducible refine sY.out.mono ?_);rintro e w5 ⟨u,rfl,Nd,qo,YP⟩;obtain ⟨a5,H8,hu5⟩:=aE Nd;subst hu5;obtain ⟨⟨a0,a1,a2,a3,a4,a6,a7,a8⟩,f0,f1,f2,f3,f4,f5,f6,f7⟩:=aG (iI.out w5 qo).1;obtain ⟨⟨b0,b1,b2,b3,b4,b5,b6,b7⟩,t0,t1,t2,t3,t4,t5,t6,t7⟩:=aG (iI.out w5 qo).2)
 clear a0 a1 a2 a3 a4 a6 a7 a8 f0 f1 f2 f3 f4 f5 f6 f7 b0 b1 b2 b3 b4 b5 b6 b7 t0 t1 t2 t3 t4 t5 t6 t7
 obtain ⟨AP,M0⟩:=iI.out w5 qo
 have R5:=RBd.out.waits qo Nd YP
 have lH:vr.ownBlock=some g:=by rw [Qs.out];rfl
 have YK:∀j,w.heap.size<=j->j<w.heap.size+2->vr.ownBlock≠some j/\(mN a5 (aJ m.wait r.call).length H8).ownBlock≠some j/\(mN ab m.back.length cb).ownBlock≠some j:=fun j h1 h2=>⟨fun e=>by have:=M_ (lH.symm.trans e);omega,fun e=>by have:=(Nd.lt j e).1;rw [Vs.out] at this;omega,fun e=>by have:=Rq.out.nN.2.2 j e;omega⟩
 have q0:=YK w.heap.size (C_ _) (by omega)
 have q1:=YK (w.heap.size+1) (Nat.le_succ _) (by omega)
 have R6:=R5.cell (b:=w.heap.size) (n:=5) (v:=.slice a5 (aJ m.wait r.call).length H8) q0.1 q0.2.1 q0.2.2
 have F6:bg vr (.slice none 0 0) w (w5.setCell ⟨w.heap.size,5,none⟩ (.slice a5 (aJ m.wait r.call).length H8)):=(EX.out.trans (bg.bW qo)).i7 (C_ _)
 have Qo:(w5.setCell ⟨w.heap.size,5,none⟩ (.slice a5 (aJ m.wait r.call).length H8)).heap[w.heap.size+1]?=some (.cells ia 63 (0,0)):=(a_ w5 ⟨w.heap.size,5,none⟩ _ _ (by show w.heap.size+1≠w.heap.size;omega)).trans M0
 have lG:f_ (∀j,(mN a5 (aJ m.wait r.call).length H8).ownBlock=some j->w.heap.size<=j):=fun j e=>by have:=(Nd.lt j e).1;rw [Vs.out] at this;omega
 have R7:=aa (R6.b8 (v0:=.int .i64 L) (v1:=.int .i64 O) (v2:=.int .i64 P) (v3:=.int .i64 m.clock) (v4:=.slice (some ⟨g,0,none⟩) m.recs.length cap) (v5:=.slice a5 (aJ m.wait r.call).length H8) (v6:=.slice ab m.back.length cb) (v7:=.slice al bM cl) q1.1 q1.2.1 q1.2.2)
 have F7:=aa (F6.b8 (b:=w.heap.size+1) (v0:=.int .i64 L) (v1:=.int .i64 O) (v2:=.int .i64 P) (v3:=.int .i64 m.clock) (v4:=.slice (some ⟨g,0,none⟩) m.recs.length cap) (v5:=.slice a5 (aJ m.wait r.call).length H8) (v6:=.slice ab m.back.length cb) (v7:=.slice al bM cl) (Nat.le_succ _))
 obtain ⟨⟨s0,s1,s2,s3,s4,s5,s6,s7⟩,_⟩:=aG (lB (show _=some (jY #[.int .i64 0,.int .i64 0,.int .i64 0,.int .i64 0,.slice none 0 0,.slice none 0 0,.slice none 0 0,.slice none 0 0] 63 (0,0)) from Qo) (.int .i64 L) (.int .i64 O) (.int .i64 P) (.int .i64 m.clock) (.slice (some ⟨g,0,none⟩) m.recs.length cap) (.slice a5 (aJ m.wait r.call).length H8) (.slice ab m.back.length cb) (.slice al bM cl))
 change bodyPost p_ f116 _ .ret _ (Of.b8 (w5.setCell ⟨w.heap.size,5,none⟩ (.slice a5 (aJ m.wait r.call).length H8)) (w.heap.size+1) (.int .i64 L) (.int .i64 O) (.int .i64 P) (.int .i64 m.clock) (.slice (some ⟨g,0,none⟩) m.recs.length cap) (.slice a5 (aJ m.wait r.call).length H8) (.slice ab m.back.length cb) (.slice al bM cl))
 generalize Of.b8 (w5.setCell ⟨w.heap.size,5,none⟩ (.slice a5 (aJ m.wait r.call).length H8)) (w.heap.size+1) (.int .i64 L) (.int .i64 O) (.int .i64 P) (.int .i64 m.clock) (.slice (some ⟨g,0,none⟩) m.recs.length cap) (.slice a5 (aJ m.wait r.call).length H8) (.slice ab m.back.length cb) (.slice al bM cl)=W at R7 F7 s0 s1 s2 s3 s4 s5 s6 s7 ⊢
 clear R5 R6 F6 Qo AP M0 q0 q1 YK Nd qo iI sY Vs FL RBd EX
 refine bodyPost_ret (v:=jD L O P m.clock (.slice (some ⟨g,0,none⟩) m.recs.length cap) (.slice a5 (aJ m.wait r.call).length H8) (.slice ab m.back.length cb) (.slice al bM cl)) (by simp [results,Tryz.results116,go_sem,jD,s0,s1,s2,s3,s4,s5,s6,s7]) rfl ?_
 exact ⟨_,rfl,by rw [<-Qs.out];exact R7.out,by rw [<-Qs.out];exact F7.out,lG.out⟩
theorem jF {e n:Nat} {v:M'} (h:w.ownsRow B e sz v n xs) {g:Nat} (hg:v.ownBlock=some g):∃c,w.heap[g]?=some (.cells c e (0,0)):=by
 rcases h.2 with ⟨h0,_⟩|⟨g',cap,cur,h1,_,h3,_⟩
 ·rw [h0] at hg;cases hg
 ·rw [h1] at hg
  have:g'=g:=M_ hg
  subst this
  exact ⟨cur,h3⟩
theorem bB {e n:Nat} {v:M'} (h:w.ownsRow B e sz v n xs) {c:Array M'} {t:Q'} (hb:w.heap[b]?=some (.cells c t (0,0))) (ht:e≠t):v.ownBlock≠some b:=fun e1=>by
 obtain ⟨c',h2⟩:=jF h e1
 rw [hb] at h2
 simp at h2
 exact ht h2.2.symm
structure gO (w0:J') (r0 b0:M') (B:Nat) (m:Rm) (L O P:Int) (vr vw vb vl:M') (b2 b4:Nat) (w:J'):Prop where
 room:bA B m vr vw vb w
 fr:bg r0 b0 w0 w
 rr:∀g,g<w0.heap.size->vr.ownBlock=some g->r0.ownBlock=some g
 rb:∀g,g<w0.heap.size->vb.ownBlock=some g->b0.ownBlock=some g
 box:w.heap[b2]?=some (.cells (gi L O P m.clock vr vw vb vl) 63 (0,0))
 res:w.heap[b4]?=some (.cells ia 63 (0,0))
 l2:w0.heap.size<=b2
 l4:w0.heap.size<=b4
 ne:b2≠b4
variable {w0:J'} {r0 b0:M'} {vw:M'} {b2 b4:Nat}
theorem gO.LX (h:gO w0 r0 b0 B m L O P vr vw vb vl b2 b4 w):b2<w.heap.size:=(cI h.box)
theorem gO.Qf (h:gO w0 r0 b0 B m L O P vr vw vb vl b2 b4 w):b4<w.heap.size:=(cI h.res)
theorem gO.start (R:bA B m vr vw vb w0) (hb:g_ w0.heap.size w0 w) (h2:w.heap[b2]?=some (.cells (gi L O P m.clock vr vw vb vl) 63 (0,0))) (h4:w.heap[b4]?=some (.cells ia 63 (0,0))) (l2:w0.heap.size<=b2) (l4:w0.heap.size<=b4) (ne:b2≠b4):gO w0 vr vb B m L O P vr vw vb vl b2 b4 w:=
 ⟨R.below hb,.bW hb,fun _ _ h=>h,fun _ _ h=>h,h2,h4,l2,l4,ne⟩
theorem gO.below (h:gO w0 r0 b0 B m L O P vr vw vb vl b2 b4 w) (hb:g_ w.heap.size w w'):gO w0 r0 b0 B m L O P vr vw vb vl b2 b4 w':=
 ⟨h.room.below hb,h.fr.trans (.bW hb),h.rr,h.rb,(hb.block _ h.LX).trans h.box,(hb.block _ h.Qf).trans h.res,h.l2,h.l4,h.ne⟩
theorem gO.drew (h:gO w0 r0 b0 B m L O P vr vw vb vl b2 b4 w):gO w0 r0 b0 B m L O P vr vw vb vl b2 b4 w.drew:=h.below (h_ _ _).drew
theorem gO.oB (h:gO w0 r0 b0 B m L O P vr vw vb vl b2 b4 w):(vr.ownBlock≠some b2/\vw.ownBlock≠some b2/\vb.ownBlock≠some b2)/\(vr.ownBlock≠some b4/\vw.ownBlock≠some b4/\vb.ownBlock≠some b4):=
 ⟨⟨bB h.room.recs h.box (by decide),bB h.room.wait h.box (by decide),bB h.room.back h.box (by decide)⟩,bB h.room.recs h.res (by decide),bB h.room.wait h.res (by decide),bB h.room.back h.res (by decide)⟩
theorem Ji (v:M'):(gi L O P ck vr vw vb vl).setIfInBounds 4 v=gi L O P ck v vw vb vl:=rfl
theorem Jh (v:M'):(gi L O P ck vr vw vb vl).setIfInBounds 5 v=gi L O P ck vr v vb vl:=rfl
theorem Cc (v:M'):(gi L O P ck vr vw vb vl).setIfInBounds 6 v=gi L O P ck vr vw v vl:=rfl
variable {v':M'}
theorem gO.recs (h:gO w0 r0 b0 B m L O P vr vw vb vl b2 b4 w) {r:Rec} (hk:k=m.recs.length+1) (hg:w.grownBy w' vr.ownBlock) (ho:w'.ownsRow B 44 7 v' k (cj (m.recs++[r]))) (fH:v'.ownBlock=vr.ownBlock\/v'.ownBlock=some w.heap.size):
 gO w0 r0 b0 B {m with recs:=m.recs++[r]} L O P v' vw vb vl b2 b4 (w'.setCell ⟨b2,4,none⟩ v'):=by
 obtain ⟨⟨q1,q2,q3⟩,q4,q5,q6⟩:=h.oB
 have n1:=gF h.room.wait h.room.recs (by decide)
 have n2:=gF h.room.back h.room.recs (by decide)
 have lF:w'.heap[b2]?=some (.cells (gi L O P m.clock vr vw vb vl) 63 (0,0)):=(hg.block _ h.LX (fun e=>q1 e.symm)).trans h.box
 have uI:w'.heap[b4]?=some (.cells ia 63 (0,0)):=(hg.block _ h.Qf (fun e=>q4 e.symm)).trans h.res
 have BH:v'.ownBlock≠some b2:=bB ho lF (by decide)
 have RA:bA B {m with recs:=m.recs++[r]} v' vw vb w':=⟨D_ h.room.big hg.size,by rw [K_];rw [hk] at ho;exact ho,h.room.wait.kept hg n1,h.room.back.kept hg n2,h.room.apart,h.room.iQ⟩
 refine ⟨RA.cell BH q2 q3, ?_, ?_,h.rb, ?_, ?_,h.l2,h.l4,h.ne⟩
 ·refine bg.i7 ⟨hg.os.trans h.fr.os,hg.tape.trans h.fr.tape,hg.output.trans h.fr.output,D_ h.fr.size hg.size,fun g hl h1 h2=>(hg.block g (E_ hl h.fr.size) (fun e=>h1 (h.rr g hl e.symm))).trans (h.fr.block g hl h1 h2)⟩ h.l2
 ·intro g hl e
  rcases fH with x|x
  ·exact h.rr g hl (x▸e)
  ·have:=M_ (x.symm.trans e);have:=h.fr.size;omega
 ·have:=Go.heap_setCell_same w' b2 4 _ 63 v' lF
  rw [Ji] at this;exact this
 ·exact (a_ w' ⟨b2,4,none⟩ b4 v' (fun e=>h.ne e.symm)).trans uI
theorem gO.waits (h:gO w0 r0 b0 B m L O P vr vw vb vl b2 b4 w) (hb:g_ w.heap.size w w') {u:M'} (ho:w'.ownsRow w.heap.size 114 2 u ws.length (ax ws)) (hu:∃g,u.ownBlock=some g):
 gO w0 r0 b0 B {m with wait:=ws} L O P vr u vb vl b2 b4 (w'.setCell ⟨b2,5,none⟩ u):=by
 have h':=h.below hb
 obtain ⟨⟨q1,q2,q3⟩,q4,q5,q6⟩:=h'.oB
 have BH:u.ownBlock≠some b2:=bB ho h'.box (by decide)
 refine ⟨(h.room.waits hb ho hu).cell q1 BH q3,h'.fr.i7 h.l2,h.rr,h.rb, ?_, ?_,h.l2,h.l4,h.ne⟩
 ·have:=Go.heap_setCell_same w' b2 5 _ 63 u h'.box
  rw [Jh] at this;exact this
 ·exact (a_ w' ⟨b2,5,none⟩ b4 u (fun e=>h.ne e.symm)).trans h'.res
theorem gO.O6 (h:gO w0 r0 b0 B m L O P vr vw vb vl b2 b4 w) (hb:g_ w.heap.size w w') {u:M'} (ho:w'.ownsRow w.heap.size 114 2 u ws.length (ax ws)):
 gO w0 r0 b0 B {m with back:=ws} L O P vr vw u vl b2 b4 (w'.setCell ⟨b2,6,none⟩ u):=by
 have h':=h.below hb
 obtain ⟨⟨q1,q2,q3⟩,q4,q5,q6⟩:=h'.oB
 have BH:u.ownBlock≠some b2:=bB ho h'.box (by decide)
 refine ⟨(h.room.Gx hb ho).cell q1 q2 BH,h'.fr.i7 h.l2,h.rr,fun g hl e=> ?_, ?_, ?_,h.l2,h.l4,h.ne⟩
 ·have:=(ho.lt g e).1;have:=h.fr.size;omega
 ·have:=Go.heap_setCell_same w' b2 6 _ 63 u h'.box
  rw [Cc] at this;exact this
 ·exact (a_ w' ⟨b2,6,none⟩ b4 u (fun e=>h.ne e.symm)).trans h'.res
theorem gO.aBt (h:gO w0 r0 b0 B m L O P vr vw vb vl b2 b4 w) {p:Int × Int} (hk:k=m.back.length+1) (hg:w.grownBy w' vb.ownBlock) (ho:w'.ownsRow B 114 2 v' k (ax (m.back++[p]))) (fH:v'.ownBlock=vb.ownBlock\/v'.ownBlock=some w.heap.size):
 gO w0 r0 b0 B {m with back:=m.back++[p]} L O P vr vw v' vl b2 b4 (w'.setCell ⟨b2,6,none⟩ v'):=by
 obtain ⟨⟨q1,q2,q3⟩,q4,q5,q6⟩:=h.oB
 have n1:vw.ownBlock=none\/vw.ownBlock≠vb.ownBlock:=by
  cases hx:vw.ownBlock with
  |none=>exact .inl rfl
  |some g=>exact .inr fun e=>h.room.apart g hx e.symm
 have n2:=gF h.room.recs h.room.back (by decide)
 have lF:w'.heap[b2]?=some (.cells (gi L O P m.clock vr vw vb vl) 63 (0,0)):=(hg.block _ h.LX (fun e=>q3 e.symm)).trans h.box
 have uI:w'.heap[b4]?=some (.cells ia 63 (0,0)):=(hg.block _ h.Qf (fun e=>q6 e.symm)).trans h.res
 have BH:v'.ownBlock≠some b2:=bB ho lF (by decide)
 have Gp:∀g,vw.ownBlock=some g->v'.ownBlock≠some g:=fun g e e2=>by
  rcases fH with x|x
  ·exact h.room.apart g e (x▸e2)
  ·have:=M_ (x.symm.trans e2);have:=(h.room.wait.lt g e).2;omega
 have RA:bA B {m with back:=m.back++[p]} vr vw v' w':=⟨D_ h.room.big hg.size,h.room.recs.kept hg n2,h.room.wait.kept hg n1,by rw [K_];rw [hk] at ho;exact ho,Gp,h.room.iQ⟩
 refine ⟨RA.cell q1 q2 BH, ?_,h.rr, ?_, ?_, ?_,h.l2,h.l4,h.ne⟩
 ·refine bg.i7 ⟨hg.os.trans h.fr.os,hg.tape.trans h.fr.tape,hg.output.trans h.fr.output,D_ h.fr.size hg.size,fun g hl h1 h2=>(hg.block g (E_ hl h.fr.size) (fun e=>h2 (h.rb g hl e.symm))).trans (h.fr.block g hl h1 h2)⟩ h.l2
 ·intro g hl e
  rcases fH with x|x
  ·exact h.rb g hl (x▸e)
  ·have:=M_ (x.symm.trans e);have:=h.fr.size;omega
 ·have:=Go.heap_setCell_same w' b2 6 _ 63 v' lF
  rw [Cc] at this;exact this
 ·exact (a_ w' ⟨b2,6,none⟩ b4 v' (fun e=>h.ne e.symm)).trans uI
theorem gO.set (h:gO w0 r0 b0 B m L O P vr vw vb vl b2 b4 w) {g cap:Nat} (hv:vr=.slice (some ⟨g,0,none⟩) m.recs.length cap) (hi:i<m.recs.length) (hk:k<7) {v:M'} {r:Rec} (hr:r.cells=(m.recs[i]).cells.set k v):
 gO w0 r0 b0 B {m with recs:=m.recs.set i r} L O P vr vw vb vl b2 b4 (w.setCell ⟨g,i * 7+k,none⟩ v):=by
 obtain ⟨⟨q1,q2,q3⟩,q4,q5,q6⟩:=h.oB
 have hg:vr.ownBlock=some g:=by rw [hv];rfl
 refine ⟨h.room.set hv hi hk hr, ?_,h.rr,h.rb, ?_, ?_,h.l2,h.l4,h.ne⟩
 ·refine ⟨h.fr.os,h.fr.tape,h.fr.output,by rw [o_];exact h.fr.size,fun j hj h1 h2=>(a_ w ⟨g,i * 7+k,none⟩ j v (fun e=>h1 (h.rr j hj (by rw [hg,show j=g from e])))).trans (h.fr.block j hj h1 h2)⟩
 ·exact (a_ w ⟨g,i * 7+k,none⟩ b2 v (fun e=>q1 (by rw [hg,show b2=g from e]))).trans h.box
 ·exact (a_ w ⟨g,i * 7+k,none⟩ b4 v (fun e=>q4 (by rw [hg,show b4=g from e]))).trans h.res
def Done (w0:J') (r0 b0:M') (B:Nat) (m:Rm) (L O P:Int) (vl:M') (t:Bs) (e:Ending) (w:J'):Prop:=
 ∃vr vw vb,e=.returned (.tuple #[jD L O P m.clock vr vw vb vl,.string ⟨t.toArray⟩])/\bA B m vr vw vb w/\bg r0 b0 w0 w/\(∀g,g<w0.heap.size->vr.ownBlock=some g->r0.ownBlock=some g)/\(∀g,g<w0.heap.size->vb.ownBlock=some g->b0.ownBlock=some g)
variable {fn:Func} {tm:Array M'}
theorem gO.ends (h:gO w0 r0 b0 B m L O P vr vw vb vl b2 b4 w) {t:Bs} (EJ:fn.results=#[.cell 4 63,.tmp 5]) (h4:tm.getD 4 I'=.pointer (some ⟨b4,0,none⟩)) (h5:tm.getD 5 I'=.string ⟨t.toArray⟩):
 bodyPost p_ fn (Done w0 r0 b0 B m L O P vl t) .ret ⟨tm,[]⟩ (Of.b8 w b4 (.int .i64 L) (.int .i64 O) (.int .i64 P) (.int .i64 m.clock) vr vw vb vl):=by
 obtain ⟨⟨q1,q2,q3⟩,q4,q5,q6⟩:=h.oB
 have hR:=h.room.b8 (v0:=.int .i64 L) (v1:=.int .i64 O) (v2:=.int .i64 P) (v3:=.int .i64 m.clock) (v4:=vr) (v5:=vw) (v6:=vb) (v7:=vl) q4 q5 q6
 have hF:=h.fr.b8 (v0:=.int .i64 L) (v1:=.int .i64 O) (v2:=.int .i64 P) (v3:=.int .i64 m.clock) (v4:=vr) (v5:=vw) (v6:=vb) (v7:=vl) h.l4
 obtain ⟨⟨s0,s1,s2,s3,s4,s5,s6,s7⟩,_⟩:=aG (lB (show w.heap[b4]?=some (jY #[.int .i64 0,.int .i64 0,.int .i64 0,.int .i64 0,.slice none 0 0,.slice none 0 0,.slice none 0 0,.slice none 0 0] 63 (0,0)) from h.res) (.int .i64 L) (.int .i64 O) (.int .i64 P) (.int .i64 m.clock) vr vw vb vl)
 generalize Of.b8 w b4 (.int .i64 L) (.int .i64 O) (.int .i64 P) (.int .i64 m.clock) vr vw vb vl=W at *
 have VC:tm[4]?.getD I'=.pointer (some ⟨b4,0,none⟩):=by rw [<-r_];exact h4
 have VB:tm[5]?.getD I'=.string ⟨t.toArray⟩:=by rw [<-r_];exact h5
 refine bodyPost_ret (v:=.tuple #[jD L O P m.clock vr vw vb vl,.string ⟨t.toArray⟩]) (by simp [results,EJ,go_sem,jD,VC,VB,s0,s1,s2,s3,s4,s5,s6,s7]) rfl ?_
 exact ⟨vr,vw,vb,rfl,hR,hF,h.rr,h.rb⟩
noncomputable def Br:Code:=f82.body.getD .skip
noncomputable def R82:Code:=ai 3 Br
structure Qr where
 u:M'
 g:Nat
structure VX (ld:List Nat) (kc kb ka ks:Nat) (w1:J') (w0:J') (r0 b0:M') (B:Nat) (m:Rm) (L O P:Int) (vw vb vl:M') (b2 b4:Nat) (ar:Option z_) (cr:Nat) (r:Rec) (D:Array Bool) (q:Qr) (w:J'):Prop where
 o1:D.getD kc false=true->∀j∈ld,D.getD j false=true
 o0:D.getD kb false=true->D.getD kc false=true
 o2:D.getD ka false=true->D.getD kb false=true/\D.getD 1 false=true
 o3:D.getD ks false=true->D.getD ka false=true
 a:D.getD kb false=false->w=w1
 b:D.getD kb false=true->D.getD ka false=false->w=w1.alloc (.cells r.cells.toArray 44)/\q.g=w1.heap.size
 c:D.getD ka false=true->D.getD ks false=false->w.ownsRow B 44 7 q.u (m.recs.length+1) (cj (m.recs++[r]))/\(w1.alloc (.cells r.cells.toArray 44)).grownBy w (mN ar m.recs.length cr).ownBlock/\(q.u.ownBlock=(mN ar m.recs.length cr).ownBlock\/q.u.ownBlock=some (w1.heap.size+1))
 d:D.getD ks false=true->(gO w0 r0 b0 B {m with recs:=m.recs++[r]} L O P q.u vw vb vl b2 b4 w)/\∀g,g<w1.heap.size->g≠b2->(mN ar m.recs.length cr).ownBlock≠some g->w.heap[g]?=w1.heap[g]?
 e:D.getD ka false=true->∃gg cap,q.u=.slice (some ⟨gg,0,none⟩) (m.recs.length+1) cap
variable {ar:Option z_} {cr:Nat}
theorem VX.same {ld:List Nat} {kc kb ka ks:Nat} {vw:M'} {r:Rec} {q:Qr} (h:VX ld kc kb ka ks w1 w0 r0 b0 B m L O P vw vb vl b2 b4 ar cr r D q w) (qn:∀j,j≠i->D'.getD j false=D.getD j false) (qi:D'.getD i false=true) (hi:i∉[kc,kb,ka,ks]):VX ld kc kb ka ks w1 w0 r0 b0 B m L O P vw vb vl b2 b4 ar cr r D' q w:=by
 have e0:=qn kc (fun e=>hi (by simp [e]))
 have e1:=qn kb (fun e=>hi (by simp [e]))
 have e2:=qn ka (fun e=>hi (by simp [e]))
 have e3:=qn ks (fun e=>hi (by simp [e]))
 have mo:∀j,D.getD j false=true->D'.getD j false=true:=fun j hj=>by
  by_cases e:j=i
  ·subst e;exact qi
  ·rw [qn j e];exact hj
 exact ⟨by rw [e0];exact fun hb j hj=>mo j (h.o1 hb j hj),by rw [e1,e0];exact h.o0,by rw [e2];exact fun ha=>⟨mo _ (h.o2 ha).1,mo _ (h.o2 ha).2⟩,by rw [e3,e2];exact h.o3,by rw [e1];exact h.a,by rw [e1,e2];exact h.b,by rw [e2,e3];exact h.c,by rw [e3];exact h.d,by rw [e2];exact h.e⟩
def zR (b2 b3 gu nf cu:Nat) (m:Rm) (ar:Option z_) (cr:Nat) (r:Rec) (x:Qr):Nat->M'
 |0=>.pointer (some ⟨b2,4,none⟩)
 |1=>.slice ar m.recs.length cr
 |2=>.pointer (some ⟨b3,0,none⟩)
 |3=>.int .i64 r.call
 |4=>.slice (some ⟨gu,0,none⟩) nf cu
 |5=>.pointer (some ⟨gu,0,none⟩)
 |6=>.int .i64 r.line
 |7=>.pointer (some ⟨b2,3,none⟩)
 |8=>.int .i64 m.clock
 |9=>.agg #[.int .i64 r.call,.int .i64 r.line,.int .i64 0,.int .i64 m.clock,.int .i64 (-1),.int .i64 (-1),.string ⟨#[111,112,101,110]⟩]
 |10=>.slice (some ⟨x.g,0,none⟩) 1 1
 |11=>x.u
 |12=>.pointer (some ⟨b2,4,none⟩)
 |_=>I'
variable {gu nf cu:Nat} {z0 z5 dP dO dV ey ew eu eK eJ eI eH eQ eN en iu iF iE iD iC iB:M'}
theorem Ti {vw:M'} {r:Rec} {b3:Nat} (hF:gO w0 r0 b0 B m L O P (.slice ar m.recs.length cr) vw vb vl b2 b4 w) (hn:m.recs.length<=1000) (hnf:0<nf) (Gk:nf<=cu) (mj:f_ (r.cells.toArray=#[.int .i64 r.call,.int .i64 r.line,.int .i64 0,.int .i64 m.clock,.int .i64 (-1),.int .i64 (-1),.string ⟨#[111,112,101,110]⟩])) (h3:w.cell? ⟨b3,0,none⟩=some (.int .i64 r.call)) (mi:w.cell? ⟨gu,0,none⟩=some (.int .i64 r.line)) {z12 z20 z21 z22 z23 z24 z25 z26 z28 z31 z37 z40 z46 z49 z51 z53 z59:M'}
 (hQ:∀w' gg cap (TE TC Om TB TA Tz Ty Tx Tw Tv Tu Ol Oj:M'),gO w0 r0 b0 B {m with recs:=m.recs++[r]} L O P (.slice (some ⟨gg,0,none⟩) (m.recs.length+1) cap) vw vb vl b2 b4 w'->(∀g,g<w.heap.size->g≠b2->(mN ar m.recs.length cr).ownBlock≠some g->w'.heap[g]?=w.heap[g]?)->Q .normal ⟨#[z0,z1,.pointer (some ⟨b2,0,none⟩),.pointer (some ⟨b3,0,none⟩),z4,z5,.slice (some ⟨gu,0,none⟩) nf cu,z7,z8,z9,dB,cZ,z12,de,dn,dm,dk,dj,dA,dz,z20,z21,z22,z23,z24,z25,z26,dD,z28,dC,dM,z31,dQ,dK,dP,dO,TE,TC,Om,TB,TA,Tz,Ty,Tx,Tw,Tv,Tu,Ol,Oj,z49,en,z51,iu,z53,iF,iE,iD,iC,iB,z59],[]⟩ w'):
 Code.wp p_ R82 Q ⟨#[z0,z1,.pointer (some ⟨b2,0,none⟩),.pointer (some ⟨b3,0,none⟩),z4,z5,.slice (some ⟨gu,0,none⟩) nf cu,z7,z8,z9,dB,cZ,z12,de,dn,dm,dk,dj,dA,dz,z20,z21,z22,z23,z24,z25,z26,dD,z28,dC,dM,z31,dQ,dK,dP,dO,dV,z37,ey,ew,z40,eu,eK,eJ,eI,eH,z46,eQ,eN,z49,en,z51,iu,z53,iF,iE,iD,iC,iB,z59],[]⟩ w:=by
 have hF:=hF.drew
 have c3:w.drew.cell? ⟨b2,3,none⟩=some (.int .i64 m.clock):=(aG hF.box).1.2.2.2.1
 have c4:w.drew.cell? ⟨b2,4,none⟩=some (.slice ar m.recs.length cr):=(aG hF.box).1.2.2.2.2.1
 have h3:w.drew.cell? ⟨b3,0,none⟩=some (.int .i64 r.call):=h3
 have mi:w.drew.cell? ⟨gu,0,none⟩=some (.int .i64 r.line):=mi
 obtain ⟨w1,cf⟩:∃w1,w.drew=w1:=⟨_,rfl⟩
 have vC:f_ (∀g:Nat,w1.heap[g]?=w.heap[g]?/\w1.heap.size=w.heap.size):=fun g=>by rw [<-cf];exact ⟨rfl,rfl⟩
 rw [cf] at hF c3 c4 h3 mi
 refine wpN 60 fun bs cn oq HI=> ?_
 simp only [R82,ai,Br,f82,A_]
 refine mA (by kernel_rfl) (kP:=⟨I',0⟩) (base:=bs) (by rw [oq];kernel_rfl) (by kernel_rfl) (fun x=>zR b2 b3 gu nf cu m ar cr r x) (VX [3,6,8] 9 10 11 13 w1 w0 r0 b0 B m L O P vw vb vl b2 b4 ar cr r)
  (by
   exact ⟨E5,E5,E5,E5,fun _=>cf,E5,E5,E5,E5⟩) ?_ ?_
 ·intro i o' ho D x w a hD bc hw bH aD K k
  have hlt:i<14:=(cI ho)
  have Gl:=bT oq
  have qi:=qI hD hlt
  have qn:=qN D i
  have aA:=aa k
  clear k
  obtain rfl|rfl|rfl|rfl|rfl|rfl|rfl|rfl|rfl|rfl|rfl|rfl|rfl|rfl:i=0\/i=1\/i=2\/i=3\/i=4\/i=5\/i=6\/i=7\/i=8\/i=9\/i=10\/i=11\/i=12\/i=13:=by omega
  all_goals obtain rfl:=so ho rfl
  ·obtain ⟨v2,w2⟩:=bc.oo (.pointer (some ⟨b2,0,none⟩)) 2
   exact IZ (.pointer (some ⟨b2,4,none⟩))
  ·have d0:=dq aD 0
   obtain ⟨v36,w36⟩:=bc.vv (.pointer (some ⟨b2,4,none⟩)) 36 0 d0
   have c4:w.cell? ⟨b2,4,none⟩=some (.slice ar m.recs.length cr):=by
    have hk:=ff bH fun hx=>(hw.o2 hx).2
    cases hb:D.getD 10 false with
    |false=>rw [hw.a hb];exact c4
    |true=>rw [(hw.b hb hk).1];exact (N_ w1 _ none).cell c4 (by simp)
   exact IZ (.slice ar m.recs.length cr)
  ·obtain ⟨v3,w3⟩:=bc.oo (.pointer (some ⟨b3,0,none⟩)) 3
   exact IZ (.pointer (some ⟨b3,0,none⟩))
  ·have d2:=dq aD 2
   obtain ⟨v38,XX⟩:=bc.vv (.pointer (some ⟨b3,0,none⟩)) 38 2 d2
   have vF:=ff bH fun hx=>hw.o1 (hw.o0 hx) 3 (by decide)
   obtain rfl:=hw.a vF
   exact IZ (.int .i64 r.call)
  ·obtain ⟨v6,w6⟩:=bc.oo (.slice (some ⟨gu,0,none⟩) nf cu) 6
   exact IZ (.slice (some ⟨gu,0,none⟩) nf cu)
  ·have d4:=dq aD 4
   obtain ⟨v40,XW⟩:=bc.vv (.slice (some ⟨gu,0,none⟩) nf cu) 40 4 d4
   exact IZ (.pointer (some ⟨gu,0,none⟩))
  ·have d5:=dq aD 5
   obtain ⟨v41,XV⟩:=bc.vv (.pointer (some ⟨gu,0,none⟩)) 41 5 d5
   have vF:=ff bH fun hx=>hw.o1 (hw.o0 hx) 6 (by decide)
   obtain rfl:=hw.a vF
   exact IZ (.int .i64 r.line)
  ·obtain ⟨v2,w2⟩:=bc.oo (.pointer (some ⟨b2,0,none⟩)) 2
   exact IZ (.pointer (some ⟨b2,3,none⟩))
  ·have d7:=dq aD 7
   obtain ⟨v43,XT⟩:=bc.vv (.pointer (some ⟨b2,3,none⟩)) 43 7 d7
   have vF:=ff bH fun hx=>hw.o1 (hw.o0 hx) 8 (by decide)
   obtain rfl:=hw.a vF
   exact IZ (.int .i64 m.clock)
  ·have d3:=dq aD 3
   have d6:=dq aD 6
   have d8:=dq aD 8
   obtain ⟨v39,w39⟩:=bc.vv (.int .i64 r.call) 39 3 d3
   obtain ⟨v42,XU⟩:=bc.vv (.int .i64 r.line) 42 6 d6
   obtain ⟨v44,XS⟩:=bc.vv (.int .i64 m.clock) 44 8 d8
   clear aD ho
   have e9:=qi
   have ow:=qn 10 (by decide)
   have jZ:=qn 11 (by decide)
   have oL:=qn 13 (by decide)
   have vF:=ff bH fun hx=>hw.o0 hx
   refine bj (v:=.agg #[.int .i64 r.call,.int .i64 r.line,.int .i64 0,.int .i64 m.clock,.int .i64 (-1),.int .i64 (-1),.string ⟨#[111,112,101,110]⟩]) (w':=w) rfl rfl ?_ (aA.out x w (fun _ _=>rfl) ⟨?_,by rw [ow,vF];exact fun h=>(by cases h),by rw [jZ,ow];exact fun h=>⟨(hw.o2 h).1,by rw [qn 1 (by decide)];exact (hw.o2 h).2⟩,by rw [oL,jZ];exact hw.o3,by rw [ow];exact hw.a,by rw [ow,jZ];exact hw.b,by rw [jZ,oL];exact hw.c,by rw [oL];exact hw.d,by rw [jZ];exact hw.e⟩)
   ·clear bc hw aA bH qi qn e9 ow jZ oL vF
    go_simp
   ·intro _ j hj
    simp only [R_,List.not_mem_nil,or_false] at hj
    rcases hj with rfl|rfl|rfl
    ·rw [qn _ (by decide)];exact d3
    ·rw [qn _ (by decide)];exact d6
    ·rw [qn _ (by decide)];exact d8
  ·have d9:=dq aD 9
   obtain ⟨v45,XR⟩:=bc.vv (.agg #[.int .i64 r.call,.int .i64 r.line,.int .i64 0,.int .i64 m.clock,.int .i64 (-1),.int .i64 (-1),.string ⟨#[111,112,101,110]⟩]) 45 9 d9
   clear aD ho
   have ow:=qi
   have jZ:=qn 11 (by decide)
   have oL:=qn 13 (by decide)
   have xE:=ff bH fun hx=>(hw.o2 hx).1
   have CR:=ff xE fun hx=>hw.o3 hx
   obtain rfl:=hw.a bH
   refine bj (v:=.slice (some ⟨w.heap.size,0,none⟩) 1 1) (w':=w.alloc (.cells r.cells.toArray 44)) rfl rfl ?_ ?_
   ·clear bc hw aA bH qi qn ow jZ oL
    rw [mj.out]
    go_simp
   ·refine aA.out ⟨x.u,w.heap.size⟩ _ (fun j hj=>by
     have hne:j≠10:=fun e=>by rw [e,bH] at hj;cases hj
     unfold zR;split<;>first|rfl|exact absurd rfl hne) ⟨by rw [qn 9 (by decide)];exact fun _ j hj=>if e:j=10 then (by subst e;exact qi) else (by rw [qn j e];exact hw.o1 d9 j hj),fun _=>by rw [qn 9 (by decide)];exact d9,by rw [jZ,xE];exact fun h=>(by cases h),by rw [oL,CR];exact fun h=>(by cases h),by rw [ow];exact fun h=>(by cases h),fun _ _=>⟨rfl,rfl⟩,by rw [jZ,xE];exact fun h=>(by cases h),by rw [oL,CR];exact fun h=>(by cases h),by rw [jZ,xE];exact fun h=>(by cases h)⟩
  ·have d1:=dq aD 1
   have d10:=dq aD 10
   obtain ⟨v37,w37⟩:=bc.vv (.slice ar m.recs.length cr) 37 1 d1
   obtain ⟨v46,XQ⟩:=bc.vv (.slice (some ⟨x.g,0,none⟩) 1 1) 46 10 d10
   clear aD ho
   have ow:=qn 10 (by decide)
   have jZ:=qi
   have oL:=qn 13 (by decide)
   have CR:=ff bH fun hx=>hw.o3 hx
   obtain ⟨yc,hg⟩:=hw.b d10 bH
   obtain ⟨i9,A5,Kl,nQ,nP⟩:=info_parts EA
   have bR:=hF.room.recs.alloc (.cells r.cells.toArray 44)
   obtain ⟨g,cap,w6,hrun,yI,pZ,iP,mR⟩:=run_append_lies (P:=p_) (w1.alloc (.cells r.cells.toArray 44)) 37 37 B 44 i9 _ 7 64 Tryz.underlying37 A5 Kl nQ nP rfl (by decide) (.slice ar m.recs.length cr) m.recs.length _ bR ⟨w1.heap.size,0,none⟩ 1 1 r.cells rfl (fY w1 _ _ rfl) (by intro u hu;simp [Rec.cells] at hu;rcases hu with rfl|rfl|rfl|rfl|rfl|rfl|rfl<;>rfl) (by decide) (by unfold maxLen;omega) (by omega) (D_ hF.room.big (N_ w1 _ none).size) _ rfl
   rw [hg] at v46
   subst yc
   refine bj (v:=.slice (some ⟨g,0,none⟩) (m.recs.length+1) cap) (w':=w6) rfl rfl ?_ ?_
   ·clear bc hw aA bH qi qn ow jZ oL
    simp only [List.getElem_toArray,List.getElem_cons_succ,List.getElem_cons_zero,V',resolve,invoke,builtin,Sem.run_bind,Sem.run_pure,Result.andThen_ok,List.map_toArray,S_,List.map_nil,v37,v46,hrun]
   ·refine aA.out ⟨.slice (some ⟨g,0,none⟩) (m.recs.length+1) cap,x.g⟩ _ (fun j hj=>by
     have hne:j≠11:=fun e=>by rw [e,bH] at hj;cases hj
     unfold zR;split<;>first|rfl|exact absurd rfl hne) ⟨?_,by rw [qn 9 (by decide),ow];exact hw.o0, ?_,by rw [oL,CR];exact fun h=>(by cases h),by rw [ow,d10];exact fun h=>(by cases h),by rw [jZ];exact fun _ h=>(by cases h),fun _ _=>⟨by rw [nG];simpa [cj] using yI,pZ, ?_⟩,by rw [oL,CR];exact fun h=>(by cases h),fun _=>⟨g,cap,rfl⟩⟩
    ·rw [qn 9 (by decide)];intro h j hj
     have:=hw.o1 h j hj
     by_cases e:j=11
     ·subst e;exact qi
     ·rw [qn j e];exact this
    ·intro _;rw [ow];exact ⟨d10,by rw [qn 1 (by decide)];exact d1⟩
    ·rcases iP with h|h
     ·exact .inl h.symm
     ·exact .inr (by rw [h,B_];rfl)
  ·obtain ⟨v2,w2⟩:=bc.oo (.pointer (some ⟨b2,0,none⟩)) 2
   exact IZ (.pointer (some ⟨b2,4,none⟩))
  ·have d12:=dq aD 12
   have d11:=dq aD 11
   obtain ⟨v48,Wb⟩:=bc.vv (.pointer (some ⟨b2,4,none⟩)) 48 12 d12
   obtain ⟨v47,LS⟩:=bc.vv (x.u) 47 11 d11
   clear aD ho
   have ow:=qn 10 (by decide)
   have jZ:=qn 11 (by decide)
   have oL:=qi
   obtain ⟨ho,lH,fH⟩:=hw.c d11 bH
   obtain ⟨gg,cap,hu⟩:=hw.e d11
   have F3:=hF.below ((h_ _ _).alloc (C_ _) (.cells r.cells.toArray 44))
   have F4:=F3.recs (r:=r) rfl lH ho (by rw [B_];exact fH)
   have lF:=(lH.block _ F3.LX (fun e=>F3.oB.1.1 e.symm)).trans F3.box
   have p4:w.cell? ⟨b2,4,none⟩=some (.slice ar m.recs.length cr):=by rw [cV lF];rfl
   have q4:w.frozen? ⟨b2,4,none⟩=false:=bX lF
   have QL:∀g,g<w1.heap.size->g≠b2->(mN ar m.recs.length cr).ownBlock≠some g->(w.setCell ⟨b2,4,none⟩ x.u).heap[g]?=w1.heap[g]?:=fun g h1 h2 h3=>(a_ w ⟨b2,4,none⟩ g x.u h2).trans ((lH.block g (by rw [B_];omega) (fun e=>h3 e.symm)).trans ((N_ w1 _ none).block g h1 (by simp)))
   have QL:=aa QL
   refine gQ (w':=w.setCell ⟨b2,4,none⟩ x.u) rfl rfl ?_ ?_
   ·clear bc hw aA bH qi qn ow jZ oL F3 F4 ho lH fH lF
    rw [hu] at LS
    rw [hu]
    go_simp
   ·refine aA.out x _ (fun _ _=>rfl) ⟨?_,by rw [qn 9 (by decide),ow];exact hw.o0,by rw [jZ,ow];exact fun h=>⟨(hw.o2 h).1,by rw [qn 1 (by decide)];exact (hw.o2 h).2⟩,fun _=>by rw [jZ];exact d11,by rw [ow];exact fun h=>(by rw [(hw.o2 d11).1] at h;cases h),by rw [jZ,d11];exact fun _ h=>(by cases h),by rw [oL];exact fun _ h=>(by cases h),fun _=>⟨F4,QL.out⟩,by rw [jZ];exact hw.e⟩
    rw [qn 9 (by decide)];intro h j hj
    have:=hw.o1 h j hj
    by_cases e:j=13
    ·subst e;exact qi
    ·rw [qn j e];exact this
 ·intro D x w hd hw
  obtain ⟨gg,cap,hu⟩:=hw.e (hd 11 (by decide))
  have EX:=hw.d (hd 13 (by decide))
  obtain ⟨u9,g9⟩:=x
  simp only at hu EX
  subst hu
  have:=hQ w gg cap (.pointer (some ⟨b2,4,none⟩)) (.slice ar m.recs.length cr) (.pointer (some ⟨b3,0,none⟩)) (.int .i64 r.call) (.slice (some ⟨gu,0,none⟩) nf cu) (.pointer (some ⟨gu,0,none⟩)) (.int .i64 r.line) (.pointer (some ⟨b2,3,none⟩)) (.int .i64 m.clock) (.agg #[.int .i64 r.call,.int .i64 r.line,.int .i64 0,.int .i64 m.clock,.int .i64 (-1),.int .i64 (-1),.string ⟨#[111,112,101,110]⟩]) (.slice (some ⟨g9,0,none⟩) 1 1) (.slice (some ⟨gg,0,none⟩) (m.recs.length+1) cap) (.pointer (some ⟨b2,4,none⟩)) EX.1 (fun g h1 h2 h3=>(EX.2 g (by rw [(vC.out g).2];exact h1) h2 h3).trans (vC.out g).1)
  generalize bc:slotsOf _ bs (zR b2 b3 gu nf cu m ar cr r ⟨.slice (some ⟨gg,0,none⟩) (m.recs.length+1) cap,g9⟩)=sl
  have eS:sl=#[z0,z1,.pointer (some ⟨b2,0,none⟩),.pointer (some ⟨b3,0,none⟩),z4,z5,.slice (some ⟨gu,0,none⟩) nf cu,z7,z8,z9,dB,cZ,z12,de,dn,dm,dk,dj,dA,dz,z20,z21,z22,z23,z24,z25,z26,dD,z28,dC,dM,z31,dQ,dK,dP,dO,.pointer (some ⟨b2,4,none⟩),.slice ar m.recs.length cr,.pointer (some ⟨b3,0,none⟩),.int .i64 r.call,.slice (some ⟨gu,0,none⟩) nf cu,.pointer (some ⟨gu,0,none⟩),.int .i64 r.line,.pointer (some ⟨b2,3,none⟩),.int .i64 m.clock,.agg #[.int .i64 r.call,.int .i64 r.line,.int .i64 0,.int .i64 m.clock,.int .i64 (-1),.int .i64 (-1),.string ⟨#[111,112,101,110]⟩],.slice (some ⟨g9,0,none⟩) 1 1,.slice (some ⟨gg,0,none⟩) (m.recs.length+1) cap,.pointer (some ⟨b2,4,none⟩),z49,en,z51,iu,z53,iF,iE,iD,iC,iB,z59]:=by rw [<-bc,<-cn];kernel_rfl
  rw [eS]
  exact this
end
end Go.aC.Of
namespace Go.aC
section
open Go Go.Conc Go.RowKit
variable {P:Program} {ops:Array Oper} {Q:Exit->Act->J'->Prop} {T:Type}
def xQ (ops:Array Oper):Bool:=(List.range ops.size).all fun i=>((ops[i]?).map fun o=>o.after.all fun e=> !Region.binds .any e||decide (e.on<i)).getD false
variable {D:Array Bool}
theorem Dq (hs:D.size=ops.size) (hb:xQ ops=true) (h:Region.ready .any ops D=[]):∀i,i<ops.size->D.getD i false=true:=by
 intro i
 induction i using Nat.strongRecOn with
 |_ i ih=>
  intro hi
  refine Classical.byContradiction fun hn=> ?_
  have hm:i∈Region.ready .any ops D:=by
   unfold Region.ready
   rw [List.mem_filter]
   refine ⟨by simpa using hi, ?_⟩
   have eo:=(List.all_eq_true.1 hb) i (by simpa using hi)
   rw [Array.getElem?_eq_getElem hi] at eo ⊢
   simp only [Option.map_some,A_,Array.all_eq_true,decide_eq_true_eq] at eo
   rw [T_]
   refine ⟨?_, ?_⟩
   ·have hl:i<D.size:=hs▸hi
    simp [Array.getD,hl] at hn ⊢
    exact hn
   ·simp only [Option.map_some,A_,Array.all_eq_true]
    intro j hj
    have hlt:=eo j hj
    rcases Bool.or_eq_true _ _ |>.mp hlt with h1|h1
    ·rw [h1];rfl
    ·have h2:=of_decide_eq_true h1
     rw [ih _ h2 (by omega),Bool.or_true]
  rw [h] at hm;cases hm
variable {w:J'}
theorem mz (hm:P.follows .mixedOrders=true) {base:Array M'} {id:Nat} (ho:rT ops base.size=true) (hb:xQ ops=true) (vals:T->Nat->M') (Wd:Array Bool->T->J'->Prop) {kP:T} (h0:Wd (Array.replicate ops.size false) kP w.drew)
 (hstep:∀i o',ops[i]?=some o'->∀D x w a,D.size=ops.size->iz ops base (vals x) D a->Wd D x w->D.getD i false=false->(∀e∈o'.after,Region.binds .any e=true->D.getD e.on false=true)->
  ∀K:Act->J'->Prop,(∀x' w',(∀j,D.getD j false=true->vals x' j=vals x j)->Wd (D.setIfInBounds i true) x' w'->K (a.put o'.dst (vals x' i)) w')->wpOp P ops Q i K a w)
 (A6:∀D x w,(∀i,i<ops.size->D.getD i false=true)->Wd D x w->Q .normal ⟨slotsOf ops base (vals x),[]⟩ w):
 Code.wp P (.region id ops true) Q ⟨base,[]⟩ w:=by
 refine wp_region_any hm ?_
 have key:∀fuel D x w a,D.size=ops.size->iz ops base (vals x) D a->Wd D x w->(∀i,i<ops.size->D.getD i false=true)\/((List.range ops.size).filter (fun i=> !D.getD i true)).length<=fuel->wpAny P .any ops Q fuel D a w:=by
  intro fuel
  induction fuel with
  |zero=>
   intro D x w a hD bc hw hl
   have hd:∀i,i<ops.size->D.getD i false=true:=by
    rcases hl with hl|hl
    ·exact hl
    ·intro i hi
     refine Classical.byContradiction fun hn=> ?_
     have Ge:i∈(List.range ops.size).filter (fun i=> !D.getD i true):=by
      rw [List.mem_filter]
      refine ⟨by simpa using hi, ?_⟩
      have hlt:i<D.size:=hD▸hi
      simp [Array.getD,hlt] at hn ⊢
      exact hn
     cases hx:(List.range ops.size).filter (fun i=> !D.getD i true) with
     |nil=>rw [hx] at Ge;cases Ge
     |cons y ys=>rw [hx] at hl;simp at hl
   refine ⟨?_, ?_⟩
   ·unfold Region.ready
    rw [List.filter_eq_nil_iff]
    intro i hi
    have lE:i<ops.size:=by simpa using hi
    have hlt:i<D.size:=hD▸lE
    have:=hd i lE
    simp [Array.getD,hlt] at this ⊢
    intro h;rw [this] at h;cases h
   ·rw [bc.done hd];exact A6 D x w hd hw
  |succ fuel ih=>
   intro D x w a hD bc hw hl
   refine ⟨fun he=> ?_,fun i hi=> ?_⟩
   ·have hd:=Dq hD hb he
    rw [bc.done hd];exact A6 D x w hd hw
   ·obtain ⟨o',h1,h2,h3,h4⟩:=tj hi
    have Me:i<D.size:=by omega
    have O0:D.getD i false=false:=by simp [Array.getD,Me] at h3 ⊢;exact h3
    refine hstep i o' h1 D x w a hD bc hw O0 h4 _ fun x' w' hv gC=> ?_
    refine ih (D.setIfInBounds i true) x' w' _ (by simpa using hD) (bc.put ho h2 hD h3 h1 hv) gC ?_
    rcases hl with hl|hl
    ·exact absurd (hl i h2) (by rw [O0];simp)
    ·refine .inr ?_
     have Ge:i∈(List.range ops.size).filter (fun i=> !D.getD i true):=by
      rw [List.mem_filter]
      exact ⟨by simpa using h2,by rw [h3];rfl⟩
     have yG:((List.range ops.size).filter fun j=> !(D.setIfInBounds i true).getD j true)=(((List.range ops.size).filter (fun i=> !D.getD i true)).filter fun j=>decide (j≠i)):=by
      rw [List.filter_filter]
      apply List.filter_congr
      intro j hj
      have EL:j<ops.size:=by simpa using hj
      have UI:j<D.size:=by omega
      by_cases e:i=j
      ·subst e;simp [Array.getD,Me]
      ·have e':¬j=i:=fun h=>e h.symm
       simp [Array.getD,UI,e',e]
     have hle:=List.length_filter_lt_length_iff_exists (p:=fun j=>decide (j≠i)) (l:=(List.range ops.size).filter (fun i=> !D.getD i true)) |>.2 ⟨i,Ge,by simp⟩
     rw [<-yG] at hle
     omega
 refine key _ _ _ _ _ (by simp) (oQ ops base (vals kP)) h0 (.inr ?_)
 exact D_ (List.length_filter_le _ _) (by simp)
end
end Go.aC
namespace Go.aC.Of
section
open Go Go.Conc Go.Conc.Lib Go.ConcR Go.ConcR.Gen Go.aC Go.Proofs
open Go.RowKit hiding Hid
open Go.ConcN (upd upd_ne upd_same)
noncomputable def V1:Code:=ai 5 Br
structure Xa (w1:J') (b4:Nat) (L O P ck:Int) (ar aw ab al:Option z_) (nr cr nw cw nb cb bM cl:Nat) (D:Array Bool) (_:Unit) (w:J'):Prop where
 o:D.getD 6 false=true->D.getD 4 false=true/\D.getD 0 false=true
 o3:D.getD 4 false=true->D.getD 3 false=true
 b:D.getD 6 false=false->g_ w1.heap.size w1 w
 c:D.getD 6 false=true->∃w5,g_ w1.heap.size w1 w5/\w=Of.b8 w5 b4 (.int .i64 L) (.int .i64 O) (.int .i64 P) (.int .i64 ck) (.slice ar nr cr) (.slice aw nw cw) (.slice ab nb cb) (.slice al bM cl)
variable {w1 w:J'} {b4 nr cr nw cw nb cb bM cl i:Nat} {L O P ck:Int} {ar aw ab al:Option z_} {D D':Array Bool}
theorem Xa.same {q:Unit} (h:Xa w1 b4 L O P ck ar aw ab al nr cr nw cw nb cb bM cl D q w) (qn:∀j,j≠i->D'.getD j false=D.getD j false) (hi:i∉[0,3,4,6]):Xa w1 b4 L O P ck ar aw ab al nr cr nw cw nb cb bM cl D' q w:=by
 have e0:=qn 0 (fun e=>hi (by simp [<-e]))
 have e3:=qn 3 (fun e=>hi (by simp [<-e]))
 have e4:=qn 4 (fun e=>hi (by simp [<-e]))
 have e6:=qn 6 (fun e=>hi (by simp [<-e]))
 exact ⟨by rw [e6,e4,e0];exact h.o,by rw [e4,e3];exact h.o3,by rw [e6];exact h.b,by rw [e6];exact h.c⟩
def Fx (gu nf cu:Nat) (l:Int) (L O P ck:Int) (ar aw ab al:Option z_) (nr cr nw cw nb cb bM cl:Nat) (_:Unit):Nat->M'
 |0=>.agg #[.int .i64 L,.int .i64 O,.int .i64 P,.int .i64 ck,.slice ar nr cr,.slice aw nw cw,.slice ab nb cb,.slice al bM cl]
 |1=>.slice (some ⟨gu,0,none⟩) nf cu
 |2=>.pointer (some ⟨gu,0,none⟩)
 |3=>.int .i64 l
 |4=>.string ⟨(L_ l).toArray⟩
 |5=>.string ⟨(jj++L_ l).toArray⟩
 |7=>.string ⟨(jj++L_ l).toArray⟩
 |_=>I'
variable {b2 gu nf cu:Nat} {l:Int} {z0 z1 z3 z5 z7 z8 z9 dB cZ de dn dm dk dj dA dz dD dC dM dQ dK dP dO dV ey ew eu eK eJ eI eH eQ eN en iu iF iE iD iC iB:M'} {Q:Exit->Act->J'->Prop}
theorem P3 (lF:w.heap[b2]?=some (.cells #[.int .i64 L,.int .i64 O,.int .i64 P,.int .i64 ck,.slice ar nr cr,.slice aw nw cw,.slice ab nb cb,.slice al bM cl] 63 (0,0))) (FQ:w.heap[b4]?=some (.cells #[.int .i64 0,.int .i64 0,.int .i64 0,.int .i64 0,.slice none 0 0,.slice none 0 0,.slice none 0 0,.slice none 0 0] 63 (0,0))) (uN:gu<w.heap.size) (uK:w.cell? ⟨gu,0,none⟩=some (.int .i64 l)) (Mb:0<=l) (Iv:l<=1000000000) (hnf:0<nf) (Gk:nf<=cu) {z12 z20 z21 z22 z23 z24 z25 z26 z28 z31 z37 z40 z46 z49 z51 z53 z59:M'}
 (hQ:∀w5 (Jr Jq Og Oe Oc Tt:M'),g_ w.heap.size w w5->Q .normal ⟨#[z0,z1,.pointer (some ⟨b2,0,none⟩),z3,.pointer (some ⟨b4,0,none⟩),.string ⟨(jj++L_ l).toArray⟩,.slice (some ⟨gu,0,none⟩) nf cu,z7,z8,z9,dB,cZ,z12,de,dn,dm,dk,dj,dA,dz,z20,z21,z22,z23,z24,z25,z26,dD,z28,dC,dM,z31,dQ,dK,dP,dO,dV,z37,ey,ew,z40,eu,eK,eJ,eI,eH,z46,eQ,eN,z49,en,z51,iu,z53,Jr,Jq,Og,Oe,Oc,Tt],[]⟩ (Of.b8 w5 b4 (.int .i64 L) (.int .i64 O) (.int .i64 P) (.int .i64 ck) (.slice ar nr cr) (.slice aw nw cw) (.slice ab nb cb) (.slice al bM cl))):
 Code.wp p_ V1 Q ⟨#[z0,z1,.pointer (some ⟨b2,0,none⟩),z3,.pointer (some ⟨b4,0,none⟩),z5,.slice (some ⟨gu,0,none⟩) nf cu,z7,z8,z9,dB,cZ,z12,de,dn,dm,dk,dj,dA,dz,z20,z21,z22,z23,z24,z25,z26,dD,z28,dC,dM,z31,dQ,dK,dP,dO,dV,z37,ey,ew,z40,eu,eK,eJ,eI,eH,z46,eQ,eN,z49,en,z51,iu,z53,iF,iE,iD,iC,iB,z59],[]⟩ w:=by
 have OT:(L_ l).length<=21:=Lib.itoa_length_le l (by omega) (by omega)
 obtain ⟨w1,cf⟩:∃w1,w.drew=w1:=⟨_,rfl⟩
 have sD:f_ (∀w5,g_ w1.heap.size w1 w5->g_ w.heap.size w w5):=fun w5 h=>by rw [<-cf] at h;exact (h_ _ _).drew.trans h
 replace lF:w1.heap[b2]?=some (.cells #[.int .i64 L,.int .i64 O,.int .i64 P,.int .i64 ck,.slice ar nr cr,.slice aw nw cw,.slice ab nb cb,.slice al bM cl] 63 (0,0)):=by rw [<-cf];exact lF
 replace FQ:w1.heap[b4]?=some (.cells #[.int .i64 0,.int .i64 0,.int .i64 0,.int .i64 0,.slice none 0 0,.slice none 0 0,.slice none 0 0,.slice none 0 0] 63 (0,0)):=by rw [<-cf];exact FQ
 replace uN:gu<w1.heap.size:=by rw [<-cf];exact uN
 replace uK:w1.cell? ⟨gu,0,none⟩=some (.int .i64 l):=by rw [<-cf];exact uK
 refine wpN 60 fun bs cn oq HI=> ?_
 simp only [V1,ai,Br,f82,A_]
 refine mz (by kernel_rfl) (kP:=()) (base:=bs) (by rw [oq];kernel_rfl) (by kernel_rfl) (fun x=>Fx gu nf cu l L O P ck ar aw ab al nr cr nw cw nb cb bM cl x) (Xa w1 b4 L O P ck ar aw ab al nr cr nw cw nb cb bM cl)
  (by
   exact ⟨E5,E5,fun _=>by rw [cf];exact h_ _ _,E5⟩) ?_ ?_
 ·intro i o' ho D x w a hD bc hw bH aD K k
  have hlt:i<8:=(cI ho)
  have Gl:=bT oq
  have qi:=qI hD hlt
  have qn:=qN D i
  have aA:=aa k
  clear k
  obtain rfl|rfl|rfl|rfl|rfl|rfl|rfl|rfl:i=0\/i=1\/i=2\/i=3\/i=4\/i=5\/i=6\/i=7:=by omega
  all_goals obtain rfl:=so ho rfl
  ·obtain ⟨v2,w2⟩:=bc.oo (.pointer (some ⟨b2,0,none⟩)) 2
   clear aD ho
   have e0:=qi
   have e3:=qn 3 (by decide)
   have e4:=qn 4 (by decide)
   have e6:=qn 6 (by decide)
   have h6:=ff bH fun hx=>(hw.o hx).2
   have gb:=hw.b h6
   obtain ⟨⟨p0,p1,p2,p3,p4,p5,p6,p7⟩,_⟩:=aG ((gb.block b2 (cI lF)).trans lF)
   refine bj (v:=.agg #[.int .i64 L,.int .i64 O,.int .i64 P,.int .i64 ck,.slice ar nr cr,.slice aw nw cw,.slice ab nb cb,.slice al bM cl]) (w':=w) rfl rfl ?_ (aA.out x w (fun _ _=>rfl) ⟨by rw [e6,h6];exact fun h=>(by cases h),by rw [e4,e3];exact hw.o3,by rw [e6];exact hw.b,by rw [e6];exact hw.c⟩)
   clear bc hw aA bH qi qn e0 e3 e4 e6 gb
   go_simp
  ·obtain ⟨v6,w6⟩:=bc.oo (.slice (some ⟨gu,0,none⟩) nf cu) 6
   exact iY rfl (.slice (some ⟨gu,0,none⟩) nf cu) (aA.out x w (fun _ _=>rfl) (hw.same qn (by decide)))
  ·have d1:=dq aD 1
   obtain ⟨v55,XM⟩:=bc.vv (.slice (some ⟨gu,0,none⟩) nf cu) 55 1 d1
   exact iY rfl (.pointer (some ⟨gu,0,none⟩)) (aA.out x w (fun _ _=>rfl) (hw.same qn (by decide)))
  ·have d2:=dq aD 2
   obtain ⟨v56,XL⟩:=bc.vv (.pointer (some ⟨gu,0,none⟩)) 56 2 d2
   clear aD ho
   have e0:=qn 0 (by decide)
   have e3:=qi
   have e4:=qn 4 (by decide)
   have e6:=qn 6 (by decide)
   have h4:=ff bH fun hx=>hw.o3 hx
   have h6:=ff h4 fun hx=>(hw.o hx).1
   have gb:=hw.b h6
   have hl:w.cell? ⟨gu,0,none⟩=some (.int .i64 l):=(gb.cell (p:=⟨gu,0,none⟩) uN).trans uK
   refine bj (v:=.int .i64 l) (w':=w) rfl rfl ?_ (aA.out x w (fun _ _=>rfl) ⟨by rw [e6,h6];exact fun h=>(by cases h),by rw [e4,h4];exact fun h=>(by cases h),by rw [e6];exact hw.b,by rw [e6];exact hw.c⟩)
   clear bc hw aA bH qi qn e0 e3 e4 e6 gb
   go_simp
  ·have d3:=dq aD 3
   obtain ⟨Kx,XK⟩:=bc.vv (.int .i64 l) 57 3 d3
   clear aD ho
   have e0:=qn 0 (by decide)
   have e3:=qn 3 (by decide)
   have e4:=qi
   have e6:=qn 6 (by decide)
   have h6:=ff bH fun hx=>(hw.o hx).1
   have gb:=hw.b h6
   have sY:=lp l w Mb Iv
   unfold wpOp
   simp only [List.getElem?_toArray,List.getElem?_cons_succ,List.getElem?_cons_zero,Region.wanted,if_true,Option.isNone_none]
   left
   unfold Oper.wp
   simp only [V',resolve,invoke,Sem.run_bind,Sem.run_pure,Result.andThen_ok,List.map_toArray,S_,List.map_nil,Kx]
   refine (sY.mono ?_)
   rintro e w5 ⟨rfl,qo⟩
   exact aA.out x w5 (fun _ _=>rfl) ⟨by rw [e6,h6];exact fun h=>(by cases h),fun _=>by rw [e3];exact d3,fun _=>gb.trans (qo.mono gb.size),by rw [e6,h6];exact fun h=>(by cases h)⟩
  ·have d4:=dq aD 4
   obtain ⟨v58,V8⟩:=bc.vv (.string ⟨(L_ l).toArray⟩) 58 4 d4
   clear aD ho
   refine bj (v:=.string ⟨(jj++L_ l).toArray⟩) (w':=w) rfl rfl ?_ (aA.out x w (fun _ _=>rfl) (hw.same qn (by decide)))
   clear bc hw aA bH qi qn
   rw [<-vQ]
   unfold jj
   go_simp
   omega
  ·have d0:=dq aD 0
   have d4:=aD ⟨4,.chain⟩ (by simp) rfl
   obtain ⟨v54,XN⟩:=bc.vv (.agg #[.int .i64 L,.int .i64 O,.int .i64 P,.int .i64 ck,.slice ar nr cr,.slice aw nw cw,.slice ab nb cb,.slice al bM cl]) 54 0 d0
   obtain ⟨v4,w4⟩:=bc.oo (.pointer (some ⟨b4,0,none⟩)) 4
   clear aD ho
   have e0:=qn 0 (by decide)
   have e3:=qn 3 (by decide)
   have e4:=qn 4 (by decide)
   have e6:=qi
   have gb:=hw.b bH
   obtain ⟨⟨p0,p1,p2,p3,p4,p5,p6,p7⟩,q0,q1,q2,q3,q4,q5,q6,q7⟩:=aG ((gb.block b4 (cI FQ)).trans FQ)
   refine gQ (w':=Of.b8 w b4 (.int .i64 L) (.int .i64 O) (.int .i64 P) (.int .i64 ck) (.slice ar nr cr) (.slice aw nw cw) (.slice ab nb cb) (.slice al bM cl)) rfl rfl ?_ (aA.out x _ (fun _ _=>rfl) ⟨fun _=>by rw [e4,e0];exact ⟨d4,d0⟩,by rw [e4,e3];exact hw.o3,by rw [e6];exact fun h=>(by cases h),fun _=>⟨w,gb,rfl⟩⟩)
   clear bc hw aA bH qi qn e0 e3 e4 e6 gb
   unfold Of.b8
   go_simp
  ·have d5:=dq aD 5
   obtain ⟨v59,w59⟩:=bc.vv (.string ⟨(jj++L_ l).toArray⟩) 59 5 d5
   exact iY rfl (.string ⟨(jj++L_ l).toArray⟩) (aA.out x w (fun _ _=>rfl) (hw.same qn (by decide)))
 ·intro D x w hd hw
  obtain ⟨w5,qo,rfl⟩:=hw.c (hd 6 (by decide))
  have:=hQ w5 (.agg #[.int .i64 L,.int .i64 O,.int .i64 P,.int .i64 ck,.slice ar nr cr,.slice aw nw cw,.slice ab nb cb,.slice al bM cl]) (.slice (some ⟨gu,0,none⟩) nf cu) (.pointer (some ⟨gu,0,none⟩)) (.int .i64 l) (.string ⟨(L_ l).toArray⟩) (.string ⟨(jj++L_ l).toArray⟩) (sD.out w5 qo)
  generalize bc:slotsOf _ bs (Fx gu nf cu l L O P ck ar aw ab al nr cr nw cw nb cb bM cl ())=sl
  have eS:sl=#[z0,z1,.pointer (some ⟨b2,0,none⟩),z3,.pointer (some ⟨b4,0,none⟩),.string ⟨(jj++L_ l).toArray⟩,.slice (some ⟨gu,0,none⟩) nf cu,z7,z8,z9,dB,cZ,z12,de,dn,dm,dk,dj,dA,dz,z20,z21,z22,z23,z24,z25,z26,dD,z28,dC,dM,z31,dQ,dK,dP,dO,dV,z37,ey,ew,z40,eu,eK,eJ,eI,eH,z46,eQ,eN,z49,en,z51,iu,z53,.agg #[.int .i64 L,.int .i64 O,.int .i64 P,.int .i64 ck,.slice ar nr cr,.slice aw nw cw,.slice ab nb cb,.slice al bM cl],.slice (some ⟨gu,0,none⟩) nf cu,.pointer (some ⟨gu,0,none⟩),.int .i64 l,.string ⟨(L_ l).toArray⟩,.string ⟨(jj++L_ l).toArray⟩]:=by rw [<-bc,<-cn];kernel_rfl
  rw [eS]
  exact this
variable {B sz:Nat} {xs:List M'}
theorem fV {e n:Nat} {v:M'} (h:w.ownsRow B e sz v n xs) (hs:∃g,v.ownBlock=some g):∃g cap,v=.slice (some ⟨g,0,none⟩) n cap/\n<=cap/\cap<=maxLen:=by
 rcases h.2 with ⟨h0,_⟩|⟨g,cap,cur,h1,_,_,h4,h5,_⟩
 ·obtain ⟨g,hg⟩:=hs;rw [h0] at hg;cases hg
 ·exact ⟨g,cap,h1,h4,h5⟩
theorem lU (m:Rm) (c:Int):im m c=true↔kG m.back c≠ -1:=by
 unfold im kG
 cases h:m.back.findIdx? (fun p=>decide (p.1=c)) with
 |none=>
  rw [List.findIdx?_eq_none_iff] at h
  constructor
  ·intro hx
   obtain ⟨p,hp,e⟩:=List.any_eq_true.1 hx
   rw [h p hp] at e;cases e
  ·intro hx;exact absurd rfl hx
 |some i=>
  obtain ⟨hlt,hp,_⟩:=List.findIdx?_eq_some_iff_getElem.1 h
  constructor
  ·intro _ hx;simp only at hx;omega
  ·intro _;exact List.any_eq_true.2 ⟨m.back[i],List.getElem_mem hlt,hp⟩
theorem zx (ws:List (Int × Int)) (c:Int) (h:kG ws c≠ -1):0<=kG ws c/\kG ws c<ws.length:=by
 unfold kG at h ⊢
 cases hx:ws.findIdx? (fun p=>decide (p.1=c)) with
 |none=>rw [hx] at h;exact absurd rfl h
 |some i=>
  obtain ⟨hlt,_⟩:=List.findIdx?_eq_some_iff_getElem.1 hx
  simp only;omega
variable {rs:List Rec}
theorem pV {c:Int} (h:dE rs c=some i):qA rs c=(i:Nat)/\i<rs.length:=by
 unfold qA
 rw [h]
 obtain ⟨r,h1,_⟩:=wT h
 exact ⟨rfl,(List.getElem?_eq_some_iff.1 h1.1).1⟩
theorem zg {c:Int} (h:dE rs c=none):qA rs c= -1:=by unfold qA;rw [h]
variable {nl:Nat}
theorem HS (h:l∈AD nl rs):1<=l/\l<=(nl:Int):=by
 unfold AD at h
 obtain ⟨i,hi,rfl⟩:=List.mem_map.1 (List.mem_filter.1 h).1
 rw [List.mem_range] at hi
 omega
variable {m:Rm} {pt:Int}
theorem Eb {c:Int} (h1:dE m.recs c=none) (h2:im m c=false) (h3:AD nl m.recs=[]):kS nl m c pt=({m with back:=m.back++[(c,pt)]},KQ):=by
 unfold kS;rw [h1,h2,if_neg (by simp),h3]
theorem Ea {c:Int} {t:List Int} (h1:dE m.recs c=none) (h2:im m c=false) (h3:AD nl m.recs=l::t):kS nl m c pt=({m with recs:=m.recs++[⟨c,l,0,m.clock, -1, -1,eR⟩],wait:=gY m.wait (placeOf m.wait pt) (c,pt)},jj++L_ l):=by
 unfold kS;rw [h1,h2,if_neg (by simp),h3]
variable {vr vb vl:M'}
theorem Cy {vw:M'} (R:bA B m vr vw vb w) (hn:m.recs.length<=100) (L9:m.wait.length<=100) (QO:m.back.length<=100) (rp:nl<=100) (gv:0<=m.clock/\m.clock<=1000000) (mP:∃a n c,vl=.slice a n c) (c pt:Int):
 d_ p_ 82 #[jD (nl:Nat) O P m.clock vr vw vb vl,.agg #[.int .i64 c,.int .i64 pt]] w (Done w vr vb B (kS nl m c pt).1 (nl:Nat) O P vl (kS nl m c pt).2):=by
 obtain ⟨al,bM,cl,rfl⟩:=mP
 obtain ⟨ab,cb,oK⟩:=aE R.back
 subst oK
 obtain ⟨ar,cr,ql⟩:=aE R.recs
 subst ql
 obtain ⟨gw,cw,qG,KC,yN⟩:=fV R.wait R.iQ
 subst qG
 obtain ⟨w1,cf⟩:∃w1,((w.alloc (.cells (gi (nl:Nat) O P m.clock (.slice ar m.recs.length cr) (.slice (some ⟨gw,0,none⟩) m.wait.length cw) (.slice ab m.back.length cb) (.slice al bM cl)) 63)).alloc (.cells #[.int .i64 c,.int .i64 pt] 114)).alloc (.cells ia 63)=w1:=⟨_,rfl⟩
 have lr:f_ (w1.heap.size=w.heap.size+3):=by rw [f_,<-cf,B_,B_,B_]
 have eo:g_ w.heap.size w w1:=by rw [<-cf];exact (((h_ _ _).alloc (C_ _) _).alloc (by rw [B_];omega) _).alloc (by rw [B_,B_];omega) _
 have jx:w1.heap[w.heap.size]?=some (.cells (gi (nl:Nat) O P m.clock (.slice ar m.recs.length cr) (.slice (some ⟨gw,0,none⟩) m.wait.length cw) (.slice ab m.back.length cb) (.slice al bM cl)) 63 (0,0)):=by rw [<-cf];exact br (br (Z' w _))
 have oG:f_ (w1.heap[w.heap.size+1]?=some (.cells #[.int .i64 c,.int .i64 pt] 114 (0,0))):=by
  have:=Z' (w.alloc (.cells (gi (nl:Nat) O P m.clock (.slice ar m.recs.length cr) (.slice (some ⟨gw,0,none⟩) m.wait.length cw) (.slice ab m.back.length cb) (.slice al bM cl)) 63)) (.cells #[.int .i64 c,.int .i64 pt] 114)
  rw [B_] at this
  rw [f_,<-cf];exact br this
 have sH:w1.heap[w.heap.size+1+1]?=some (.cells ia 63 (0,0)):=by
  have:=Z' ((w.alloc (.cells (gi (nl:Nat) O P m.clock (.slice ar m.recs.length cr) (.slice (some ⟨gw,0,none⟩) m.wait.length cw) (.slice ab m.back.length cb) (.slice al bM cl)) 63)).alloc (.cells #[.int .i64 c,.int .i64 pt] 114)) (.cells ia 63)
  rw [B_,B_,cf] at this
  exact this
 have F1:=aa (gO.start R eo jx sH (C_ _) (by omega) (by omega))
 obtain ⟨⟨a0,a1,a2,a3,a4,a5,a6,a7⟩,_⟩:=aG jx
 have jV:f_ (d_ p_ 43 #[.agg #[.int .i64 (nl:Nat),.int .i64 O,.int .i64 P,.int .i64 m.clock,.slice ar m.recs.length cr,.slice (some ⟨gw,0,none⟩) m.wait.length cw,.slice ab m.back.length cb,.slice al bM cl]] w1 fun e w'=>∃u,e=.returned u/\w'.ownsRow w1.heap.size 3 1 u (AD nl m.recs).length ((AD nl m.recs).map (ah .i64))/\g_ w1.heap.size w1 w'):=rf F1.out.room.rd.1 F1.out.room.nN.1 (by omega) (by omega)
 obtain ⟨fs,yf⟩:∃fs,AD nl m.recs=fs:=⟨_,rfl⟩
 rw [yf] at jV
 have Kz:fs.length<=1000:=by have:=mV nl m.recs;rw [yf] at this;omega
 have yf:=aa yf
 have Rq:=aa R
 have Nq:=aa eo
 clear R eo jx sH
 unfold gi ia at cf
 unfold jD
 go_enter func82,ntmps82
 go_wp2_with (go_at_call 43;(with_reducible refine jV.out.mono ?_);rintro e w2 ⟨u,rfl,nS,HJ⟩;obtain ⟨au,cu,hu⟩:=aE nS;subst hu;have F2:=aa (F1.out.below HJ);have nS:=aa nS;obtain ⟨⟨e0,e1,e2,e3,e4,e5,e6,e7⟩,f0,f1,f2,f3,f4,f5,f6,f7⟩:=aG F2.out.box;have HP:=aa ((HJ.block _ (by rw [lr.out];omega)).trans oG.out);have g0:w2.cell? ⟨w.heap.size+1,0,none⟩=some (.int .i64 c):=cV HP.out;have g1:w2.cell? ⟨w.heap.size+1,1,none⟩=some (.int .i64 pt):=cV HP.out;clear a0 a1 a2 a3 a4 a5 a6 a7 HJ cf jV)
 have Mi:m.back.length<=1000:=by omega
 obtain ⟨⟨x0,x1,x2,x3,x4,x5,x6,x7⟩,y0,y1,y2,y3,y4,y5,y6,y7⟩:=aG (show w2.heap[w.heap.size+1+1]?=some (jY #[.int .i64 0,.int .i64 0,.int .i64 0,.int .i64 0,.slice none 0 0,.slice none 0 0,.slice none 0 0,.slice none 0 0] 63 (0,0)) from F2.out.res)
 have CX:m.recs.length<=1000:=by omega
 have lA:=nO F2.out.room.rd.1 CX c
 have vO:=xl F2.out.room.rd.2.2 Mi c
 cases hop:dE m.recs c with
 |some i=>
  have hR:kS nl m c pt=(m,tT):=by unfold kS;rw [hop,if_pos (by simp)]
  replace hR:=aa hR
  obtain ⟨Gc,ml⟩:=pV hop
  rw [Gc] at lA
  have vI:(0:Int)<=(i:Int):=by omega
  clear vO hop Gc
  refine lA.mono ?_
  rintro e w5 ⟨rfl,rfl⟩
  go_wp2_with fail
  change bodyPost p_ f82 _ .ret _ (Of.b8 w5 (w.heap.size+1+1) (.int .i64 (nl:Nat)) (.int .i64 O) (.int .i64 P) (.int .i64 m.clock) (.slice ar m.recs.length cr) (.slice (some ⟨gw,0,none⟩) m.wait.length cw) (.slice ab m.back.length cb) (.slice al bM cl))
  rw [hR.out];refine gO.ends F2.out ?_ ?_ ?_<;>rfl
 |none=>
  rw [zg hop] at lA
  by_cases Gh:kG m.back c= -1
  ·have Md:im m c=false:=by
    cases hx:im m c with
    |false=>rfl
    |true=>exact absurd Gh ((lU m c).1 hx)
   rw [Gh] at vO
   cases fs with
   |nil=>
    have hR:=aa (Eb (pt:=pt) hop Md yf.out)
    simp only [List.length_nil] at nS Kz ⊢
    clear hop Md Gh
    refine lA.mono ?_
    rintro e w5 ⟨rfl,rfl⟩
    obtain ⟨i0,qJ,tX,rm,uF⟩:=info_parts pX
    go_wp2_with (first
     |(go_at_call 111;(with_reducible refine vO.mono ?_);rintro e w6 ⟨rfl,rfl⟩)
     |(at_builtin;refine wpList_append_lies _ rfl (.tmp 30) (.tmp 32) 61 rfl B 114 i0 _ 2 16 Tryz.underlying61 qJ tX rm uF rfl (by decide) _ _ _ rfl (F2.out.room.back.alloc _) ⟨_,0,none⟩ 1 1 [.int .i64 c,.int .i64 pt] rfl rfl (fY _ _ _ rfl) ?c1 (by omega) ?c3 ?c4 ?c5 _ rfl ?_))
    case c1=>intro u hu;simp at hu;rcases hu with rfl|rfl<;>rfl
    case c3=>unfold maxLen;omega
    case c4=>omega
    case c5=>have:=F2.out.room.big;rw [B_];omega
    intro gg mW w7 Ga Ns Vl Zi
    have F3:=aa (F2.out.below ((h_ _ _).alloc (C_ _) (.cells #[.int .i64 c,.int .i64 pt] 114)))
    have F4:=aa (F3.out.aBt (p:=(c,pt)) rfl Ns (by rw [gE];exact Ga) (by
     rcases Vl with x|x
     ·exact .inl x.symm
     ·exact .inr (by rw [x,B_];rfl)))
    have uF:(mN ab m.back.length cb).ownBlock≠some w.heap.size/\(mN ab m.back.length cb).ownBlock≠some (w.heap.size+1+1):=⟨F3.out.oB.1.2.2,F3.out.oB.2.2.2⟩
    obtain ⟨⟨p0,p1,p2,p3,p4,p5,p6,p7⟩,r0,r1,r2,r3,r4,r5,r6,r7⟩:=aG ((Ns.block _ F3.out.LX (fun e=>uF.1 e.symm)).trans F3.out.box)
    obtain ⟨⟨s0,s1,s2,s3,s4,s5,s6,s7⟩,v0,v1,v2,v3,v4,v5,v6,v7⟩:=aG (show w7.heap[w.heap.size+1+1]?=some (jY #[.int .i64 0,.int .i64 0,.int .i64 0,.int .i64 0,.slice none 0 0,.slice none 0 0,.slice none 0 0,.slice none 0 0] 63 (0,0)) from ((Ns.block _ F3.out.Qf (fun e=>uF.2 e.symm)).trans F3.out.res))
    clear Ga Ns Vl Zi uF F3 x0 x1 x2 x3 x4 x5 x6 x7 y0 y1 y2 y3 y4 y5 y6 y7 e0 e1 e2 e3 e4 e5 e6 e7 f0 f1 f2 f3 f4 f5 f6 f7
    go_wp2_with fail
    change bodyPost p_ f82 _ .ret _ (Of.b8 _ (w.heap.size+1+1) (.int .i64 (nl:Nat)) (.int .i64 O) (.int .i64 P) (.int .i64 m.clock) (.slice ar m.recs.length cr) (.slice (some ⟨gw,0,none⟩) m.wait.length cw) (.slice (some ⟨gg,0,none⟩) (m.back.length+1) mW) (.slice al bM cl))
    rw [hR.out];refine gO.ends F4.out ?_ ?_ ?_<;>rfl
   |cons l t=>
    have hR:=aa (Ea (pt:=pt) hop Md yf.out)
    have HD:1<=l/\l<=(nl:Int):=HS (rs:=m.recs) (by rw [yf.out];exact List.mem_cons_self)
    obtain ⟨Mb,Iv⟩:=HD
    obtain ⟨gu,aCz,E9,FT,_,hU,Gk,_⟩:=cz nS.out (by simp)
    injection FT with Wm Su YQ
    subst Wm YQ
    have uK:w2.cell? ⟨gu,0,none⟩=some (.int .i64 l):=nS.out.cellAt 0 (by simp)
    have ZY:f_ (E9[0]?=some (.int .i64 l)):=by rw [f_,<-cV hU];exact uK
    have hU:=aa hU
    clear hop Md Gh
    have dJ:0<(l::t).length:=by simp
    generalize (l::t).length=nf at dJ Kz Gk
    clear nS
    refine lA.mono ?_
    rintro e w5 ⟨rfl,rfl⟩
    go_wp2_with (go_at_call 111;(with_reducible refine vO.mono ?_);rintro e w6 ⟨rfl,rfl⟩)
    clear x0 x1 x2 x3 x4 x5 x6 x7 y0 y1 y2 y3 y4 y5 y6 y7
    have Oz:f_ ((mN ar m.recs.length cr).ownBlock≠some (w.heap.size+1)):=bB F2.out.room.recs HP.out (by decide)
    have YE:f_ ((mN ar m.recs.length cr).ownBlock≠some gu):=bB F2.out.room.recs hU.out (by decide)
    have Ky:f_ (gu≠w.heap.size):=fun e=>by
     have h1:=F2.out.box
     rw [<-e,hU.out] at h1
     simp at h1
    clear e0 e1 e2 e3 e4 e5 e6 e7 f0 f1 f2 f3 f4 f5 f6 f7 lA vO oG F1
    refine Ti (r:=⟨c,l,0,m.clock, -1, -1,eR⟩) (b3:=w.heap.size+1) (gu:=gu) (nf:=nf) (cu:=cu) F2.out CX dJ Gk rfl g0 uK fun w8 gg mW TE TC Om TB TA Tz Ty Tx Tw Tv Tu Ol Oj hF4 QL=> ?_
    have F4:=aa hF4
    have Mk:w8.heap[w.heap.size+1]?=some (.cells #[.int .i64 c,.int .i64 pt] 114 (0,0)):=(QL _ (cI HP.out) (by omega) Oz.out).trans HP.out
    have ZW:f_ (w8.heap[gu]?=some (.cells E9 3 (0,0))):=(QL _ (cI hU.out) Ky.out YE.out).trans hU.out
    clear hF4 QL g0 g1 uK hU F2 HP Oz YE
    obtain ⟨⟨p0,p1,p2,p3,p4,p5,p6,p7⟩,r0,r1,r2,r3,r4,r5,r6,r7⟩:=aG F4.out.box
    have g0:w8.cell? ⟨w.heap.size+1,0,none⟩=some (.int .i64 c):=cV Mk
    have g1:w8.cell? ⟨w.heap.size+1,1,none⟩=some (.int .i64 pt):=cV Mk
    have Mk:=aa Mk
    have hq:=aa (AK (y:=(c,pt)) F4.out.room.rd.2.1 F4.out.room.nN.2.1 (by show m.wait.length<=1000;omega) KC yN)
    go_wp2_with (go_at_call 112;(with_reducible refine hq.out.mono ?_);rintro e Fw ⟨u,rfl,nS,Nx⟩;obtain ⟨gq,cq,aEf,Qv,_⟩:=cz nS (Nat.succ_pos _);subst Qv;obtain ⟨⟨k0,k1,k2,k3,k4,k5,k6,k7⟩,j0,j1,j2,j3,j4,j5,j6,j7⟩:=aG (F4.out.below Nx).box)
    have F5:=aa (F4.out.waits (ws:=gY m.wait (placeOf m.wait pt) (c,pt)) Nx (by rw [uA];exact nS) ⟨_,rfl⟩)
    have SE:f_ ((Fw.setCell ⟨w.heap.size,5,none⟩ (.slice (some ⟨gq,0,none⟩) (m.wait.length+1) cq)).heap[gu]?=some (.cells E9 3 (0,0))):=(a_ Fw ⟨w.heap.size,5,none⟩ gu _ Ky.out).trans ((Nx.block gu (cI ZW.out)).trans ZW.out)
    clear nS Nx hq ZW k0 k1 k2 k3 k4 k5 k6 k7 j0 j1 j2 j3 j4 j5 j6 j7 g0 g1 p0 p1 p2 p3 p4 p5 p6 p7 r0 r1 r2 r3 r4 r5 r6 r7 F4 Mk
    generalize Fw.setCell ⟨w.heap.size,5,none⟩ (.slice (some ⟨gq,0,none⟩) (m.wait.length+1) cq)=Ms at *
    obtain ⟨⟨p0,p1,p2,p3,p4,p5,p6,p7⟩,_⟩:=aG F5.out.box
    have UF:Ms.cell? ⟨gu,0,none⟩=some (.int .i64 l):=(cV SE.out).trans ZY.out
    clear p0 p1 p2 p3 p4 p5 p6 p7
    refine P3 (l:=l) (gu:=gu) (nf:=nf) (cu:=cu) (b2:=w.heap.size) (b4:=w.heap.size+1+1) F5.out.box F5.out.res (cI SE.out) UF (by omega) (by omega) dJ Gk fun BD Jr Jq Og Oe Oc Tt CY=> ?_
    have F7:=F5.out.below CY
    clear CY UF SE F5
    generalize jj++L_ l=tx at *
    go_wp2_with fail
    rw [hR.out];refine gO.ends F7 ?_ ?_ ?_
    ·rfl
    ·rfl
    ·rfl
  ·have hR:kS nl m c pt=(m,tT):=by unfold kS;rw [if_pos (by simp [(lU m c).2 Gh])]
   replace hR:=aa hR
   obtain ⟨vI,hlt⟩:=zx _ _ Gh
   generalize kG m.back c=fi at vO vI hlt Gh
   clear hop
   refine lA.mono ?_
   rintro e w5 ⟨rfl,rfl⟩
   go_wp2_with (go_at_call 111;(with_reducible refine vO.mono ?_);rintro e w6 ⟨rfl,rfl⟩)
   change bodyPost p_ f82 _ .ret _ (Of.b8 _ (w.heap.size+1+1) (.int .i64 (nl:Nat)) (.int .i64 O) (.int .i64 P) (.int .i64 m.clock) (.slice ar m.recs.length cr) (.slice (some ⟨gw,0,none⟩) m.wait.length cw) (.slice ab m.back.length cb) (.slice al bM cl))
   rw [hR.out];refine gO.ends F2.out ?_ ?_ ?_<;>rfl
noncomputable def LA:Code:=f83.body.getD .skip
noncomputable def Bq:Code:=f84.body.getD .skip
noncomputable def Pd:Code:=ai 7 LA
structure VW (w1:J') (b4:Nat) (L O P ck:Int) (ar aw ab al:Option z_) (nr cr nw cw nb cb bM cl:Nat) (D:Array Bool) (_:Unit) (w:J'):Prop where
 o:D.getD 5 false=true->D.getD 3 false=true/\D.getD 0 false=true
 o3:D.getD 3 false=true->D.getD 2 false=true
 b:D.getD 5 false=false->g_ w1.heap.size w1 w
 c:D.getD 5 false=true->∃w5,g_ w1.heap.size w1 w5/\w=Of.b8 w5 b4 (.int .i64 L) (.int .i64 O) (.int .i64 P) (.int .i64 ck) (.slice ar nr cr) (.slice aw nw cw) (.slice ab nb cb) (.slice al bM cl)
theorem VW.same {q:Unit} (h:VW w1 b4 L O P ck ar aw ab al nr cr nw cw nb cb bM cl D q w) (qn:∀j,j≠i->D'.getD j false=D.getD j false) (hi:i∉[0,2,3,5]):VW w1 b4 L O P ck ar aw ab al nr cr nw cw nb cb bM cl D' q w:=by
 have e0:=qn 0 (fun e=>hi (by simp [<-e]))
 have e2:=qn 2 (fun e=>hi (by simp [<-e]))
 have e3:=qn 3 (fun e=>hi (by simp [<-e]))
 have e5:=qn 5 (fun e=>hi (by simp [<-e]))
 exact ⟨by rw [e5,e3,e0];exact h.o,by rw [e3,e2];exact h.o3,by rw [e5];exact h.b,by rw [e5];exact h.c⟩
def BS (bx:Nat) (l:Int) (L O P ck:Int) (ar aw ab al:Option z_) (nr cr nw cw nb cb bM cl:Nat) (_:Unit):Nat->M'
 |0=>.agg #[.int .i64 L,.int .i64 O,.int .i64 P,.int .i64 ck,.slice ar nr cr,.slice aw nw cw,.slice ab nb cb,.slice al bM cl]
 |1=>.pointer (some ⟨bx,0,none⟩)
 |2=>.int .i64 l
 |3=>.string ⟨(L_ l).toArray⟩
 |4=>.string ⟨(dL++L_ l).toArray⟩
 |6=>.string ⟨(dL++L_ l).toArray⟩
 |_=>I'
variable {bx:Nat}
theorem MG (lF:w.heap[b2]?=some (.cells #[.int .i64 L,.int .i64 O,.int .i64 P,.int .i64 ck,.slice ar nr cr,.slice aw nw cw,.slice ab nb cb,.slice al bM cl] 63 (0,0))) (FQ:w.heap[b4]?=some (.cells #[.int .i64 0,.int .i64 0,.int .i64 0,.int .i64 0,.slice none 0 0,.slice none 0 0,.slice none 0 0,.slice none 0 0] 63 (0,0))) (uN:bx<w.heap.size) (uK:w.cell? ⟨bx,0,none⟩=some (.int .i64 l)) (Mb:0<=l) (Iv:l<=1000000000) {z12 z20 z21 z22 z23 z24 z25 z26 z28 z31 z37 z40 z46 z49 z51 z53:M'}
 (hQ:∀w5 (Oi Oh Ju Jt Js:M'),g_ w.heap.size w w5->Q .normal ⟨#[z0,z1,.pointer (some ⟨b2,0,none⟩),z3,.pointer (some ⟨b4,0,none⟩),.string ⟨(dL++L_ l).toArray⟩,.pointer (some ⟨bx,0,none⟩),z7,z8,z9,dB,cZ,z12,de,dn,dm,dk,dj,dA,dz,z20,z21,z22,z23,z24,z25,z26,dD,z28,dC,dM,z31,dQ,dK,dP,dO,dV,z37,ey,ew,z40,eu,eK,eJ,eI,eH,z46,eQ,eN,Oi,Oh,Ju,Jt,Js],[]⟩ (Of.b8 w5 b4 (.int .i64 L) (.int .i64 O) (.int .i64 P) (.int .i64 ck) (.slice ar nr cr) (.slice aw nw cw) (.slice ab nb cb) (.slice al bM cl))):
 Code.wp p_ Pd Q ⟨#[z0,z1,.pointer (some ⟨b2,0,none⟩),z3,.pointer (some ⟨b4,0,none⟩),z5,.pointer (some ⟨bx,0,none⟩),z7,z8,z9,dB,cZ,z12,de,dn,dm,dk,dj,dA,dz,z20,z21,z22,z23,z24,z25,z26,dD,z28,dC,dM,z31,dQ,dK,dP,dO,dV,z37,ey,ew,z40,eu,eK,eJ,eI,eH,z46,eQ,eN,z49,en,z51,iu,z53],[]⟩ w:=by
 have OT:(L_ l).length<=21:=Lib.itoa_length_le l (by omega) (by omega)
 obtain ⟨w1,cf⟩:∃w1,w.drew=w1:=⟨_,rfl⟩
 have sD:f_ (∀w5,g_ w1.heap.size w1 w5->g_ w.heap.size w w5):=fun w5 h=>by rw [<-cf] at h;exact (h_ _ _).drew.trans h
 replace lF:w1.heap[b2]?=some (.cells #[.int .i64 L,.int .i64 O,.int .i64 P,.int .i64 ck,.slice ar nr cr,.slice aw nw cw,.slice ab nb cb,.slice al bM cl] 63 (0,0)):=by rw [<-cf];exact lF
 replace FQ:w1.heap[b4]?=some (.cells #[.int .i64 0,.int .i64 0,.int .i64 0,.int .i64 0,.slice none 0 0,.slice none 0 0,.slice none 0 0,.slice none 0 0] 63 (0,0)):=by rw [<-cf];exact FQ
 replace uN:bx<w1.heap.size:=by rw [<-cf];exact uN
 replace uK:w1.cell? ⟨bx,0,none⟩=some (.int .i64 l):=by rw [<-cf];exact uK
 refine wpN 54 fun bs cn oq HI=> ?_
 simp only [Pd,ai,LA,f83,A_]
 refine mz (by kernel_rfl) (kP:=()) (base:=bs) (by rw [oq];kernel_rfl) (by kernel_rfl) (fun x=>BS bx l L O P ck ar aw ab al nr cr nw cw nb cb bM cl x) (VW w1 b4 L O P ck ar aw ab al nr cr nw cw nb cb bM cl)
  (by
   exact ⟨E5,E5,fun _=>by rw [cf];exact h_ _ _,E5⟩) ?_ ?_
 ·intro i o' ho D x w a hD bc hw bH aD K k
  have hlt:i<7:=(cI ho)
  have Gl:=bT oq
  have qi:=qI hD hlt
  have qn:=qN D i
  have aA:=aa k
  clear k
  obtain rfl|rfl|rfl|rfl|rfl|rfl|rfl:i=0\/i=1\/i=2\/i=3\/i=4\/i=5\/i=6:=by omega
  all_goals obtain rfl:=so ho rfl
  ·obtain ⟨v2,w2⟩:=bc.oo (.pointer (some ⟨b2,0,none⟩)) 2
   clear aD ho
   have e0:=qi
   have e2:=qn 2 (by decide)
   have e3:=qn 3 (by decide)
   have e5:=qn 5 (by decide)
   have h5:=ff bH fun hx=>(hw.o hx).2
   have gb:=hw.b h5
   obtain ⟨⟨p0,p1,p2,p3,p4,p5,p6,p7⟩,_⟩:=aG ((gb.block b2 (cI lF)).trans lF)
   refine bj (v:=.agg #[.int .i64 L,.int .i64 O,.int .i64 P,.int .i64 ck,.slice ar nr cr,.slice aw nw cw,.slice ab nb cb,.slice al bM cl]) (w':=w) rfl rfl ?_ (aA.out x w (fun _ _=>rfl) ⟨by rw [e5,h5];exact fun h=>(by cases h),by rw [e3,e2];exact hw.o3,by rw [e5];exact hw.b,by rw [e5];exact hw.c⟩)
   clear bc hw aA bH qi qn e0 e2 e3 e5 gb
   go_simp
  ·obtain ⟨v6,w6⟩:=bc.oo (.pointer (some ⟨bx,0,none⟩)) 6
   exact iY rfl (.pointer (some ⟨bx,0,none⟩)) (aA.out x w (fun _ _=>rfl) (hw.same qn (by decide)))
  ·have d1:=dq aD 1
   obtain ⟨v50,w50⟩:=bc.vv (.pointer (some ⟨bx,0,none⟩)) 50 1 d1
   clear aD ho
   have e0:=qn 0 (by decide)
   have e2:=qi
   have e3:=qn 3 (by decide)
   have e5:=qn 5 (by decide)
   have h3:=ff bH fun hx=>hw.o3 hx
   have h5:=ff h3 fun hx=>(hw.o hx).1
   have gb:=hw.b h5
   have hl:w.cell? ⟨bx,0,none⟩=some (.int .i64 l):=(gb.cell (p:=⟨bx,0,none⟩) uN).trans uK
   refine bj (v:=.int .i64 l) (w':=w) rfl rfl ?_ (aA.out x w (fun _ _=>rfl) ⟨by rw [e5,h5];exact fun h=>(by cases h),by rw [e3,h3];exact fun h=>(by cases h),by rw [e5];exact hw.b,by rw [e5];exact hw.c⟩)
   clear bc hw aA bH qi qn e0 e2 e3 e5 gb
   go_simp
  ·have d2:=dq aD 2
   obtain ⟨v51,XP⟩:=bc.vv (.int .i64 l) 51 2 d2
   clear aD ho
   have e0:=qn 0 (by decide)
   have e2:=qn 2 (by decide)
   have e3:=qi
   have e5:=qn 5 (by decide)
   have h5:=ff bH fun hx=>(hw.o hx).1
   have gb:=hw.b h5
   have sY:=lp l w Mb Iv
   unfold wpOp
   simp only [List.getElem?_toArray,List.getElem?_cons_succ,List.getElem?_cons_zero,Region.wanted,if_true,Option.isNone_none]
   left
   unfold Oper.wp
   simp only [V',resolve,invoke,Sem.run_bind,Sem.run_pure,Result.andThen_ok,List.map_toArray,S_,List.map_nil,v51]
   refine (sY.mono ?_)
   rintro e w5 ⟨rfl,qo⟩
   exact aA.out x w5 (fun _ _=>rfl) ⟨by rw [e5,h5];exact fun h=>(by cases h),fun _=>by rw [e2];exact d2,fun _=>gb.trans (qo.mono gb.size),by rw [e5,h5];exact fun h=>(by cases h)⟩
  ·have d3:=dq aD 3
   obtain ⟨v52,V9⟩:=bc.vv (.string ⟨(L_ l).toArray⟩) 52 3 d3
   clear aD ho
   refine bj (v:=.string ⟨(dL++L_ l).toArray⟩) (w':=w) rfl rfl ?_ (aA.out x w (fun _ _=>rfl) (hw.same qn (by decide)))
   clear bc hw aA bH qi qn
   rw [<-vQ]
   unfold dL
   go_simp
   omega
  ·have d0:=dq aD 0
   have d3:=aD ⟨3,.chain⟩ (by simp) rfl
   obtain ⟨v49,Wa⟩:=bc.vv (.agg #[.int .i64 L,.int .i64 O,.int .i64 P,.int .i64 ck,.slice ar nr cr,.slice aw nw cw,.slice ab nb cb,.slice al bM cl]) 49 0 d0
   obtain ⟨v4,w4⟩:=bc.oo (.pointer (some ⟨b4,0,none⟩)) 4
   clear aD ho
   have e0:=qn 0 (by decide)
   have e2:=qn 2 (by decide)
   have e3:=qn 3 (by decide)
   have e5:=qi
   have gb:=hw.b bH
   obtain ⟨⟨p0,p1,p2,p3,p4,p5,p6,p7⟩,q0,q1,q2,q3,q4,q5,q6,q7⟩:=aG ((gb.block b4 (cI FQ)).trans FQ)
   refine gQ (w':=Of.b8 w b4 (.int .i64 L) (.int .i64 O) (.int .i64 P) (.int .i64 ck) (.slice ar nr cr) (.slice aw nw cw) (.slice ab nb cb) (.slice al bM cl)) rfl rfl ?_ (aA.out x _ (fun _ _=>rfl) ⟨fun _=>by rw [e3,e0];exact ⟨d3,d0⟩,by rw [e3,e2];exact hw.o3,by rw [e5];exact fun h=>(by cases h),fun _=>⟨w,gb,rfl⟩⟩)
   clear bc hw aA bH qi qn e0 e2 e3 e5 gb
   unfold Of.b8
   go_simp
  ·have d4:=dq aD 4
   obtain ⟨v53,XO⟩:=bc.vv (.string ⟨(dL++L_ l).toArray⟩) 53 4 d4
   exact iY rfl (.string ⟨(dL++L_ l).toArray⟩) (aA.out x w (fun _ _=>rfl) (hw.same qn (by decide)))
 ·intro D x w hd hw
  obtain ⟨w5,qo,rfl⟩:=hw.c (hd 5 (by decide))
  have:=hQ w5 (.agg #[.int .i64 L,.int .i64 O,.int .i64 P,.int .i64 ck,.slice ar nr cr,.slice aw nw cw,.slice ab nb cb,.slice al bM cl]) (.pointer (some ⟨bx,0,none⟩)) (.int .i64 l) (.string ⟨(L_ l).toArray⟩) (.string ⟨(dL++L_ l).toArray⟩) (sD.out w5 qo)
  generalize bc:slotsOf _ bs (BS bx l L O P ck ar aw ab al nr cr nw cw nb cb bM cl ())=sl
  have eS:sl=#[z0,z1,.pointer (some ⟨b2,0,none⟩),z3,.pointer (some ⟨b4,0,none⟩),.string ⟨(dL++L_ l).toArray⟩,.pointer (some ⟨bx,0,none⟩),z7,z8,z9,dB,cZ,z12,de,dn,dm,dk,dj,dA,dz,z20,z21,z22,z23,z24,z25,z26,dD,z28,dC,dM,z31,dQ,dK,dP,dO,dV,z37,ey,ew,z40,eu,eK,eJ,eI,eH,z46,eQ,eN,.agg #[.int .i64 L,.int .i64 O,.int .i64 P,.int .i64 ck,.slice ar nr cr,.slice aw nw cw,.slice ab nb cb,.slice al bM cl],.pointer (some ⟨bx,0,none⟩),.int .i64 l,.string ⟨(L_ l).toArray⟩,.string ⟨(dL++L_ l).toArray⟩]:=by rw [<-bc,<-cn];kernel_rfl
  rw [eS]
  exact this
noncomputable def Pb:Code:=ai 6 Bq
def BR (bx:Nat) (l:Int) (L O P ck:Int) (ar aw ab al:Option z_) (nr cr nw cw nb cb bM cl:Nat) (_:Unit):Nat->M'
 |0=>.agg #[.int .i64 L,.int .i64 O,.int .i64 P,.int .i64 ck,.slice ar nr cr,.slice aw nw cw,.slice ab nb cb,.slice al bM cl]
 |1=>.pointer (some ⟨bx,0,none⟩)
 |2=>.int .i64 l
 |3=>.string ⟨(L_ l).toArray⟩
 |4=>.string ⟨(dL++L_ l).toArray⟩
 |6=>.string ⟨(dL++L_ l).toArray⟩
 |_=>I'
variable {z6:M'}
theorem MF (lF:w.heap[b2]?=some (.cells #[.int .i64 L,.int .i64 O,.int .i64 P,.int .i64 ck,.slice ar nr cr,.slice aw nw cw,.slice ab nb cb,.slice al bM cl] 63 (0,0))) (FQ:w.heap[b4]?=some (.cells #[.int .i64 0,.int .i64 0,.int .i64 0,.int .i64 0,.slice none 0 0,.slice none 0 0,.slice none 0 0,.slice none 0 0] 63 (0,0))) (uN:bx<w.heap.size) (uK:w.cell? ⟨bx,0,none⟩=some (.int .i64 l)) (Mb:0<=l) (Iv:l<=1000000000) {z12 z20 z21 z22 z23 z24 z25 z26 z28 z31 z37 z40 z46 z49 z51 z53:M'}
 (hQ:∀w5 (Jr Jq Og Oe Oc:M'),g_ w.heap.size w w5->Q .normal ⟨#[z0,z1,.pointer (some ⟨b2,0,none⟩),z3,.pointer (some ⟨b4,0,none⟩),.string ⟨(dL++L_ l).toArray⟩,z6,.pointer (some ⟨bx,0,none⟩),z8,z9,dB,cZ,z12,de,dn,dm,dk,dj,dA,dz,z20,z21,z22,z23,z24,z25,z26,dD,z28,dC,dM,z31,dQ,dK,dP,dO,dV,z37,ey,ew,z40,eu,eK,eJ,eI,eH,z46,eQ,eN,z49,en,z51,iu,z53,Jr,Jq,Og,Oe,Oc],[]⟩ (Of.b8 w5 b4 (.int .i64 L) (.int .i64 O) (.int .i64 P) (.int .i64 ck) (.slice ar nr cr) (.slice aw nw cw) (.slice ab nb cb) (.slice al bM cl))):
 Code.wp p_ Pb Q ⟨#[z0,z1,.pointer (some ⟨b2,0,none⟩),z3,.pointer (some ⟨b4,0,none⟩),z5,z6,.pointer (some ⟨bx,0,none⟩),z8,z9,dB,cZ,z12,de,dn,dm,dk,dj,dA,dz,z20,z21,z22,z23,z24,z25,z26,dD,z28,dC,dM,z31,dQ,dK,dP,dO,dV,z37,ey,ew,z40,eu,eK,eJ,eI,eH,z46,eQ,eN,z49,en,z51,iu,z53,iF,iE,iD,iC,iB],[]⟩ w:=by
 have OT:(L_ l).length<=21:=Lib.itoa_length_le l (by omega) (by omega)
 obtain ⟨w1,cf⟩:∃w1,w.drew=w1:=⟨_,rfl⟩
 have sD:f_ (∀w5,g_ w1.heap.size w1 w5->g_ w.heap.size w w5):=fun w5 h=>by rw [<-cf] at h;exact (h_ _ _).drew.trans h
 replace lF:w1.heap[b2]?=some (.cells #[.int .i64 L,.int .i64 O,.int .i64 P,.int .i64 ck,.slice ar nr cr,.slice aw nw cw,.slice ab nb cb,.slice al bM cl] 63 (0,0)):=by rw [<-cf];exact lF
 replace FQ:w1.heap[b4]?=some (.cells #[.int .i64 0,.int .i64 0,.int .i64 0,.int .i64 0,.slice none 0 0,.slice none 0 0,.slice none 0 0,.slice none 0 0] 63 (0,0)):=by rw [<-cf];exact FQ
 replace uN:bx<w1.heap.size:=by rw [<-cf];exact uN
 replace uK:w1.cell? ⟨bx,0,none⟩=some (.int .i64 l):=by rw [<-cf];exact uK
 refine wpN 59 fun bs cn oq HI=> ?_
 simp only [Pb,ai,Bq,f84,A_]
 refine mz (by kernel_rfl) (kP:=()) (base:=bs) (by rw [oq];kernel_rfl) (by kernel_rfl) (fun x=>BR bx l L O P ck ar aw ab al nr cr nw cw nb cb bM cl x) (VW w1 b4 L O P ck ar aw ab al nr cr nw cw nb cb bM cl)
  (by
   exact ⟨E5,E5,fun _=>by rw [cf];exact h_ _ _,E5⟩) ?_ ?_
 ·intro i o' ho D x w a hD bc hw bH aD K k
  have hlt:i<7:=(cI ho)
  have Gl:=bT oq
  have qi:=qI hD hlt
  have qn:=qN D i
  have aA:=aa k
  clear k
  obtain rfl|rfl|rfl|rfl|rfl|rfl|rfl:i=0\/i=1\/i=2\/i=3\/i=4\/i=5\/i=6:=by omega
  all_goals obtain rfl:=so ho rfl
  ·obtain ⟨v2,w2⟩:=bc.oo (.pointer (some ⟨b2,0,none⟩)) 2
   clear aD ho
   have e0:=qi
   have e2:=qn 2 (by decide)
   have e3:=qn 3 (by decide)
   have e5:=qn 5 (by decide)
   have h5:=ff bH fun hx=>(hw.o hx).2
   have gb:=hw.b h5
   obtain ⟨⟨p0,p1,p2,p3,p4,p5,p6,p7⟩,_⟩:=aG ((gb.block b2 (cI lF)).trans lF)
   refine bj (v:=.agg #[.int .i64 L,.int .i64 O,.int .i64 P,.int .i64 ck,.slice ar nr cr,.slice aw nw cw,.slice ab nb cb,.slice al bM cl]) (w':=w) rfl rfl ?_ (aA.out x w (fun _ _=>rfl) ⟨by rw [e5,h5];exact fun h=>(by cases h),by rw [e3,e2];exact hw.o3,by rw [e5];exact hw.b,by rw [e5];exact hw.c⟩)
   clear bc hw aA bH qi qn e0 e2 e3 e5 gb
   go_simp
  ·obtain ⟨v7,w7⟩:=bc.oo (.pointer (some ⟨bx,0,none⟩)) 7
   exact iY rfl (.pointer (some ⟨bx,0,none⟩)) (aA.out x w (fun _ _=>rfl) (hw.same qn (by decide)))
  ·have d1:=dq aD 1
   obtain ⟨v55,XM⟩:=bc.vv (.pointer (some ⟨bx,0,none⟩)) 55 1 d1
   clear aD ho
   have e0:=qn 0 (by decide)
   have e2:=qi
   have e3:=qn 3 (by decide)
   have e5:=qn 5 (by decide)
   have h3:=ff bH fun hx=>hw.o3 hx
   have h5:=ff h3 fun hx=>(hw.o hx).1
   have gb:=hw.b h5
   have hl:w.cell? ⟨bx,0,none⟩=some (.int .i64 l):=(gb.cell (p:=⟨bx,0,none⟩) uN).trans uK
   refine bj (v:=.int .i64 l) (w':=w) rfl rfl ?_ (aA.out x w (fun _ _=>rfl) ⟨by rw [e5,h5];exact fun h=>(by cases h),by rw [e3,h3];exact fun h=>(by cases h),by rw [e5];exact hw.b,by rw [e5];exact hw.c⟩)
   clear bc hw aA bH qi qn e0 e2 e3 e5 gb
   go_simp
  ·have d2:=dq aD 2
   obtain ⟨v56,XL⟩:=bc.vv (.int .i64 l) 56 2 d2
   clear aD ho
   have e0:=qn 0 (by decide)
   have e2:=qn 2 (by decide)
   have e3:=qi
   have e5:=qn 5 (by decide)
   have h5:=ff bH fun hx=>(hw.o hx).1
   have gb:=hw.b h5
   have sY:=lp l w Mb Iv
   unfold wpOp
   simp only [List.getElem?_toArray,List.getElem?_cons_succ,List.getElem?_cons_zero,Region.wanted,if_true,Option.isNone_none]
   left
   unfold Oper.wp
   simp only [V',resolve,invoke,Sem.run_bind,Sem.run_pure,Result.andThen_ok,List.map_toArray,S_,List.map_nil,v56]
   refine (sY.mono ?_)
   rintro e w5 ⟨rfl,qo⟩
   exact aA.out x w5 (fun _ _=>rfl) ⟨by rw [e5,h5];exact fun h=>(by cases h),fun _=>by rw [e2];exact d2,fun _=>gb.trans (qo.mono gb.size),by rw [e5,h5];exact fun h=>(by cases h)⟩
  ·have d3:=dq aD 3
   obtain ⟨Kx,XK⟩:=bc.vv (.string ⟨(L_ l).toArray⟩) 57 3 d3
   clear aD ho
   refine bj (v:=.string ⟨(dL++L_ l).toArray⟩) (w':=w) rfl rfl ?_ (aA.out x w (fun _ _=>rfl) (hw.same qn (by decide)))
   clear bc hw aA bH qi qn
   rw [<-vQ]
   unfold dL
   go_simp
   omega
  ·have d0:=dq aD 0
   have d3:=aD ⟨3,.chain⟩ (by simp) rfl
   obtain ⟨v54,XN⟩:=bc.vv (.agg #[.int .i64 L,.int .i64 O,.int .i64 P,.int .i64 ck,.slice ar nr cr,.slice aw nw cw,.slice ab nb cb,.slice al bM cl]) 54 0 d0
   obtain ⟨v4,w4⟩:=bc.oo (.pointer (some ⟨b4,0,none⟩)) 4
   clear aD ho
   have e0:=qn 0 (by decide)
   have e2:=qn 2 (by decide)
   have e3:=qn 3 (by decide)
   have e5:=qi
   have gb:=hw.b bH
   obtain ⟨⟨p0,p1,p2,p3,p4,p5,p6,p7⟩,q0,q1,q2,q3,q4,q5,q6,q7⟩:=aG ((gb.block b4 (cI FQ)).trans FQ)
   refine gQ (w':=Of.b8 w b4 (.int .i64 L) (.int .i64 O) (.int .i64 P) (.int .i64 ck) (.slice ar nr cr) (.slice aw nw cw) (.slice ab nb cb) (.slice al bM cl)) rfl rfl ?_ (aA.out x _ (fun _ _=>rfl) ⟨fun _=>by rw [e3,e0];exact ⟨d3,d0⟩,by rw [e3,e2];exact hw.o3,by rw [e5];exact fun h=>(by cases h),fun _=>⟨w,gb,rfl⟩⟩)
   clear bc hw aA bH qi qn e0 e2 e3 e5 gb
   unfold Of.b8
   go_simp
  ·have d4:=dq aD 4
   obtain ⟨v58,V8⟩:=bc.vv (.string ⟨(dL++L_ l).toArray⟩) 58 4 d4
   exact iY rfl (.string ⟨(dL++L_ l).toArray⟩) (aA.out x w (fun _ _=>rfl) (hw.same qn (by decide)))
 ·intro D x w hd hw
  obtain ⟨w5,qo,rfl⟩:=hw.c (hd 5 (by decide))
  have:=hQ w5 (.agg #[.int .i64 L,.int .i64 O,.int .i64 P,.int .i64 ck,.slice ar nr cr,.slice aw nw cw,.slice ab nb cb,.slice al bM cl]) (.pointer (some ⟨bx,0,none⟩)) (.int .i64 l) (.string ⟨(L_ l).toArray⟩) (.string ⟨(dL++L_ l).toArray⟩) (sD.out w5 qo)
  generalize bc:slotsOf _ bs (BR bx l L O P ck ar aw ab al nr cr nw cw nb cb bM cl ())=sl
  have eS:sl=#[z0,z1,.pointer (some ⟨b2,0,none⟩),z3,.pointer (some ⟨b4,0,none⟩),.string ⟨(dL++L_ l).toArray⟩,z6,.pointer (some ⟨bx,0,none⟩),z8,z9,dB,cZ,z12,de,dn,dm,dk,dj,dA,dz,z20,z21,z22,z23,z24,z25,z26,dD,z28,dC,dM,z31,dQ,dK,dP,dO,dV,z37,ey,ew,z40,eu,eK,eJ,eI,eH,z46,eQ,eN,z49,en,z51,iu,z53,.agg #[.int .i64 L,.int .i64 O,.int .i64 P,.int .i64 ck,.slice ar nr cr,.slice aw nw cw,.slice ab nb cb,.slice al bM cl],.pointer (some ⟨bx,0,none⟩),.int .i64 l,.string ⟨(L_ l).toArray⟩,.string ⟨(dL++L_ l).toArray⟩]:=by rw [<-bc,<-cn];kernel_rfl
  rw [eS]
  exact this
noncomputable def R84:Code:=ai 5 Bq
def zQ (b2 bx gu nf cu:Nat) (m:Rm) (ar:Option z_) (cr:Nat) (r:Rec) (op:Int) (x:Qr):Nat->M'
 |0=>.pointer (some ⟨b2,4,none⟩)
 |1=>.slice ar m.recs.length cr
 |2=>.pointer (some ⟨bx,0,none⟩)
 |3=>.int .i64 r.call
 |4=>.slice (some ⟨gu,0,none⟩) nf cu
 |5=>.pointer (some ⟨gu,0,none⟩)
 |6=>.int .i64 r.line
 |7=>.int .i64 op
 |8=>.pointer (some ⟨b2,3,none⟩)
 |9=>.int .i64 m.clock
 |10=>.pointer (some ⟨b2,3,none⟩)
 |11=>.int .i64 m.clock
 |12=>.agg #[.int .i64 r.call,.int .i64 r.line,.int .i64 op,.int .i64 m.clock,.int .i64 m.clock,.int .i64 (-1),.string ⟨#[111,112,101,110]⟩]
 |13=>.slice (some ⟨x.g,0,none⟩) 1 1
 |14=>x.u
 |15=>.pointer (some ⟨b2,4,none⟩)
 |_=>I'
variable {w0:J'} {r0 b0 z4:M'}
theorem Tg {vw:M'} {r:Rec} {op:Int} (hF:gO w0 r0 b0 B m L O P (.slice ar m.recs.length cr) vw vb vl b2 b4 w) (hn:m.recs.length<=1000) (hnf:0<nf) (Gk:nf<=cu) (mj:f_ (r.cells.toArray=#[.int .i64 r.call,.int .i64 r.line,.int .i64 op,.int .i64 m.clock,.int .i64 m.clock,.int .i64 (-1),.string ⟨#[111,112,101,110]⟩])) (h3:w.cell? ⟨bx,0,none⟩=some (.int .i64 r.call)) (mi:w.cell? ⟨gu,0,none⟩=some (.int .i64 r.line)) {z12 z20 z21 z22 z23 z24 z25 z26 z28 z31 z37 z40 z46 z49 z51 z53:M'}
 (hQ:∀w' gg cap (Om TB TA Tz Ty Tx Tw Tv Tu Ol Oj Oi Oh Ju Jt Js:M'),gO w0 r0 b0 B {m with recs:=m.recs++[r]} L O P (.slice (some ⟨gg,0,none⟩) (m.recs.length+1) cap) vw vb vl b2 b4 w'->(∀g,g<w.heap.size->g≠b2->(mN ar m.recs.length cr).ownBlock≠some g->w'.heap[g]?=w.heap[g]?)->Q .normal ⟨#[z0,.int .i64 op,.pointer (some ⟨b2,0,none⟩),z3,z4,z5,.slice (some ⟨gu,0,none⟩) nf cu,.pointer (some ⟨bx,0,none⟩),z8,z9,dB,cZ,z12,de,dn,dm,dk,dj,dA,dz,z20,z21,z22,z23,z24,z25,z26,dD,z28,dC,dM,z31,dQ,dK,dP,dO,dV,z37,Om,TB,TA,Tz,Ty,Tx,Tw,Tv,Tu,Ol,Oj,Oi,Oh,Ju,Jt,Js,iF,iE,iD,iC,iB],[]⟩ w'):
 Code.wp p_ R84 Q ⟨#[z0,.int .i64 op,.pointer (some ⟨b2,0,none⟩),z3,z4,z5,.slice (some ⟨gu,0,none⟩) nf cu,.pointer (some ⟨bx,0,none⟩),z8,z9,dB,cZ,z12,de,dn,dm,dk,dj,dA,dz,z20,z21,z22,z23,z24,z25,z26,dD,z28,dC,dM,z31,dQ,dK,dP,dO,dV,z37,ey,ew,z40,eu,eK,eJ,eI,eH,z46,eQ,eN,z49,en,z51,iu,z53,iF,iE,iD,iC,iB],[]⟩ w:=by
 have hF:=hF.drew
 have c3:w.drew.cell? ⟨b2,3,none⟩=some (.int .i64 m.clock):=(aG hF.box).1.2.2.2.1
 have c4:w.drew.cell? ⟨b2,4,none⟩=some (.slice ar m.recs.length cr):=(aG hF.box).1.2.2.2.2.1
 have h3:w.drew.cell? ⟨bx,0,none⟩=some (.int .i64 r.call):=h3
 have mi:w.drew.cell? ⟨gu,0,none⟩=some (.int .i64 r.line):=mi
 obtain ⟨w1,cf⟩:∃w1,w.drew=w1:=⟨_,rfl⟩
 have vC:f_ (∀g:Nat,w1.heap[g]?=w.heap[g]?/\w1.heap.size=w.heap.size):=fun g=>by rw [<-cf];exact ⟨rfl,rfl⟩
 rw [cf] at hF c3 c4 h3 mi
 refine wpN 59 fun bs cn oq HI=> ?_
 simp only [R84,ai,Bq,f84,A_]
 refine mA (by kernel_rfl) (kP:=⟨I',0⟩) (base:=bs) (by rw [oq];kernel_rfl) (by kernel_rfl) (fun x=>zQ b2 bx gu nf cu m ar cr r op x) (VX [3,6,7,9,11] 12 13 14 16 w1 w0 r0 b0 B m L O P vw vb vl b2 b4 ar cr r)
  (by
   exact ⟨E5,E5,E5,E5,fun _=>cf,E5,E5,E5,E5⟩) ?_ ?_
 ·intro i o' ho D x w a hD bc hw bH aD K k
  have hlt:i<17:=(cI ho)
  have Gl:=bT oq
  have qi:=qI hD hlt
  have qn:=qN D i
  have aA:=aa k
  clear k
  obtain rfl|rfl|rfl|rfl|rfl|rfl|rfl|rfl|rfl|rfl|rfl|rfl|rfl|rfl|rfl|rfl|rfl:i=0\/i=1\/i=2\/i=3\/i=4\/i=5\/i=6\/i=7\/i=8\/i=9\/i=10\/i=11\/i=12\/i=13\/i=14\/i=15\/i=16:=by omega
  all_goals obtain rfl:=so ho rfl
  ·obtain ⟨v2,w2⟩:=bc.oo (.pointer (some ⟨b2,0,none⟩)) 2
   exact IZ (.pointer (some ⟨b2,4,none⟩))
  ·have d0:=dq aD 0
   obtain ⟨v38,XX⟩:=bc.vv (.pointer (some ⟨b2,4,none⟩)) 38 0 d0
   have c4:w.cell? ⟨b2,4,none⟩=some (.slice ar m.recs.length cr):=by
    have hk:=ff bH fun hx=>(hw.o2 hx).2
    cases hb:D.getD 13 false with
    |false=>rw [hw.a hb];exact c4
    |true=>rw [(hw.b hb hk).1];exact (N_ w1 _ none).cell c4 (by simp)
   exact IZ (.slice ar m.recs.length cr)
  ·obtain ⟨v7,w7⟩:=bc.oo (.pointer (some ⟨bx,0,none⟩)) 7
   exact IZ (.pointer (some ⟨bx,0,none⟩))
  ·have d2:=dq aD 2
   obtain ⟨v40,XW⟩:=bc.vv (.pointer (some ⟨bx,0,none⟩)) 40 2 d2
   have vF:=ff bH fun hx=>hw.o1 (hw.o0 hx) 3 (by decide)
   obtain rfl:=hw.a vF
   exact IZ (.int .i64 r.call)
  ·obtain ⟨v6,w6⟩:=bc.oo (.slice (some ⟨gu,0,none⟩) nf cu) 6
   exact IZ (.slice (some ⟨gu,0,none⟩) nf cu)
  ·have d4:=dq aD 4
   obtain ⟨v42,XU⟩:=bc.vv (.slice (some ⟨gu,0,none⟩) nf cu) 42 4 d4
   exact IZ (.pointer (some ⟨gu,0,none⟩))
  ·have d5:=dq aD 5
   obtain ⟨v43,XT⟩:=bc.vv (.pointer (some ⟨gu,0,none⟩)) 43 5 d5
   have vF:=ff bH fun hx=>hw.o1 (hw.o0 hx) 6 (by decide)
   obtain rfl:=hw.a vF
   exact IZ (.int .i64 r.line)
  ·obtain ⟨v1,w1⟩:=bc.oo (.int .i64 op) 1
   exact IZ (.int .i64 op)
  ·obtain ⟨v2,w2⟩:=bc.oo (.pointer (some ⟨b2,0,none⟩)) 2
   exact IZ (.pointer (some ⟨b2,3,none⟩))
  ·have d8:=dq aD 8
   obtain ⟨v46,XQ⟩:=bc.vv (.pointer (some ⟨b2,3,none⟩)) 46 8 d8
   have vF:=ff bH fun hx=>hw.o1 (hw.o0 hx) 9 (by decide)
   obtain rfl:=hw.a vF
   exact IZ (.int .i64 m.clock)
  ·obtain ⟨v2,w2⟩:=bc.oo (.pointer (some ⟨b2,0,none⟩)) 2
   exact IZ (.pointer (some ⟨b2,3,none⟩))
  ·have d10:=dq aD 10
   obtain ⟨v48,Wb⟩:=bc.vv (.pointer (some ⟨b2,3,none⟩)) 48 10 d10
   have vF:=ff bH fun hx=>hw.o1 (hw.o0 hx) 11 (by decide)
   obtain rfl:=hw.a vF
   exact IZ (.int .i64 m.clock)
  ·have d3:=dq aD 3
   have d6:=dq aD 6
   have d7:=dq aD 7
   have d9:=dq aD 9
   have d11:=dq aD 11
   obtain ⟨v41,XV⟩:=bc.vv (.int .i64 r.call) 41 3 d3
   obtain ⟨v44,XS⟩:=bc.vv (.int .i64 r.line) 44 6 d6
   obtain ⟨v45,XR⟩:=bc.vv (.int .i64 op) 45 7 d7
   obtain ⟨v47,LS⟩:=bc.vv (.int .i64 m.clock) 47 9 d9
   obtain ⟨v49,Wa⟩:=bc.vv (.int .i64 m.clock) 49 11 d11
   clear aD ho
   have xR:=qi
   have oL:=qn 13 (by decide)
   have yg:=qn 14 (by decide)
   have Dh:=qn 16 (by decide)
   have vF:=ff bH fun hx=>hw.o0 hx
   refine bj (v:=.agg #[.int .i64 r.call,.int .i64 r.line,.int .i64 op,.int .i64 m.clock,.int .i64 m.clock,.int .i64 (-1),.string ⟨#[111,112,101,110]⟩]) (w':=w) rfl rfl ?_ (aA.out x w (fun _ _=>rfl) ⟨?_,by rw [oL,vF];exact fun h=>(by cases h),by rw [yg,oL];exact fun h=>⟨(hw.o2 h).1,by rw [qn 1 (by decide)];exact (hw.o2 h).2⟩,by rw [Dh,yg];exact hw.o3,by rw [oL];exact hw.a,by rw [oL,yg];exact hw.b,by rw [yg,Dh];exact hw.c,by rw [Dh];exact hw.d,by rw [yg];exact hw.e⟩)
   ·clear bc hw aA bH qi qn xR oL yg Dh vF
    go_simp
   ·intro _ j hj
    simp only [R_,List.not_mem_nil,or_false] at hj
    rcases hj with rfl|rfl|rfl|rfl|rfl
    ·rw [qn _ (by decide)];exact d3
    ·rw [qn _ (by decide)];exact d6
    ·rw [qn _ (by decide)];exact d7
    ·rw [qn _ (by decide)];exact d9
    ·rw [qn _ (by decide)];exact d11
  ·have d12:=dq aD 12
   obtain ⟨v50,w50⟩:=bc.vv (.agg #[.int .i64 r.call,.int .i64 r.line,.int .i64 op,.int .i64 m.clock,.int .i64 m.clock,.int .i64 (-1),.string ⟨#[111,112,101,110]⟩]) 50 12 d12
   clear aD ho
   have oL:=qi
   have yg:=qn 14 (by decide)
   have Dh:=qn 16 (by decide)
   have xE:=ff bH fun hx=>(hw.o2 hx).1
   have CR:=ff xE fun hx=>hw.o3 hx
   obtain rfl:=hw.a bH
   refine bj (v:=.slice (some ⟨w.heap.size,0,none⟩) 1 1) (w':=w.alloc (.cells r.cells.toArray 44)) rfl rfl ?_ ?_
   ·clear bc hw aA bH qi qn oL yg Dh
    rw [mj.out]
    go_simp
   ·refine aA.out ⟨x.u,w.heap.size⟩ _ (fun j hj=>by
     have hne:j≠13:=fun e=>by rw [e,bH] at hj;cases hj
     unfold zQ;split<;>first|rfl|exact absurd rfl hne) ⟨by rw [qn 12 (by decide)];exact fun _ j hj=>if e:j=13 then (by subst e;exact qi) else (by rw [qn j e];exact hw.o1 d12 j hj),fun _=>by rw [qn 12 (by decide)];exact d12,by rw [yg,xE];exact fun h=>(by cases h),by rw [Dh,CR];exact fun h=>(by cases h),by rw [oL];exact fun h=>(by cases h),fun _ _=>⟨rfl,rfl⟩,by rw [yg,xE];exact fun h=>(by cases h),by rw [Dh,CR];exact fun h=>(by cases h),by rw [yg,xE];exact fun h=>(by cases h)⟩
  ·have d1:=dq aD 1
   have d13:=dq aD 13
   obtain ⟨v39,w39⟩:=bc.vv (.slice ar m.recs.length cr) 39 1 d1
   obtain ⟨v51,XP⟩:=bc.vv (.slice (some ⟨x.g,0,none⟩) 1 1) 51 13 d13
   clear aD ho
   have oL:=qn 13 (by decide)
   have yg:=qi
   have Dh:=qn 16 (by decide)
   have CR:=ff bH fun hx=>hw.o3 hx
   obtain ⟨yc,hg⟩:=hw.b d13 bH
   obtain ⟨i9,A5,Kl,nQ,nP⟩:=info_parts EA
   have bR:=hF.room.recs.alloc (.cells r.cells.toArray 44)
   obtain ⟨g,cap,w6,hrun,yI,pZ,iP,mR⟩:=run_append_lies (P:=p_) (w1.alloc (.cells r.cells.toArray 44)) 37 37 B 44 i9 _ 7 64 Tryz.underlying37 A5 Kl nQ nP rfl (by decide) (.slice ar m.recs.length cr) m.recs.length _ bR ⟨w1.heap.size,0,none⟩ 1 1 r.cells rfl (fY w1 _ _ rfl) (by intro u hu;simp [Rec.cells] at hu;rcases hu with rfl|rfl|rfl|rfl|rfl|rfl|rfl<;>rfl) (by decide) (by unfold maxLen;omega) (by omega) (D_ hF.room.big (N_ w1 _ none).size) _ rfl
   rw [hg] at v51
   subst yc
   refine bj (v:=.slice (some ⟨g,0,none⟩) (m.recs.length+1) cap) (w':=w6) rfl rfl ?_ ?_
   ·clear bc hw aA bH qi qn oL yg Dh
    simp only [List.getElem_toArray,List.getElem_cons_succ,List.getElem_cons_zero,V',resolve,invoke,builtin,Sem.run_bind,Sem.run_pure,Result.andThen_ok,List.map_toArray,S_,List.map_nil,v39,v51,hrun]
   ·refine aA.out ⟨.slice (some ⟨g,0,none⟩) (m.recs.length+1) cap,x.g⟩ _ (fun j hj=>by
     have hne:j≠14:=fun e=>by rw [e,bH] at hj;cases hj
     unfold zQ;split<;>first|rfl|exact absurd rfl hne) ⟨?_,by rw [qn 12 (by decide),oL];exact hw.o0, ?_,by rw [Dh,CR];exact fun h=>(by cases h),by rw [oL,d13];exact fun h=>(by cases h),by rw [yg];exact fun _ h=>(by cases h),fun _ _=>⟨by rw [nG];simpa [cj] using yI,pZ, ?_⟩,by rw [Dh,CR];exact fun h=>(by cases h),fun _=>⟨g,cap,rfl⟩⟩
    ·rw [qn 12 (by decide)];intro h j hj
     have:=hw.o1 h j hj
     by_cases e:j=14
     ·subst e;exact qi
     ·rw [qn j e];exact this
    ·intro _;rw [oL];exact ⟨d13,by rw [qn 1 (by decide)];exact d1⟩
    ·rcases iP with h|h
     ·exact .inl h.symm
     ·exact .inr (by rw [h,B_];rfl)
  ·obtain ⟨v2,w2⟩:=bc.oo (.pointer (some ⟨b2,0,none⟩)) 2
   exact IZ (.pointer (some ⟨b2,4,none⟩))
  ·have d15:=dq aD 15
   have d14:=dq aD 14
   obtain ⟨v53,XO⟩:=bc.vv (.pointer (some ⟨b2,4,none⟩)) 53 15 d15
   obtain ⟨v52,V9⟩:=bc.vv (x.u) 52 14 d14
   clear aD ho
   have oL:=qn 13 (by decide)
   have yg:=qn 14 (by decide)
   have Dh:=qi
   obtain ⟨ho,lH,fH⟩:=hw.c d14 bH
   obtain ⟨gg,cap,hu⟩:=hw.e d14
   have F3:=hF.below ((h_ _ _).alloc (C_ _) (.cells r.cells.toArray 44))
   have F4:=F3.recs (r:=r) rfl lH ho (by rw [B_];exact fH)
   have lF:=(lH.block _ F3.LX (fun e=>F3.oB.1.1 e.symm)).trans F3.box
   have p4:w.cell? ⟨b2,4,none⟩=some (.slice ar m.recs.length cr):=by rw [cV lF];rfl
   have q4:w.frozen? ⟨b2,4,none⟩=false:=bX lF
   have QL:∀g,g<w1.heap.size->g≠b2->(mN ar m.recs.length cr).ownBlock≠some g->(w.setCell ⟨b2,4,none⟩ x.u).heap[g]?=w1.heap[g]?:=fun g h1 h2 h3=>(a_ w ⟨b2,4,none⟩ g x.u h2).trans ((lH.block g (by rw [B_];omega) (fun e=>h3 e.symm)).trans ((N_ w1 _ none).block g h1 (by simp)))
   have QL:=aa QL
   refine gQ (w':=w.setCell ⟨b2,4,none⟩ x.u) rfl rfl ?_ ?_
   ·clear bc hw aA bH qi qn oL yg Dh F3 F4 ho lH fH lF
    rw [hu] at V9
    rw [hu]
    go_simp
   ·refine aA.out x _ (fun _ _=>rfl) ⟨?_,by rw [qn 12 (by decide),oL];exact hw.o0,by rw [yg,oL];exact fun h=>⟨(hw.o2 h).1,by rw [qn 1 (by decide)];exact (hw.o2 h).2⟩,fun _=>by rw [yg];exact d14,by rw [oL];exact fun h=>(by rw [(hw.o2 d14).1] at h;cases h),by rw [yg,d14];exact fun _ h=>(by cases h),by rw [Dh];exact fun _ h=>(by cases h),fun _=>⟨F4,QL.out⟩,by rw [yg];exact hw.e⟩
    rw [qn 12 (by decide)];intro h j hj
    have:=hw.o1 h j hj
    by_cases e:j=16
    ·subst e;exact qi
    ·rw [qn j e];exact this
 ·intro D x w hd hw
  obtain ⟨gg,cap,hu⟩:=hw.e (hd 14 (by decide))
  have EX:=hw.d (hd 16 (by decide))
  obtain ⟨u9,g9⟩:=x
  simp only at hu EX
  subst hu
  have:=hQ w gg cap (.pointer (some ⟨b2,4,none⟩)) (.slice ar m.recs.length cr) (.pointer (some ⟨bx,0,none⟩)) (.int .i64 r.call) (.slice (some ⟨gu,0,none⟩) nf cu) (.pointer (some ⟨gu,0,none⟩)) (.int .i64 r.line) (.int .i64 op) (.pointer (some ⟨b2,3,none⟩)) (.int .i64 m.clock) (.pointer (some ⟨b2,3,none⟩)) (.int .i64 m.clock) (.agg #[.int .i64 r.call,.int .i64 r.line,.int .i64 op,.int .i64 m.clock,.int .i64 m.clock,.int .i64 (-1),.string ⟨#[111,112,101,110]⟩]) (.slice (some ⟨g9,0,none⟩) 1 1) (.slice (some ⟨gg,0,none⟩) (m.recs.length+1) cap) (.pointer (some ⟨b2,4,none⟩)) EX.1 (fun g h1 h2 h3=>(EX.2 g (by rw [(vC.out g).2];exact h1) h2 h3).trans (vC.out g).1)
  generalize bc:slotsOf _ bs (zQ b2 bx gu nf cu m ar cr r op ⟨.slice (some ⟨gg,0,none⟩) (m.recs.length+1) cap,g9⟩)=sl
  have eS:sl=#[z0,.int .i64 op,.pointer (some ⟨b2,0,none⟩),z3,z4,z5,.slice (some ⟨gu,0,none⟩) nf cu,.pointer (some ⟨bx,0,none⟩),z8,z9,dB,cZ,z12,de,dn,dm,dk,dj,dA,dz,z20,z21,z22,z23,z24,z25,z26,dD,z28,dC,dM,z31,dQ,dK,dP,dO,dV,z37,.pointer (some ⟨b2,4,none⟩),.slice ar m.recs.length cr,.pointer (some ⟨bx,0,none⟩),.int .i64 r.call,.slice (some ⟨gu,0,none⟩) nf cu,.pointer (some ⟨gu,0,none⟩),.int .i64 r.line,.int .i64 op,.pointer (some ⟨b2,3,none⟩),.int .i64 m.clock,.pointer (some ⟨b2,3,none⟩),.int .i64 m.clock,.agg #[.int .i64 r.call,.int .i64 r.line,.int .i64 op,.int .i64 m.clock,.int .i64 m.clock,.int .i64 (-1),.string ⟨#[111,112,101,110]⟩],.slice (some ⟨g9,0,none⟩) 1 1,.slice (some ⟨gg,0,none⟩) (m.recs.length+1) cap,.pointer (some ⟨b2,4,none⟩),iF,iE,iD,iC,iB]:=by rw [<-bc,<-cn];kernel_rfl
  rw [eS]
  exact this
theorem yC {vw:M'} (R:bA B m vr vw vb w) (hn:m.recs.length<=100) (L9:m.wait.length<=100) (QO:m.back.length<=100) (gv:0<=m.clock/\m.clock<=1000000) (mP:∃a n c,vl=.slice a n c) (hop:∀p∈m.wait,(1<=p.1/\p.1<=1000000)/\∃i,dE m.recs p.1=some i) (op:Int):
 d_ p_ 83 #[jD L O P m.clock vr vw vb vl,.int .i64 op] w (Done w vr vb B (hZ m op).1 L O P vl (hZ m op).2):=by
 obtain ⟨al,bM,cl,rfl⟩:=mP
 obtain ⟨ab,cb,oK⟩:=aE R.back
 subst oK
 obtain ⟨ar,cr,ql⟩:=aE R.recs
 subst ql
 obtain ⟨gw,cw,qG,KC,yN⟩:=fV R.wait R.iQ
 subst qG
 obtain ⟨w1,cf⟩:∃w1,(w.alloc (.cells (gi L O P m.clock (.slice ar m.recs.length cr) (.slice (some ⟨gw,0,none⟩) m.wait.length cw) (.slice ab m.back.length cb) (.slice al bM cl)) 63)).alloc (.cells ia 63)=w1:=⟨_,rfl⟩
 have lr:f_ (w1.heap.size=w.heap.size+2):=by rw [f_,<-cf,B_,B_]
 have eo:g_ w.heap.size w w1:=by rw [<-cf];exact ((h_ _ _).alloc (C_ _) _).alloc (by rw [B_];omega) _
 have jx:w1.heap[w.heap.size]?=some (.cells (gi L O P m.clock (.slice ar m.recs.length cr) (.slice (some ⟨gw,0,none⟩) m.wait.length cw) (.slice ab m.back.length cb) (.slice al bM cl)) 63 (0,0)):=by rw [<-cf];exact br (Z' w _)
 have sH:w1.heap[w.heap.size+1]?=some (.cells ia 63 (0,0)):=by
  have:=Z' (w.alloc (.cells (gi L O P m.clock (.slice ar m.recs.length cr) (.slice (some ⟨gw,0,none⟩) m.wait.length cw) (.slice ab m.back.length cb) (.slice al bM cl)) 63)) (.cells ia 63)
  rw [B_,cf] at this
  exact this
 have F1:=aa (gO.start R eo jx sH (C_ _) (by omega) (by omega))
 obtain ⟨⟨e0,e1,e2,e3,e4,e5,e6,e7⟩,f0,f1,f2,f3,f4,f5,f6,f7⟩:=aG jx
 obtain ⟨⟨x0,x1,x2,x3,x4,x5,x6,x7⟩,y0,y1,y2,y3,y4,y5,y6,y7⟩:=aG (show w1.heap[w.heap.size+1]?=some (jY #[.int .i64 0,.int .i64 0,.int .i64 0,.int .i64 0,.slice none 0 0,.slice none 0 0,.slice none 0 0,.slice none 0 0] 63 (0,0)) from sH)
 have CX:m.recs.length<=1000:=by omega
 have sQ:=aa (uB F1.out.room.rd.1 CX op)
 clear R eo jx sH
 unfold gi ia at cf
 unfold jD
 by_cases ht:ez m.recs op>0
 ·have hR:f_ (hZ m op=(m,l8)):=by rw [f_];unfold hZ;rw [if_pos ht]
  generalize ez m.recs op=tk at sQ ht
  go_enter func83,ntmps83
  go_wp2_with (go_at_call 114;(with_reducible refine sQ.out.mono ?_);rintro e w2 ⟨rfl,rfl⟩)
  change bodyPost p_ f83 _ .ret _ (Of.b8 _ (w.heap.size+1) (.int .i64 L) (.int .i64 O) (.int .i64 P) (.int .i64 m.clock) (.slice ar m.recs.length cr) (.slice (some ⟨gw,0,none⟩) m.wait.length cw) (.slice ab m.back.length cb) (.slice al bM cl))
  rw [hR.out];refine gO.ends F1.out ?_ ?_ ?_<;>rfl
 have M7:¬0<ez m.recs op:=ht
 have SF:f_ (¬ez m.recs op>0):=ht
 generalize ez m.recs op=tk at sQ ht M7
 rcases (show m.wait=[]\/∃p ws,m.wait=p::ws by cases m.wait with|nil=>exact .inl rfl|cons p ws=>exact .inr ⟨p,ws,rfl⟩) with hw|⟨p,ws,hw⟩
 ·
  have hR:f_ (hZ m op=(m,qB)):=by rw [f_];unfold hZ;rw [if_neg SF.out,hw]
  replace hw:=aa hw
  go_enter func83,ntmps83
  go_wp2_with (go_at_call 114;(with_reducible refine sQ.out.mono ?_);rintro e w2 ⟨rfl,rfl⟩)
  ·change bodyPost p_ f83 _ .ret _ (Of.b8 _ (w.heap.size+1) (.int .i64 L) (.int .i64 O) (.int .i64 P) (.int .i64 m.clock) (.slice ar m.recs.length cr) (.slice (some ⟨gw,0,none⟩) m.wait.length cw) (.slice ab m.back.length cb) (.slice al bM cl))
   rw [hR.out];refine gO.ends F1.out ?_ ?_ ?_<;>rfl
  all_goals
   have oF:((m.wait.length:Int)==0)=true:=by rw [hw.out];rfl
   have aDm:m.wait.length=0:=by rw [hw.out];rfl
   exfalso
   have h9:(true:Bool)=false:=by rw [<-oF];assumption
   cases h9
 ·obtain ⟨⟨Iu,hp2⟩,i,Gc⟩:=hop p (by rw [hw];exact List.mem_cons_self)
  obtain ⟨QZ,ml⟩:=pV Gc
  obtain ⟨gr,VN,ql,Vd,hzz⟩:=nH F1.out.room.rd.1 ml
  injection ql with i1 i2 i3
  subst i1 i3
  have hR:f_ (hZ m op=({m with recs:=m.recs.set i {m.recs[i] with op:=op,heard:=m.clock},wait:=aJ m.wait p.1},dL++L_ p.1)):=by
   rw [f_];unfold hZ;rw [if_neg SF.out]
   split
   ·rename_i h;rw [hw] at h;cases h
   ·rename_i q qs h
    rw [hw] at h;injection h with h1 h2
    subst h1
    rw [Gc];simp only [G_ ml]
  have uK:0<m.wait.length:=by rw [hw];simp
  have UG:(0:Int)<(m.wait.length:Int):=by omega
  have Uh:m.wait[0]?=some p:=by rw [hw];rfl
  obtain ⟨yd,QI⟩:=List.getElem?_eq_some_iff.1 Uh
  obtain ⟨g1,c1,M5,_,k0,k1⟩:=pR F1.out.room.rd.2.1 uK
  injection M5 with i1 i2 i3
  injection i1 with i1
  injection i1 with i1
  subst i1 i3
  rw [QI] at k0 k1
  have k0':w1.cell? ⟨gw,0,none⟩=some (.int .i64 p.1):=k0
  have k1':w1.cell? ⟨gw,1,none⟩=some (.int .i64 p.2):=by simpa using k1
  have EE:=aa hw
  clear hw QI Uh
  have aDx:((m.wait.length:Int)==0)=false:=beq_eq_false_iff_ne.2 (by omega)
  have CP:gr≠w.heap.size:=fun e=>F1.out.oB.1.1 (by rw [e];rfl)
  have aDy:gr≠w.heap.size+1:=fun e=>F1.out.oB.2.1 (by rw [e];rfl)
  have QV:gr<w1.heap.size:=F1.out.room.nN.1 gr rfl
  obtain ⟨w6,sk⟩:∃w6,w1.alloc (.cells #[.int .i64 p.1,.int .i64 p.2] 114)=w6:=⟨_,rfl⟩
  have KF:g_ w1.heap.size w1 w6:=by rw [<-sk];exact (h_ _ _).alloc (C_ _) _
  have F6:=aa (F1.out.below KF)
  have SJ:f_ (w6.heap[w1.heap.size]?=some (.cells #[.int .i64 p.1,.int .i64 p.2] 114 (0,0))):=by rw [f_,<-sk];exact Z' w1 _
  have hgx:gr≠w1.heap.size:=by omega
  have hx6:w6.frozen? ⟨gr,i * 7+2,none⟩=false:=F6.out.room.recs.frozenAt _
  obtain ⟨w7,Ss⟩:∃w7,w6.setCell ⟨gr,i * 7+2,none⟩ (.int .i64 op)=w7:=⟨_,rfl⟩
  have SR:=F6.out.set rfl ml (k:=2) (by decide) (v:=.int .i64 op) (r:={m.recs[i] with op:=op}) rfl
  rw [Ss] at SR
  have TT:w7.frozen? ⟨gr,i * 7+4,none⟩=false:=by have h:=SR.room.recs;simp only [List.length_set] at h;exact h.frozenAt _
  obtain ⟨v6,hy6⟩:∃v,w6.cell? ⟨gr,i * 7+2,none⟩=some v:=⟨_,(F6.out.room.recs.cellAt (i * 7+2) (by omega)).trans (G_ (by rw [Ad];omega))⟩
  have YF:∃v,w7.cell? ⟨gr,i * 7+4,none⟩=some v:=by have h:=SR.room.recs;simp only [List.length_set] at h;exact ⟨_,(h.cellAt (i * 7+4) (by omega)).trans (G_ (by rw [Ad,List.length_set];omega))⟩
  obtain ⟨v7,YF⟩:=YF
  obtain ⟨w8,hw8⟩:∃w8,w7.setCell ⟨gr,i * 7+4,none⟩ (.int .i64 m.clock)=w8:=⟨_,rfl⟩
  have Xg:=SR.set (i:=i) (g:=gr) (cap:=cr) (by simp) (by simpa using ml) (k:=4) (by decide) (v:=.int .i64 m.clock) (r:={m.recs[i] with op:=op,heard:=m.clock}) (by simp [Rec.cells])
  rw [hw8] at Xg
  simp only [List.set_set] at Xg
  have F8:=aa Xg
  have hB7:f_ (w7.heap[w1.heap.size]?=some (.cells #[.int .i64 p.1,.int .i64 p.2] 114 (0,0))):=by rw [f_,<-Ss];exact (a_ w6 ⟨gr,i * 7+2,none⟩ _ _ (ru hgx)).trans SJ.out
  have Mk:f_ (w8.heap[w1.heap.size]?=some (.cells #[.int .i64 p.1,.int .i64 p.2] 114 (0,0))):=by rw [f_,<-hw8];exact (a_ w7 ⟨gr,i * 7+4,none⟩ _ _ (ru hgx)).trans hB7.out
  obtain ⟨⟨a0,a1,a2,a3,a4,a5,a6,a7⟩,_⟩:=aG F6.out.box
  obtain ⟨⟨b0,b1,b2,b3,b4,b5,b6,b7⟩,_⟩:=aG SR.box
  obtain ⟨⟨d0,d1,d2,d3,d4,d5,d6,d7⟩,_⟩:=aG F8.out.box
  have g6:w6.cell? ⟨w1.heap.size,0,none⟩=some (.int .i64 p.1):=cV SJ.out
  have g8:w8.cell? ⟨w1.heap.size,0,none⟩=some (.int .i64 p.1):=cV Mk.out
  have lA:=nO F6.out.room.rd.1 CX p.1
  rw [QZ] at lA
  have vI:(0:Int)<=(i:Int):=by omega
  have QY:(i:Int)<(m.recs.length:Int):=by omega
  have lA:=aa lA
  have hx:w.heap.size<w1.heap.size:=by have:=lr.out;omega
  have Fg:f_ (d_ p_ 115 #[.slice (some ⟨gw,0,none⟩) m.wait.length cw,.int .i64 p.1] w8 fun e w'=>∃u,e=.returned u/\w'.ownsRow w8.heap.size 114 2 u (aJ m.wait p.1).length (ax (aJ m.wait p.1))/\g_ w8.heap.size w8 w'/\∃g,u.ownBlock=some g):=jR F8.out.room.rd.2.1 F8.out.room.nN.2.1 (by show m.wait.length<=1000;omega) p.1
  have hl8:f_ (w1.heap.size<w8.heap.size):=(cI Mk.out)
  have Zj:f_ (w.heap.size≠w1.heap.size):=fun h=>by omega
  clear hzz
  have ml:=aa ml
  clear QZ SR Xg KF Gc x0 x1 x2 x3 x4 x5 x6 x7 y0 y1 y2 y3 y4 y5 y6 y7 SJ hB7 QV uK
  go_enter func83,ntmps83
  go_wp2_with (first|(go_at_call 114;(with_reducible refine sQ.out.mono ?_);rintro e w2 ⟨rfl,rfl⟩)|(go_at_call 110;(with_reducible refine lA.out.mono ?_);rintro e w3 ⟨rfl,rfl⟩)|(go_at_call 115;(with_reducible refine Fg.out.mono ?_);rintro e w9 ⟨u,rfl,nS,vJ,hg9⟩;obtain ⟨gq,WA⟩:=hg9;obtain ⟨aq,cq,Qv⟩:=aE nS;subst Qv;obtain ⟨⟨l0,l1,l2,l3,l4,l5,l6,l7⟩,j0,j1,j2,j3,j4,j5,j6,j7⟩:=aG (F8.out.below vJ).box;have nS:=aa nS;have WA:=aa WA;have vJ:=aa vJ))
  have SS:=aa (F8.out.waits vJ.out nS.out ⟨gq,WA.out⟩)
  have RE:f_ ((w9.setCell ⟨w.heap.size,5,none⟩ (.slice aq (aJ m.wait p.1).length cq)).heap[w2.heap.size]?=some (.cells #[.int .i64 p.1,.int .i64 p.2] 114 (0,0))):=(a_ w9 ⟨w.heap.size,5,none⟩ w2.heap.size _ (ru Zj.out)).trans ((vJ.out.block _ hl8.out).trans Mk.out)
  clear nS vJ WA l0 l1 l2 l3 l4 l5 l6 l7 j0 j1 j2 j3 j4 j5 j6 j7 F8 a0 a1 a2 a3 a4 a5 a6 a7 b0 b1 b2 b3 b4 b5 b6 b7 d0 d1 d2 d3 d4 d5 d6 d7 e0 e1 e2 e3 e4 e5 e6 e7 f0 f1 f2 f3 f4 f5 f6 f7 g6 g8 Mk lA sQ Fg F1 hy6 YF
  generalize w9.setCell ⟨w.heap.size,5,none⟩ (.slice aq (aJ m.wait p.1).length cq)=Ms at *
  refine MG (l:=p.1) (b2:=w.heap.size) (b4:=w.heap.size+1) (bx:=w2.heap.size) SS.out.box SS.out.res (cI RE.out) (cV RE.out) (by omega) (by omega) fun BD Oi Oh Ju Jt Js CY=> ?_
  have F11:=SS.out.below CY
  clear CY RE SS
  generalize dL++L_ p.1=tx at *
  go_wp2_with fail
  rw [hR.out];refine gO.ends F11 ?_ ?_ ?_
  ·rfl
  ·rfl
  ·rfl
variable {w':J'} {m':Rm} {vw qb jA qS:M'}
theorem Jj (v:M') (c:Int) (hv:v=.int .i64 c):(gi L O P ck vr vw vb vl).setIfInBounds 3 v=gi L O P c vr vw vb vl:=by subst hv;rfl
theorem bA.same (h:bA B m vr vw vb w) (h1:m'.recs=m.recs) (h2:m'.wait=m.wait) (h3:m'.back=m.back):bA B m' vr vw vb w:=
 ⟨h.big,by rw [h1];exact h.recs,by rw [h2];exact h.wait,by rw [h3];exact h.back,h.apart,h.iQ⟩
theorem gO.clock (h:gO w0 r0 b0 B m L O P vr vw vb vl b2 b4 w) (c:Int):gO w0 r0 b0 B {m with clock:=c} L O P vr vw vb vl b2 b4 (w.setCell ⟨b2,3,none⟩ (.int .i64 c)):=by
 obtain ⟨⟨q1,q2,q3⟩,q4,q5,q6⟩:=h.oB
 refine ⟨(h.room.cell q1 q2 q3).same rfl rfl rfl,h.fr.i7 h.l2,h.rr,h.rb, ?_, ?_,h.l2,h.l4,h.ne⟩
 ·have:=Go.heap_setCell_same w b2 3 _ 63 (.int .i64 c) h.box
  rw [Jj _ c rfl] at this;exact this
 ·exact (a_ w ⟨b2,3,none⟩ b4 _ (fun e=>h.ne e.symm)).trans h.res
theorem gO.put (h:gO w0 r0 b0 B m L O P vr vw vb vl b2 b4 w) (hF:bg vr (.slice none 0 0) w w') (R:bA B m' vr jA vb w'):
 gO w0 r0 b0 B m' L O P vr jA vb vl b2 b4 (Of.b8 w' b2 (.int .i64 L) (.int .i64 O) (.int .i64 P) (.int .i64 m'.clock) vr jA vb vl):=by
 obtain ⟨⟨q1,q2,q3⟩,q4,q5,q6⟩:=h.oB
 have hn:∀g:Nat,(mN none 0 0).ownBlock≠some g:=fun g e=>by cases e
 have lF:=(hF.block b2 h.LX q1 (hn _)).trans h.box
 have uI:=(hF.block b4 h.Qf q4 (hn _)).trans h.res
 have z2:jA.ownBlock≠some b2:=bB R.wait lF (by decide)
 refine ⟨R.b8 q1 z2 q3,(h.fr.then hF h.rr (fun g _ e=>absurd e (hn g))).b8 h.l2,h.rr,h.rb, ?_, ?_,h.l2,h.l4,h.ne⟩
 ·exact lB (show w'.heap[b2]?=some (jY #[_,_,_,_,_,_,_,_] 63 (0,0)) from lF) _ _ _ _ _ _ _ _
 ·exact (kN (fun e=>h.ne e.symm)).trans uI
variable {fn:Func} {tm:Array M'}
theorem zB {t:Bs} (R:bA B m vr vw vb w) (hF:bg r0 b0 w0 w) (rr:∀g,g<w0.heap.size->vr.ownBlock=some g->r0.ownBlock=some g) (rb:∀g,g<w0.heap.size->vb.ownBlock=some g->b0.ownBlock=some g) (hb:w.heap[b4]?=some (.cells ia 63 (0,0))) (l4:w0.heap.size<=b4)
 (EJ:fn.results=#[.cell 4 63,.tmp 5]) (h4:tm.getD 4 I'=.pointer (some ⟨b4,0,none⟩)) (h5:tm.getD 5 I'=.string ⟨t.toArray⟩):
 bodyPost p_ fn (Done w0 r0 b0 B m L O P vl t) .ret ⟨tm,[]⟩ (Of.b8 w b4 (.int .i64 L) (.int .i64 O) (.int .i64 P) (.int .i64 m.clock) vr vw vb vl):=by
 have q4:vr.ownBlock≠some b4:=bB R.recs hb (by decide)
 have q5:vw.ownBlock≠some b4:=bB R.wait hb (by decide)
 have q6:vb.ownBlock≠some b4:=bB R.back hb (by decide)
 have hR:=R.b8 (v0:=.int .i64 L) (v1:=.int .i64 O) (v2:=.int .i64 P) (v3:=.int .i64 m.clock) (v4:=vr) (v5:=vw) (v6:=vb) (v7:=vl) q4 q5 q6
 have hF:=hF.b8 (v0:=.int .i64 L) (v1:=.int .i64 O) (v2:=.int .i64 P) (v3:=.int .i64 m.clock) (v4:=vr) (v5:=vw) (v6:=vb) (v7:=vl) l4
 obtain ⟨⟨s0,s1,s2,s3,s4,s5,s6,s7⟩,_⟩:=aG (lB (show w.heap[b4]?=some (jY #[.int .i64 0,.int .i64 0,.int .i64 0,.int .i64 0,.slice none 0 0,.slice none 0 0,.slice none 0 0,.slice none 0 0] 63 (0,0)) from hb) (.int .i64 L) (.int .i64 O) (.int .i64 P) (.int .i64 m.clock) vr vw vb vl)
 generalize Of.b8 w b4 (.int .i64 L) (.int .i64 O) (.int .i64 P) (.int .i64 m.clock) vr vw vb vl=W at *
 have VC:tm[4]?.getD I'=.pointer (some ⟨b4,0,none⟩):=by rw [<-r_];exact h4
 have VB:tm[5]?.getD I'=.string ⟨t.toArray⟩:=by rw [<-r_];exact h5
 refine bodyPost_ret (v:=.tuple #[jD L O P m.clock vr vw vb vl,.string ⟨t.toArray⟩]) (by simp [results,EJ,go_sem,jD,VC,VB,s0,s1,s2,s3,s4,s5,s6,s7]) rfl ?_
 exact ⟨vr,vw,vb,rfl,hR,hF,rr,rb⟩
theorem Lj {t:Bs} (gv:m.clock=ck) (R:bA B m vr vw vb w) (hF:bg r0 b0 w0 w) (rr:∀g,g<w0.heap.size->vr.ownBlock=some g->r0.ownBlock=some g) (rb:∀g,g<w0.heap.size->vb.ownBlock=some g->b0.ownBlock=some g) (hb:w.heap[b4]?=some (.cells ia 63 (0,0))) (l4:w0.heap.size<=b4)
 (EJ:fn.results=#[.cell 4 63,.tmp 5]) (h4:tm.getD 4 I'=.pointer (some ⟨b4,0,none⟩)) (h5:tm.getD 5 I'=.string ⟨t.toArray⟩):
 bodyPost p_ fn (Done w0 r0 b0 B m L O P vl t) .ret ⟨tm,[]⟩ (Of.b8 w b4 (.int .i64 L) (.int .i64 O) (.int .i64 P) (.int .i64 ck) vr vw vb vl):=by
 subst gv
 exact zB R hF rr rb hb l4 EJ h4 h5
theorem Cz {vw:M'} (R:bA B m vr vw vb w) (hn:m.recs.length<=100) (L9:m.wait.length<=100) (QO:m.back.length<=100) (mP:∃a n c,vl=.slice a n c) (c:Int):
 d_ p_ 85 #[jD L O P m.clock vr vw vb vl,.int .i64 c] w (Done w vr vb B (lv m c).1 L O P vl (lv m c).2):=by
 obtain ⟨al,bM,cl,rfl⟩:=mP
 obtain ⟨ab,cb,oK⟩:=aE R.back
 subst oK
 obtain ⟨ar,cr,ql⟩:=aE R.recs
 subst ql
 obtain ⟨gw,cw,qG,KC,yN⟩:=fV R.wait R.iQ
 subst qG
 obtain ⟨w1,cf⟩:∃w1,(w.alloc (.cells (gi L O P m.clock (.slice ar m.recs.length cr) (.slice (some ⟨gw,0,none⟩) m.wait.length cw) (.slice ab m.back.length cb) (.slice al bM cl)) 63)).alloc (.cells ia 63)=w1:=⟨_,rfl⟩
 have lr:f_ (w1.heap.size=w.heap.size+2):=by rw [f_,<-cf,B_,B_]
 have eo:g_ w.heap.size w w1:=by rw [<-cf];exact ((h_ _ _).alloc (C_ _) _).alloc (by rw [B_];omega) _
 have jx:w1.heap[w.heap.size]?=some (.cells (gi L O P m.clock (.slice ar m.recs.length cr) (.slice (some ⟨gw,0,none⟩) m.wait.length cw) (.slice ab m.back.length cb) (.slice al bM cl)) 63 (0,0)):=by rw [<-cf];exact br (Z' w _)
 have sH:w1.heap[w.heap.size+1]?=some (.cells ia 63 (0,0)):=by
  have:=Z' (w.alloc (.cells (gi L O P m.clock (.slice ar m.recs.length cr) (.slice (some ⟨gw,0,none⟩) m.wait.length cw) (.slice ab m.back.length cb) (.slice al bM cl)) 63)) (.cells ia 63)
  rw [B_,cf] at this
  exact this
 have F1:=aa (gO.start R eo jx sH (C_ _) (by omega) (by omega))
 obtain ⟨⟨e0,e1,e2,e3,e4,e5,e6,e7⟩,f0,f1,f2,f3,f4,f5,f6,f7⟩:=aG jx
 obtain ⟨⟨x0,x1,x2,x3,x4,x5,x6,x7⟩,y0,y1,y2,y3,y4,y5,y6,y7⟩:=aG (show w1.heap[w.heap.size+1]?=some (jY #[.int .i64 0,.int .i64 0,.int .i64 0,.int .i64 0,.slice none 0 0,.slice none 0 0,.slice none 0 0,.slice none 0 0] 63 (0,0)) from sH)
 have CX:m.recs.length<=1000:=by omega
 have qo:m.wait.length<=1000:=by omega
 have KF:m.back.length<=1000:=by omega
 have lA:=nO F1.out.room.rd.1 CX c
 clear R eo jx sH
 unfold gi ia at cf
 unfold jD
 cases hop:dE m.recs c with
 |some i=>
  obtain ⟨QZ,ml⟩:=pV hop
  rw [QZ] at lA
  obtain ⟨gr,VN,ql,Vd,z0,z1,z2,z3,z4,z5,z6⟩:=nH F1.out.room.rd.1 ml
  injection ql with i1 i2 i3
  subst i1 i3
  have vI:(0:Int)<=(i:Int):=by omega
  have QY:(i:Int)<(m.recs.length:Int):=by omega
  have hE:f_ (∀q:Bs,d_ p_ 116 #[.agg #[.int .i64 L,.int .i64 O,.int .i64 P,.int .i64 m.clock,.slice (some ⟨gr,0,none⟩) m.recs.length cr,.slice (some ⟨gw,0,none⟩) m.wait.length cw,.slice ab m.back.length cb,.slice al bM cl],.int .i64 (i:Nat),.string ⟨q.toArray⟩] w1 fun e w'=>∃jA,e=.returned (jD L O P m.clock (.slice (some ⟨gr,0,none⟩) m.recs.length cr) jA (.slice ab m.back.length cb) (.slice al bM cl))/\bA B (jJ m i q) (.slice (some ⟨gr,0,none⟩) m.recs.length cr) jA (.slice ab m.back.length cb) w'/\bg (.slice (some ⟨gr,0,none⟩) m.recs.length cr) (.slice none 0 0) w1 w'/\(∀g,jA.ownBlock=some g->w1.heap.size<=g)):=fun q=>xm F1.out.room ml CX qo ⟨_,_,_,rfl⟩ q
  have Vf:f_ (∀q:Bs,(jJ m i q).clock=m.clock):=fun q=>by rw [sM ml]
  have vH:f_ (m.recs[i]?=some m.recs[i]):=G_ ml
  clear z0 z1 z3 z4 z5 z6 QZ
  have hop:=aa hop
  generalize m.recs[i]=r at z2 vH
  by_cases iq:r.op>0
  ·have hR:f_ (lv m c=(jJ m i iy,iy)):=by rw [f_];unfold lv;rw [hop.out];simp only;rw [vH.out];simp only;rw [if_pos iq]
   have hp:0<r.op:=iq
   have hE1:f_ (d_ p_ 116 #[.agg #[.int .i64 L,.int .i64 O,.int .i64 P,.int .i64 m.clock,.slice (some ⟨gr,0,none⟩) m.recs.length cr,.slice (some ⟨gw,0,none⟩) m.wait.length cw,.slice ab m.back.length cb,.slice al bM cl],.int .i64 (i:Nat),.string ⟨#[100,111,110,101]⟩] w1 fun e w'=>∃jA,e=.returned (jD L O P m.clock (.slice (some ⟨gr,0,none⟩) m.recs.length cr) jA (.slice ab m.back.length cb) (.slice al bM cl))/\bA B (jJ m i iy) (.slice (some ⟨gr,0,none⟩) m.recs.length cr) jA (.slice ab m.back.length cb) w'/\bg (.slice (some ⟨gr,0,none⟩) m.recs.length cr) (.slice none 0 0) w1 w'/\(∀g,jA.ownBlock=some g->w1.heap.size<=g)):=hE.out iy
   go_enter func85,ntmps85
   go_wp2_with (first|(go_at_call 110;(with_reducible refine lA.mono ?_);rintro e w3 ⟨rfl,rfl⟩)|(go_at_call 116;(with_reducible refine hE1.out.mono ?_);rintro e w2 ⟨N3,rfl,R2,nj,Iv⟩;obtain ⟨ID,IC,rn⟩:=aE R2.wait;subst rn;have uI:=aa ((nj.block _ F1.out.Qf F1.out.oB.2.1 (fun e=>by cases e)).trans F1.out.res);obtain ⟨⟨p0,p1,p2,p3,p4,p5,p6,p7⟩,s0,s1,s2,s3,s4,s5,s6,s7⟩:=aG (show w2.heap[w.heap.size+1]?=some (jY #[.int .i64 0,.int .i64 0,.int .i64 0,.int .i64 0,.slice none 0 0,.slice none 0 0,.slice none 0 0,.slice none 0 0] 63 (0,0)) from uI.out);have DD:=aa R2;have nj:=aa nj;unfold jD;clear R2 Iv))
   change bodyPost p_ f85 _ .ret _ (Of.b8 _ (w.heap.size+1) (.int .i64 L) (.int .i64 O) (.int .i64 P) (.int .i64 m.clock) (.slice (some ⟨gr,0,none⟩) m.recs.length cr) _ (.slice ab m.back.length cb) (.slice al bM cl))
   rw [hR.out]
   refine Lj (Vf.out iy) DD.out (F1.out.fr.then nj.out F1.out.rr (fun g _ e=>by cases e)) F1.out.rr F1.out.rb uI.out (Nat.le_succ _) ?_ ?_ ?_<;>rfl
  ·have hR:f_ (lv m c=(jJ m i ie,ie)):=by rw [f_];unfold lv;rw [hop.out];simp only;rw [vH.out];simp only;rw [if_neg iq]
   have hp:¬0<r.op:=iq
   have hE1:f_ (d_ p_ 116 #[.agg #[.int .i64 L,.int .i64 O,.int .i64 P,.int .i64 m.clock,.slice (some ⟨gr,0,none⟩) m.recs.length cr,.slice (some ⟨gw,0,none⟩) m.wait.length cw,.slice ab m.back.length cb,.slice al bM cl],.int .i64 (i:Nat),.string ⟨#[108,101,102,116]⟩] w1 fun e w'=>∃jA,e=.returned (jD L O P m.clock (.slice (some ⟨gr,0,none⟩) m.recs.length cr) jA (.slice ab m.back.length cb) (.slice al bM cl))/\bA B (jJ m i ie) (.slice (some ⟨gr,0,none⟩) m.recs.length cr) jA (.slice ab m.back.length cb) w'/\bg (.slice (some ⟨gr,0,none⟩) m.recs.length cr) (.slice none 0 0) w1 w'/\(∀g,jA.ownBlock=some g->w1.heap.size<=g)):=hE.out ie
   go_enter func85,ntmps85
   go_wp2_with (first|(go_at_call 110;(with_reducible refine lA.mono ?_);rintro e w3 ⟨rfl,rfl⟩)|(go_at_call 116;(with_reducible refine hE1.out.mono ?_);rintro e w2 ⟨N3,rfl,R2,nj,Iv⟩;obtain ⟨ID,IC,rn⟩:=aE R2.wait;subst rn;have uI:=aa ((nj.block _ F1.out.Qf F1.out.oB.2.1 (fun e=>by cases e)).trans F1.out.res);obtain ⟨⟨p0,p1,p2,p3,p4,p5,p6,p7⟩,s0,s1,s2,s3,s4,s5,s6,s7⟩:=aG (show w2.heap[w.heap.size+1]?=some (jY #[.int .i64 0,.int .i64 0,.int .i64 0,.int .i64 0,.slice none 0 0,.slice none 0 0,.slice none 0 0,.slice none 0 0] 63 (0,0)) from uI.out);have DD:=aa R2;have nj:=aa nj;unfold jD;clear R2 Iv))
   change bodyPost p_ f85 _ .ret _ (Of.b8 _ (w.heap.size+1) (.int .i64 L) (.int .i64 O) (.int .i64 P) (.int .i64 m.clock) (.slice (some ⟨gr,0,none⟩) m.recs.length cr) _ (.slice ab m.back.length cb) (.slice al bM cl))
   rw [hR.out]
   refine Lj (Vf.out ie) DD.out (F1.out.fr.then nj.out F1.out.rr (fun g _ e=>by cases e)) F1.out.rr F1.out.rb uI.out (Nat.le_succ _) ?_ ?_ ?_<;>rfl
 |none=>
  rw [zg hop] at lA
  have vO:=xl F1.out.room.rd.2.2 KF c
  by_cases Gh:kG m.back c= -1
  ·have Md:im m c=false:=by
    cases hx:im m c with
    |false=>rfl
    |true=>exact absurd Gh ((lU m c).1 hx)
   have hR:f_ (lv m c=(m,Da)):=by rw [f_];unfold lv;rw [hop];simp only;rw [if_neg (by simp [Md])]
   rw [Gh] at vO
   clear hop Md Gh
   go_enter func85,ntmps85
   go_wp2_with (first|(go_at_call 110;(with_reducible refine lA.mono ?_);rintro e w3 ⟨rfl,rfl⟩)|(go_at_call 111;(with_reducible refine vO.mono ?_);rintro e w3 ⟨rfl,rfl⟩))
   change bodyPost p_ f85 _ .ret _ (Of.b8 _ (w.heap.size+1) (.int .i64 L) (.int .i64 O) (.int .i64 P) (.int .i64 m.clock) (.slice ar m.recs.length cr) (.slice (some ⟨gw,0,none⟩) m.wait.length cw) (.slice ab m.back.length cb) (.slice al bM cl))
   rw [hR.out];refine gO.ends F1.out ?_ ?_ ?_<;>rfl
  ·have Md:im m c=true:=(lU m c).2 Gh
   have hR:f_ (lv m c=({m with back:=aJ m.back c},JC)):=by rw [f_];unfold lv;rw [hop];simp only;rw [if_pos Md]
   obtain ⟨vI,hlt⟩:=zx _ _ Gh
   have Fg:f_ (d_ p_ 115 #[(.slice ab m.back.length cb),.int .i64 c] w1 fun e w'=>∃u,e=.returned u/\w'.ownsRow w1.heap.size 114 2 u (aJ m.back c).length (ax (aJ m.back c))/\g_ w1.heap.size w1 w'/\∃g,u.ownBlock=some g):=jR F1.out.room.rd.2.2 F1.out.room.nN.2.2 KF c
   generalize kG m.back c=fi at vO vI hlt Gh
   clear hop Md
   go_enter func85,ntmps85
   go_wp2_with (first|(go_at_call 110;(with_reducible refine lA.mono ?_);rintro e w3 ⟨rfl,rfl⟩)|(go_at_call 111;(with_reducible refine vO.mono ?_);rintro e w3 ⟨rfl,rfl⟩)|(go_at_call 115;(with_reducible refine Fg.out.mono ?_);rintro e w9 ⟨u,rfl,nS,vJ,_⟩;obtain ⟨aq,cq,Qv⟩:=aE nS;subst Qv;have F9:=aa (F1.out.below vJ);have SS:=aa (F1.out.O6 vJ nS);obtain ⟨⟨l0,l1,l2,l3,l4,l5,l6,l7⟩,j0,j1,j2,j3,j4,j5,j6,j7⟩:=aG F9.out.box;obtain ⟨⟨p0,p1,p2,p3,p4,p5,p6,p7⟩,s0,s1,s2,s3,s4,s5,s6,s7⟩:=aG (show w9.heap[w.heap.size+1]?=some (jY #[.int .i64 0,.int .i64 0,.int .i64 0,.int .i64 0,.slice none 0 0,.slice none 0 0,.slice none 0 0,.slice none 0 0] 63 (0,0)) from F9.out.res);clear nS vJ))
   change bodyPost p_ f85 _ .ret _ (Of.b8 _ (w.heap.size+1) (.int .i64 L) (.int .i64 O) (.int .i64 P) (.int .i64 m.clock) (.slice ar m.recs.length cr) (.slice (some ⟨gw,0,none⟩) m.wait.length cw) _ (.slice al bM cl))
   rw [hR.out];refine gO.ends SS.out ?_ ?_ ?_<;>rfl
end
end Go.aC.Of
