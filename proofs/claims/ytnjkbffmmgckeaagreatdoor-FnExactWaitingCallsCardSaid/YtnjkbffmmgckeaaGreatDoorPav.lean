/-
  The reference's regions that draw: l6Answers' answer, l6Returns' record and answer.
-/
import Derived.Test.YtnjkbffmmgckeaaGreatDoorPaa
import Derived.Test.YtnjkbffmmgckeaaGreatDoorPag
import Derived.Test.YtnjkbffmmgckeaaGreatDoorPau
set_option linter.all false
set_option maxRecDepth 100000
set_option maxHeartbeats 32000000
open Go renaming undef->I',World->J',Value->M',heap_alloc_new->Z',heap_setCell_other->a_,Calls->d_
open Go.RowKit renaming Hid->f_,Below->g_
open Go.RowKit.Below renaming refl->h_
open Option renaming getD_some->A_
open Go.World renaming size_alloc->B_,grownBy_alloc->N_
open Nat renaming le_refl->C_
open Array renaming replicate->F_,getD_eq_getD_getElem?->r_
open List renaming getElem?_eq_getElem->G_,map_cons->S_
open Go.Lib renaming itoa->L_
open Go.Proofs.Tryz renaming prog->p_
open Go.Proofs.Tryz
namespace Go.aC.Of
section
open Go Go.Conc Go.Conc.Lib Go.ConcR Go.ConcR.Gen Go.aC Go.Proofs
open Go.RowKit hiding Hid
open Go.ConcN (upd upd_ne upd_same)
noncomputable def LA:Code:=f83.body.getD .skip
noncomputable def Bq:Code:=f84.body.getD .skip
noncomputable def Pd:Code:=ai 7 LA
structure VW (w1:J') (b4:Nat) (L O P ck:Int) (ar aw ab al:Option Addr) (nr cr nw cw nb cb bM cl:Nat) (D:Array Bool) (_:Unit) (w:J'):Prop where
 o:D.getD 5 false=true->D.getD 3 false=true/\D.getD 0 false=true
 o3:D.getD 3 false=true->D.getD 2 false=true
 b:D.getD 5 false=false->g_ w1.heap.size w1 w
 c:D.getD 5 false=true->∃w5,g_ w1.heap.size w1 w5/\w=Of.b8 w5 b4 (.int .i64 L) (.int .i64 O) (.int .i64 P) (.int .i64 ck) (.slice ar nr cr) (.slice aw nw cw) (.slice ab nb cb) (.slice al bM cl)
variable {b4 nr cr nw cw nb cb bM cl:Nat} {L O P ck:Int} {ar aw ab al:Option Addr} {w:J'}
theorem VW.same {w1:J'} {D D':Array Bool} {q:Unit} (h:VW w1 b4 L O P ck ar aw ab al nr cr nw cw nb cb bM cl D q w) {i:Nat} (qn:∀j,j≠i->D'.getD j false=D.getD j false) (hi:i∉[0,2,3,5]):VW w1 b4 L O P ck ar aw ab al nr cr nw cw nb cb bM cl D' q w:=by
 have e0:=qn 0 (fun e=>hi (by simp [<-e]))
 have e2:=qn 2 (fun e=>hi (by simp [<-e]))
 have e3:=qn 3 (fun e=>hi (by simp [<-e]))
 have e5:=qn 5 (fun e=>hi (by simp [<-e]))
 exact ⟨by rw [e5,e3,e0];exact h.o,by rw [e3,e2];exact h.o3,by rw [e5];exact h.b,by rw [e5];exact h.c⟩
def BS (bx:Nat) (l:Int) (L O P ck:Int) (ar aw ab al:Option Addr) (nr cr nw cw nb cb bM cl:Nat) (_:Unit):Nat->M'
 |0=>.agg #[.int .i64 L,.int .i64 O,.int .i64 P,.int .i64 ck,.slice ar nr cr,.slice aw nw cw,.slice ab nb cb,.slice al bM cl]
 |1=>.pointer (some ⟨bx,0,none⟩)
 |2=>.int .i64 l
 |3=>.string ⟨(L_ l).toArray⟩
 |4=>.string ⟨(dL++L_ l).toArray⟩
 |6=>.string ⟨(dL++L_ l).toArray⟩
 |_=>I'
variable {b2 bx:Nat} {l:Int} {z0 z1 z3 z5 z8 z9 dB cZ de dn dm dk dj dA dz dD dC dM dQ dK dP dO dV ey ew eu eK eJ eI eH eQ eN en iu:M'} {Q:Exit->Act->J'->Prop}
theorem MG (lF:w.heap[b2]?=some (.cells #[.int .i64 L,.int .i64 O,.int .i64 P,.int .i64 ck,.slice ar nr cr,.slice aw nw cw,.slice ab nb cb,.slice al bM cl] 63 (0,0))) (FQ:w.heap[b4]?=some (.cells #[.int .i64 0,.int .i64 0,.int .i64 0,.int .i64 0,.slice none 0 0,.slice none 0 0,.slice none 0 0,.slice none 0 0] 63 (0,0))) (uN:bx<w.heap.size) (uK:w.cell? ⟨bx,0,none⟩=some (.int .i64 l)) (Mb:0<=l) (Iv:l<=1000000000) {z7 z12 z20 z21 z22 z23 z24 z25 z26 z28 z31 z37 z40 z46 z49 z51 z53:M'}
 (hQ:∀w5 (Oi Oh Ju Jt Js:M'),g_ w.heap.size w w5->Q .normal ⟨#[z0,z1,.pointer (some ⟨b2,0,none⟩),z3,.pointer (some ⟨b4,0,none⟩),.string ⟨(dL++L_ l).toArray⟩,.pointer (some ⟨bx,0,none⟩),z7,z8,z9,dB,cZ,z12,de,dn,dm,dk,dj,dA,dz,z20,z21,z22,z23,z24,z25,z26,dD,z28,dC,dM,z31,dQ,dK,dP,dO,dV,z37,ey,ew,z40,eu,eK,eJ,eI,eH,z46,eQ,eN,Oi,Oh,Ju,Jt,Js],[]⟩ (Of.b8 w5 b4 (.int .i64 L) (.int .i64 O) (.int .i64 P) (.int .i64 ck) (.slice ar nr cr) (.slice aw nw cw) (.slice ab nb cb) (.slice al bM cl))):
 Code.wp p_ Pd Q ⟨#[z0,z1,.pointer (some ⟨b2,0,none⟩),z3,.pointer (some ⟨b4,0,none⟩),z5,.pointer (some ⟨bx,0,none⟩),z7,z8,z9,dB,cZ,z12,de,dn,dm,dk,dj,dA,dz,z20,z21,z22,z23,z24,z25,z26,dD,z28,dC,dM,z31,dQ,dK,dP,dO,dV,z37,ey,ew,z40,eu,eK,eJ,eI,eH,z46,eQ,eN,z49,en,z51,iu,z53],[]⟩ w:=by
 have OT:(L_ l).length<=21:=Lib.itoa_length_le l (by omega) (by omega)
 obtain ⟨w1,cf⟩:∃w1,w.drew=w1:=⟨_,rfl⟩
 have sD:f_ (∀w5,g_ w1.heap.size w1 w5->g_ w.heap.size w w5):=fun w5 h=>by rw [<-cf] at h;exact (h_ _ _).drew.trans h
 replace lF:w1.heap[b2]?=some (.cells #[.int .i64 L,.int .i64 O,.int .i64 P,.int .i64 ck,.slice ar nr cr,.slice aw nw cw,.slice ab nb cb,.slice al bM cl] 63 (0,0)):=by rw [<-cf];exact lF
 replace FQ:w1.heap[b4]?=some (.cells #[.int .i64 0,.int .i64 0,.int .i64 0,.int .i64 0,.slice none 0 0,.slice none 0 0,.slice none 0 0,.slice none 0 0] 63 (0,0)):=by rw [<-cf];exact FQ
 replace uN:bx<w1.heap.size:=by rw [<-cf];exact uN
 replace uK:w1.cell? ⟨bx,0,none⟩=some (.int .i64 l):=by rw [<-cf];exact uK
 generalize cn:(#[z0,z1,.pointer (some ⟨b2,0,none⟩),z3,.pointer (some ⟨b4,0,none⟩),z5,.pointer (some ⟨bx,0,none⟩),z7,z8,z9,dB,cZ,z12,de,dn,dm,dk,dj,dA,dz,z20,z21,z22,z23,z24,z25,z26,dD,z28,dC,dM,z31,dQ,dK,dP,dO,dV,z37,ey,ew,z40,eu,eK,eJ,eI,eH,z46,eQ,eN,z49,en,z51,iu,z53]:Array M')=bs
 have oq:bs.size=54:=by rw [<-cn];rfl
 have HI:∀t,bs.getD t I'=(#[z0,z1,.pointer (some ⟨b2,0,none⟩),z3,.pointer (some ⟨b4,0,none⟩),z5,.pointer (some ⟨bx,0,none⟩),z7,z8,z9,dB,cZ,z12,de,dn,dm,dk,dj,dA,dz,z20,z21,z22,z23,z24,z25,z26,dD,z28,dC,dM,z31,dQ,dK,dP,dO,dV,z37,ey,ew,z40,eu,eK,eJ,eI,eH,z46,eQ,eN,z49,en,z51,iu,z53]:Array M').getD t I':=fun t=>by rw [cn]
 simp only [Pd,ai,LA,f83,A_]
 refine mz (by kernel_rfl) (kP:=()) (base:=bs) (by rw [oq];kernel_rfl) (by kernel_rfl) (fun x=>BS bx l L O P ck ar aw ab al nr cr nw cw nb cb bM cl x) (VW w1 b4 L O P ck ar aw ab al nr cr nw cw nb cb bM cl)
  (by
   have hf:∀j,(F_ 7 false).getD j false=false:=fun j=>by simp [Array.getD]
   have hx:∀{j:Nat} {p:Prop},(F_ 7 false).getD j false=true->p:=fun {j p} h=>by rw [hf] at h;cases h
   exact ⟨fun h=>hx h,fun h=>hx h,fun _=>by rw [cf];exact h_ _ _,fun h=>hx h⟩) ?_ ?_
 ·intro i o' ho D x w a hD bc hw bH aD K k
  have hlt:i<7:=(cI ho)
  have Gl:∀t,t<54->t<bs.size:=fun t ht=>by rw [oq];exact ht
  have qi:(D.setIfInBounds i true).getD i false=true:=by rw [bq,if_pos ⟨rfl,by rw [hD];exact hlt⟩]
  have qn:∀j,j≠i->(D.setIfInBounds i true).getD j false=D.getD j false:=fun j hj=>by rw [bq,if_neg fun e=>hj e.1.symm]
  have aA:=aa k
  clear k
  obtain rfl|rfl|rfl|rfl|rfl|rfl|rfl:i=0\/i=1\/i=2\/i=3\/i=4\/i=5\/i=6:=by omega
  ·obtain rfl:=so ho rfl
   obtain ⟨v2,w2⟩:=bc.oo (.pointer (some ⟨b2,0,none⟩)) 2
   clear aD ho
   have e0:=qi
   have e2:=qn 2 (by decide)
   have e3:=qn 3 (by decide)
   have e5:=qn 5 (by decide)
   have h5:D.getD 5 false=false:=by
    cases hx:D.getD 5 false with
    |false=>rfl
    |true=>rw [(hw.o hx).2] at bH;cases bH
   have gb:=hw.b h5
   obtain ⟨⟨p0,p1,p2,p3,p4,p5,p6,p7⟩,_⟩:=aG ((gb.block b2 (cI lF)).trans lF)
   refine bj (v:=.agg #[.int .i64 L,.int .i64 O,.int .i64 P,.int .i64 ck,.slice ar nr cr,.slice aw nw cw,.slice ab nb cb,.slice al bM cl]) (w':=w) rfl rfl ?_ (aA.out x w (fun _ _=>rfl) ⟨by rw [e5,h5];exact fun h=>(by cases h),by rw [e3,e2];exact hw.o3,by rw [e5];exact hw.b,by rw [e5];exact hw.c⟩)
   clear bc hw aA bH qi qn e0 e2 e3 e5 gb
   go_simp
  ·obtain rfl:=so ho rfl
   obtain ⟨v6,w6⟩:=bc.oo (.pointer (some ⟨bx,0,none⟩)) 6
   clear aD ho
   exact iY rfl (.pointer (some ⟨bx,0,none⟩)) (aA.out x w (fun _ _=>rfl) (hw.same qn (by decide)))
  ·obtain rfl:=so ho rfl
   obtain ⟨v50,w50⟩:=bc.vv (.pointer (some ⟨bx,0,none⟩)) 50 1 (dq aD 1)
   clear aD ho
   have e0:=qn 0 (by decide)
   have e2:=qi
   have e3:=qn 3 (by decide)
   have e5:=qn 5 (by decide)
   have h3:D.getD 3 false=false:=by
    cases hx:D.getD 3 false with
    |false=>rfl
    |true=>rw [hw.o3 hx] at bH;cases bH
   have h5:D.getD 5 false=false:=by
    cases hx:D.getD 5 false with
    |false=>rfl
    |true=>rw [(hw.o hx).1] at h3;cases h3
   have gb:=hw.b h5
   have hl:w.cell? ⟨bx,0,none⟩=some (.int .i64 l):=(gb.cell (p:=⟨bx,0,none⟩) uN).trans uK
   refine bj (v:=.int .i64 l) (w':=w) rfl rfl ?_ (aA.out x w (fun _ _=>rfl) ⟨by rw [e5,h5];exact fun h=>(by cases h),by rw [e3,h3];exact fun h=>(by cases h),by rw [e5];exact hw.b,by rw [e5];exact hw.c⟩)
   clear bc hw aA bH qi qn e0 e2 e3 e5 gb
   go_simp
  ·obtain rfl:=so ho rfl
   have d2:=dq aD 2
   obtain ⟨v51,XP⟩:=bc.vv (.int .i64 l) 51 2 d2
   clear aD ho
   have e0:=qn 0 (by decide)
   have e2:=qn 2 (by decide)
   have e3:=qi
   have e5:=qn 5 (by decide)
   have h5:D.getD 5 false=false:=by
    cases hx:D.getD 5 false with
    |false=>rfl
    |true=>rw [(hw.o hx).1] at bH;cases bH
   have gb:=hw.b h5
   have sY:=lp l w Mb Iv
   unfold wpOp
   simp only [List.getElem?_toArray,List.getElem?_cons_succ,List.getElem?_cons_zero,Region.wanted,if_true,Option.isNone_none]
   left
   unfold Oper.wp
   simp only [execOp,resolve,invoke,Sem.run_bind,Sem.run_pure,Result.andThen_ok,List.map_toArray,S_,List.map_nil,v51]
   refine (sY.mono ?_)
   rintro e w5 ⟨rfl,qo⟩
   exact aA.out x w5 (fun _ _=>rfl) ⟨by rw [e5,h5];exact fun h=>(by cases h),fun _=>by rw [e2];exact d2,fun _=>gb.trans (qo.mono gb.size),by rw [e5,h5];exact fun h=>(by cases h)⟩
  ·obtain rfl:=so ho rfl
   have d3:=dq aD 3
   obtain ⟨v52,V9⟩:=bc.vv (.string ⟨(L_ l).toArray⟩) 52 3 d3
   clear aD ho
   refine bj (v:=.string ⟨(dL++L_ l).toArray⟩) (w':=w) rfl rfl ?_ (aA.out x w (fun _ _=>rfl) (hw.same qn (by decide)))
   clear bc hw aA bH qi qn
   rw [<-vQ]
   unfold dL
   go_simp
   omega
  ·obtain rfl:=so ho rfl
   have d0:=dq aD 0
   have d3:=aD ⟨3,.chain⟩ (by simp) rfl
   obtain ⟨v49,Wa⟩:=bc.vv (.agg #[.int .i64 L,.int .i64 O,.int .i64 P,.int .i64 ck,.slice ar nr cr,.slice aw nw cw,.slice ab nb cb,.slice al bM cl]) 49 0 d0
   obtain ⟨v4,w4⟩:=bc.oo (.pointer (some ⟨b4,0,none⟩)) 4
   clear aD ho
   have e0:=qn 0 (by decide)
   have e2:=qn 2 (by decide)
   have e3:=qn 3 (by decide)
   have e5:=qi
   have gb:=hw.b bH
   obtain ⟨⟨p0,p1,p2,p3,p4,p5,p6,p7⟩,q0,q1,q2,q3,q4,q5,q6,q7⟩:=aG ((gb.block b4 (cI FQ)).trans FQ)
   refine gQ (w':=Of.b8 w b4 (.int .i64 L) (.int .i64 O) (.int .i64 P) (.int .i64 ck) (.slice ar nr cr) (.slice aw nw cw) (.slice ab nb cb) (.slice al bM cl)) rfl rfl ?_ (aA.out x _ (fun _ _=>rfl) ⟨fun _=>by rw [e3,e0];exact ⟨d3,d0⟩,by rw [e3,e2];exact hw.o3,by rw [e5];exact fun h=>(by cases h),fun _=>⟨w,gb,rfl⟩⟩)
   clear bc hw aA bH qi qn e0 e2 e3 e5 gb
   unfold Of.b8
   go_simp
  ·obtain rfl:=so ho rfl
   obtain ⟨v53,XO⟩:=bc.vv (.string ⟨(dL++L_ l).toArray⟩) 53 4 (dq aD 4)
   clear aD ho
   exact iY rfl (.string ⟨(dL++L_ l).toArray⟩) (aA.out x w (fun _ _=>rfl) (hw.same qn (by decide)))
 ·intro D x w hd hw
  obtain ⟨w5,qo,rfl⟩:=hw.c (hd 5 (by decide))
  have:=hQ w5 (.agg #[.int .i64 L,.int .i64 O,.int .i64 P,.int .i64 ck,.slice ar nr cr,.slice aw nw cw,.slice ab nb cb,.slice al bM cl]) (.pointer (some ⟨bx,0,none⟩)) (.int .i64 l) (.string ⟨(L_ l).toArray⟩) (.string ⟨(dL++L_ l).toArray⟩) (sD.out w5 qo)
  generalize bc:slotsOf _ bs (BS bx l L O P ck ar aw ab al nr cr nw cw nb cb bM cl ())=sl
  have eS:sl=#[z0,z1,.pointer (some ⟨b2,0,none⟩),z3,.pointer (some ⟨b4,0,none⟩),.string ⟨(dL++L_ l).toArray⟩,.pointer (some ⟨bx,0,none⟩),z7,z8,z9,dB,cZ,z12,de,dn,dm,dk,dj,dA,dz,z20,z21,z22,z23,z24,z25,z26,dD,z28,dC,dM,z31,dQ,dK,dP,dO,dV,z37,ey,ew,z40,eu,eK,eJ,eI,eH,z46,eQ,eN,.agg #[.int .i64 L,.int .i64 O,.int .i64 P,.int .i64 ck,.slice ar nr cr,.slice aw nw cw,.slice ab nb cb,.slice al bM cl],.pointer (some ⟨bx,0,none⟩),.int .i64 l,.string ⟨(L_ l).toArray⟩,.string ⟨(dL++L_ l).toArray⟩]:=by rw [<-bc,<-cn];kernel_rfl
  rw [eS]
  exact this
noncomputable def Pb:Code:=ai 6 Bq
def BR (bx:Nat) (l:Int) (L O P ck:Int) (ar aw ab al:Option Addr) (nr cr nw cw nb cb bM cl:Nat) (_:Unit):Nat->M'
 |0=>.agg #[.int .i64 L,.int .i64 O,.int .i64 P,.int .i64 ck,.slice ar nr cr,.slice aw nw cw,.slice ab nb cb,.slice al bM cl]
 |1=>.pointer (some ⟨bx,0,none⟩)
 |2=>.int .i64 l
 |3=>.string ⟨(L_ l).toArray⟩
 |4=>.string ⟨(dL++L_ l).toArray⟩
 |6=>.string ⟨(dL++L_ l).toArray⟩
 |_=>I'
variable {iF iE iD iC iB:M'}
theorem MF (lF:w.heap[b2]?=some (.cells #[.int .i64 L,.int .i64 O,.int .i64 P,.int .i64 ck,.slice ar nr cr,.slice aw nw cw,.slice ab nb cb,.slice al bM cl] 63 (0,0))) (FQ:w.heap[b4]?=some (.cells #[.int .i64 0,.int .i64 0,.int .i64 0,.int .i64 0,.slice none 0 0,.slice none 0 0,.slice none 0 0,.slice none 0 0] 63 (0,0))) (uN:bx<w.heap.size) (uK:w.cell? ⟨bx,0,none⟩=some (.int .i64 l)) (Mb:0<=l) (Iv:l<=1000000000) {z6 z12 z20 z21 z22 z23 z24 z25 z26 z28 z31 z37 z40 z46 z49 z51 z53:M'}
 (hQ:∀w5 (Jr Jq Og Oe Oc:M'),g_ w.heap.size w w5->Q .normal ⟨#[z0,z1,.pointer (some ⟨b2,0,none⟩),z3,.pointer (some ⟨b4,0,none⟩),.string ⟨(dL++L_ l).toArray⟩,z6,.pointer (some ⟨bx,0,none⟩),z8,z9,dB,cZ,z12,de,dn,dm,dk,dj,dA,dz,z20,z21,z22,z23,z24,z25,z26,dD,z28,dC,dM,z31,dQ,dK,dP,dO,dV,z37,ey,ew,z40,eu,eK,eJ,eI,eH,z46,eQ,eN,z49,en,z51,iu,z53,Jr,Jq,Og,Oe,Oc],[]⟩ (Of.b8 w5 b4 (.int .i64 L) (.int .i64 O) (.int .i64 P) (.int .i64 ck) (.slice ar nr cr) (.slice aw nw cw) (.slice ab nb cb) (.slice al bM cl))):
 Code.wp p_ Pb Q ⟨#[z0,z1,.pointer (some ⟨b2,0,none⟩),z3,.pointer (some ⟨b4,0,none⟩),z5,z6,.pointer (some ⟨bx,0,none⟩),z8,z9,dB,cZ,z12,de,dn,dm,dk,dj,dA,dz,z20,z21,z22,z23,z24,z25,z26,dD,z28,dC,dM,z31,dQ,dK,dP,dO,dV,z37,ey,ew,z40,eu,eK,eJ,eI,eH,z46,eQ,eN,z49,en,z51,iu,z53,iF,iE,iD,iC,iB],[]⟩ w:=by
 have OT:(L_ l).length<=21:=Lib.itoa_length_le l (by omega) (by omega)
 obtain ⟨w1,cf⟩:∃w1,w.drew=w1:=⟨_,rfl⟩
 have sD:f_ (∀w5,g_ w1.heap.size w1 w5->g_ w.heap.size w w5):=fun w5 h=>by rw [<-cf] at h;exact (h_ _ _).drew.trans h
 replace lF:w1.heap[b2]?=some (.cells #[.int .i64 L,.int .i64 O,.int .i64 P,.int .i64 ck,.slice ar nr cr,.slice aw nw cw,.slice ab nb cb,.slice al bM cl] 63 (0,0)):=by rw [<-cf];exact lF
 replace FQ:w1.heap[b4]?=some (.cells #[.int .i64 0,.int .i64 0,.int .i64 0,.int .i64 0,.slice none 0 0,.slice none 0 0,.slice none 0 0,.slice none 0 0] 63 (0,0)):=by rw [<-cf];exact FQ
 replace uN:bx<w1.heap.size:=by rw [<-cf];exact uN
 replace uK:w1.cell? ⟨bx,0,none⟩=some (.int .i64 l):=by rw [<-cf];exact uK
 generalize cn:(#[z0,z1,.pointer (some ⟨b2,0,none⟩),z3,.pointer (some ⟨b4,0,none⟩),z5,z6,.pointer (some ⟨bx,0,none⟩),z8,z9,dB,cZ,z12,de,dn,dm,dk,dj,dA,dz,z20,z21,z22,z23,z24,z25,z26,dD,z28,dC,dM,z31,dQ,dK,dP,dO,dV,z37,ey,ew,z40,eu,eK,eJ,eI,eH,z46,eQ,eN,z49,en,z51,iu,z53,iF,iE,iD,iC,iB]:Array M')=bs
 have oq:bs.size=59:=by rw [<-cn];rfl
 have HI:∀t,bs.getD t I'=(#[z0,z1,.pointer (some ⟨b2,0,none⟩),z3,.pointer (some ⟨b4,0,none⟩),z5,z6,.pointer (some ⟨bx,0,none⟩),z8,z9,dB,cZ,z12,de,dn,dm,dk,dj,dA,dz,z20,z21,z22,z23,z24,z25,z26,dD,z28,dC,dM,z31,dQ,dK,dP,dO,dV,z37,ey,ew,z40,eu,eK,eJ,eI,eH,z46,eQ,eN,z49,en,z51,iu,z53,iF,iE,iD,iC,iB]:Array M').getD t I':=fun t=>by rw [cn]
 simp only [Pb,ai,Bq,f84,A_]
 refine mz (by kernel_rfl) (kP:=()) (base:=bs) (by rw [oq];kernel_rfl) (by kernel_rfl) (fun x=>BR bx l L O P ck ar aw ab al nr cr nw cw nb cb bM cl x) (VW w1 b4 L O P ck ar aw ab al nr cr nw cw nb cb bM cl)
  (by
   have hf:∀j,(F_ 7 false).getD j false=false:=fun j=>by simp [Array.getD]
   have hx:∀{j:Nat} {p:Prop},(F_ 7 false).getD j false=true->p:=fun {j p} h=>by rw [hf] at h;cases h
   exact ⟨fun h=>hx h,fun h=>hx h,fun _=>by rw [cf];exact h_ _ _,fun h=>hx h⟩) ?_ ?_
 ·intro i o' ho D x w a hD bc hw bH aD K k
  have hlt:i<7:=(cI ho)
  have Gl:∀t,t<59->t<bs.size:=fun t ht=>by rw [oq];exact ht
  have qi:(D.setIfInBounds i true).getD i false=true:=by rw [bq,if_pos ⟨rfl,by rw [hD];exact hlt⟩]
  have qn:∀j,j≠i->(D.setIfInBounds i true).getD j false=D.getD j false:=fun j hj=>by rw [bq,if_neg fun e=>hj e.1.symm]
  have aA:=aa k
  clear k
  obtain rfl|rfl|rfl|rfl|rfl|rfl|rfl:i=0\/i=1\/i=2\/i=3\/i=4\/i=5\/i=6:=by omega
  ·obtain rfl:=so ho rfl
   obtain ⟨v2,w2⟩:=bc.oo (.pointer (some ⟨b2,0,none⟩)) 2
   clear aD ho
   have e0:=qi
   have e2:=qn 2 (by decide)
   have e3:=qn 3 (by decide)
   have e5:=qn 5 (by decide)
   have h5:D.getD 5 false=false:=by
    cases hx:D.getD 5 false with
    |false=>rfl
    |true=>rw [(hw.o hx).2] at bH;cases bH
   have gb:=hw.b h5
   obtain ⟨⟨p0,p1,p2,p3,p4,p5,p6,p7⟩,_⟩:=aG ((gb.block b2 (cI lF)).trans lF)
   refine bj (v:=.agg #[.int .i64 L,.int .i64 O,.int .i64 P,.int .i64 ck,.slice ar nr cr,.slice aw nw cw,.slice ab nb cb,.slice al bM cl]) (w':=w) rfl rfl ?_ (aA.out x w (fun _ _=>rfl) ⟨by rw [e5,h5];exact fun h=>(by cases h),by rw [e3,e2];exact hw.o3,by rw [e5];exact hw.b,by rw [e5];exact hw.c⟩)
   clear bc hw aA bH qi qn e0 e2 e3 e5 gb
   go_simp
  ·obtain rfl:=so ho rfl
   obtain ⟨v7,w7⟩:=bc.oo (.pointer (some ⟨bx,0,none⟩)) 7
   clear aD ho
   exact iY rfl (.pointer (some ⟨bx,0,none⟩)) (aA.out x w (fun _ _=>rfl) (hw.same qn (by decide)))
  ·obtain rfl:=so ho rfl
   obtain ⟨v55,XM⟩:=bc.vv (.pointer (some ⟨bx,0,none⟩)) 55 1 (dq aD 1)
   clear aD ho
   have e0:=qn 0 (by decide)
   have e2:=qi
   have e3:=qn 3 (by decide)
   have e5:=qn 5 (by decide)
   have h3:D.getD 3 false=false:=by
    cases hx:D.getD 3 false with
    |false=>rfl
    |true=>rw [hw.o3 hx] at bH;cases bH
   have h5:D.getD 5 false=false:=by
    cases hx:D.getD 5 false with
    |false=>rfl
    |true=>rw [(hw.o hx).1] at h3;cases h3
   have gb:=hw.b h5
   have hl:w.cell? ⟨bx,0,none⟩=some (.int .i64 l):=(gb.cell (p:=⟨bx,0,none⟩) uN).trans uK
   refine bj (v:=.int .i64 l) (w':=w) rfl rfl ?_ (aA.out x w (fun _ _=>rfl) ⟨by rw [e5,h5];exact fun h=>(by cases h),by rw [e3,h3];exact fun h=>(by cases h),by rw [e5];exact hw.b,by rw [e5];exact hw.c⟩)
   clear bc hw aA bH qi qn e0 e2 e3 e5 gb
   go_simp
  ·obtain rfl:=so ho rfl
   have d2:=dq aD 2
   obtain ⟨v56,XL⟩:=bc.vv (.int .i64 l) 56 2 d2
   clear aD ho
   have e0:=qn 0 (by decide)
   have e2:=qn 2 (by decide)
   have e3:=qi
   have e5:=qn 5 (by decide)
   have h5:D.getD 5 false=false:=by
    cases hx:D.getD 5 false with
    |false=>rfl
    |true=>rw [(hw.o hx).1] at bH;cases bH
   have gb:=hw.b h5
   have sY:=lp l w Mb Iv
   unfold wpOp
   simp only [List.getElem?_toArray,List.getElem?_cons_succ,List.getElem?_cons_zero,Region.wanted,if_true,Option.isNone_none]
   left
   unfold Oper.wp
   simp only [execOp,resolve,invoke,Sem.run_bind,Sem.run_pure,Result.andThen_ok,List.map_toArray,S_,List.map_nil,v56]
   refine (sY.mono ?_)
   rintro e w5 ⟨rfl,qo⟩
   exact aA.out x w5 (fun _ _=>rfl) ⟨by rw [e5,h5];exact fun h=>(by cases h),fun _=>by rw [e2];exact d2,fun _=>gb.trans (qo.mono gb.size),by rw [e5,h5];exact fun h=>(by cases h)⟩
  ·obtain rfl:=so ho rfl
   have d3:=dq aD 3
   obtain ⟨v57,XK⟩:=bc.vv (.string ⟨(L_ l).toArray⟩) 57 3 d3
   clear aD ho
   refine bj (v:=.string ⟨(dL++L_ l).toArray⟩) (w':=w) rfl rfl ?_ (aA.out x w (fun _ _=>rfl) (hw.same qn (by decide)))
   clear bc hw aA bH qi qn
   rw [<-vQ]
   unfold dL
   go_simp
   omega
  ·obtain rfl:=so ho rfl
   have d0:=dq aD 0
   have d3:=aD ⟨3,.chain⟩ (by simp) rfl
   obtain ⟨v54,XN⟩:=bc.vv (.agg #[.int .i64 L,.int .i64 O,.int .i64 P,.int .i64 ck,.slice ar nr cr,.slice aw nw cw,.slice ab nb cb,.slice al bM cl]) 54 0 d0
   obtain ⟨v4,w4⟩:=bc.oo (.pointer (some ⟨b4,0,none⟩)) 4
   clear aD ho
   have e0:=qn 0 (by decide)
   have e2:=qn 2 (by decide)
   have e3:=qn 3 (by decide)
   have e5:=qi
   have gb:=hw.b bH
   obtain ⟨⟨p0,p1,p2,p3,p4,p5,p6,p7⟩,q0,q1,q2,q3,q4,q5,q6,q7⟩:=aG ((gb.block b4 (cI FQ)).trans FQ)
   refine gQ (w':=Of.b8 w b4 (.int .i64 L) (.int .i64 O) (.int .i64 P) (.int .i64 ck) (.slice ar nr cr) (.slice aw nw cw) (.slice ab nb cb) (.slice al bM cl)) rfl rfl ?_ (aA.out x _ (fun _ _=>rfl) ⟨fun _=>by rw [e3,e0];exact ⟨d3,d0⟩,by rw [e3,e2];exact hw.o3,by rw [e5];exact fun h=>(by cases h),fun _=>⟨w,gb,rfl⟩⟩)
   clear bc hw aA bH qi qn e0 e2 e3 e5 gb
   unfold Of.b8
   go_simp
  ·obtain rfl:=so ho rfl
   obtain ⟨v58,V8⟩:=bc.vv (.string ⟨(dL++L_ l).toArray⟩) 58 4 (dq aD 4)
   clear aD ho
   exact iY rfl (.string ⟨(dL++L_ l).toArray⟩) (aA.out x w (fun _ _=>rfl) (hw.same qn (by decide)))
 ·intro D x w hd hw
  obtain ⟨w5,qo,rfl⟩:=hw.c (hd 5 (by decide))
  have:=hQ w5 (.agg #[.int .i64 L,.int .i64 O,.int .i64 P,.int .i64 ck,.slice ar nr cr,.slice aw nw cw,.slice ab nb cb,.slice al bM cl]) (.pointer (some ⟨bx,0,none⟩)) (.int .i64 l) (.string ⟨(L_ l).toArray⟩) (.string ⟨(dL++L_ l).toArray⟩) (sD.out w5 qo)
  generalize bc:slotsOf _ bs (BR bx l L O P ck ar aw ab al nr cr nw cw nb cb bM cl ())=sl
  have eS:sl=#[z0,z1,.pointer (some ⟨b2,0,none⟩),z3,.pointer (some ⟨b4,0,none⟩),.string ⟨(dL++L_ l).toArray⟩,z6,.pointer (some ⟨bx,0,none⟩),z8,z9,dB,cZ,z12,de,dn,dm,dk,dj,dA,dz,z20,z21,z22,z23,z24,z25,z26,dD,z28,dC,dM,z31,dQ,dK,dP,dO,dV,z37,ey,ew,z40,eu,eK,eJ,eI,eH,z46,eQ,eN,z49,en,z51,iu,z53,.agg #[.int .i64 L,.int .i64 O,.int .i64 P,.int .i64 ck,.slice ar nr cr,.slice aw nw cw,.slice ab nb cb,.slice al bM cl],.pointer (some ⟨bx,0,none⟩),.int .i64 l,.string ⟨(L_ l).toArray⟩,.string ⟨(dL++L_ l).toArray⟩]:=by rw [<-bc,<-cn];kernel_rfl
  rw [eS]
  exact this
noncomputable def R84:Code:=ai 5 Bq
def zQ (b2 bx gu nf cu:Nat) (m:Rm) (ar:Option Addr) (cr:Nat) (r:Rec) (op:Int) (x:Qr):Nat->M'
 |0=>.pointer (some ⟨b2,4,none⟩)
 |1=>.slice ar m.recs.length cr
 |2=>.pointer (some ⟨bx,0,none⟩)
 |3=>.int .i64 r.call
 |4=>.slice (some ⟨gu,0,none⟩) nf cu
 |5=>.pointer (some ⟨gu,0,none⟩)
 |6=>.int .i64 r.line
 |7=>.int .i64 op
 |8=>.pointer (some ⟨b2,3,none⟩)
 |9=>.int .i64 m.clock
 |10=>.pointer (some ⟨b2,3,none⟩)
 |11=>.int .i64 m.clock
 |12=>.agg #[.int .i64 r.call,.int .i64 r.line,.int .i64 op,.int .i64 m.clock,.int .i64 m.clock,.int .i64 (-1),.string ⟨#[111,112,101,110]⟩]
 |13=>.slice (some ⟨x.g,0,none⟩) 1 1
 |14=>x.u
 |15=>.pointer (some ⟨b2,4,none⟩)
 |_=>I'
variable {B:Nat} {m:Rm} {vb vl:M'}
theorem Tg {w0:J'} {r0 b0:M'} {vw:M'} {r:Rec} {gu nf cu:Nat} {op:Int} (hF:gO w0 r0 b0 B m L O P (.slice ar m.recs.length cr) vw vb vl b2 b4 w) (hn:m.recs.length<=1000) (hnf:0<nf) (Gk:nf<=cu) (mj:f_ (r.cells.toArray=#[.int .i64 r.call,.int .i64 r.line,.int .i64 op,.int .i64 m.clock,.int .i64 m.clock,.int .i64 (-1),.string ⟨#[111,112,101,110]⟩])) (h3:w.cell? ⟨bx,0,none⟩=some (.int .i64 r.call)) (mi:w.cell? ⟨gu,0,none⟩=some (.int .i64 r.line)) {z4 z12 z20 z21 z22 z23 z24 z25 z26 z28 z31 z37 z40 z46 z49 z51 z53:M'}
 (hQ:∀w' gg cap (Om TB TA Tz Ty Tx Tw Tv Tu Ol Oj Oi Oh Ju Jt Js:M'),gO w0 r0 b0 B {m with recs:=m.recs++[r]} L O P (.slice (some ⟨gg,0,none⟩) (m.recs.length+1) cap) vw vb vl b2 b4 w'->(∀g,g<w.heap.size->g≠b2->(Value.slice ar m.recs.length cr).ownBlock≠some g->w'.heap[g]?=w.heap[g]?)->Q .normal ⟨#[z0,.int .i64 op,.pointer (some ⟨b2,0,none⟩),z3,z4,z5,.slice (some ⟨gu,0,none⟩) nf cu,.pointer (some ⟨bx,0,none⟩),z8,z9,dB,cZ,z12,de,dn,dm,dk,dj,dA,dz,z20,z21,z22,z23,z24,z25,z26,dD,z28,dC,dM,z31,dQ,dK,dP,dO,dV,z37,Om,TB,TA,Tz,Ty,Tx,Tw,Tv,Tu,Ol,Oj,Oi,Oh,Ju,Jt,Js,iF,iE,iD,iC,iB],[]⟩ w'):
 Code.wp p_ R84 Q ⟨#[z0,.int .i64 op,.pointer (some ⟨b2,0,none⟩),z3,z4,z5,.slice (some ⟨gu,0,none⟩) nf cu,.pointer (some ⟨bx,0,none⟩),z8,z9,dB,cZ,z12,de,dn,dm,dk,dj,dA,dz,z20,z21,z22,z23,z24,z25,z26,dD,z28,dC,dM,z31,dQ,dK,dP,dO,dV,z37,ey,ew,z40,eu,eK,eJ,eI,eH,z46,eQ,eN,z49,en,z51,iu,z53,iF,iE,iD,iC,iB],[]⟩ w:=by
 have hF:=hF.drew
 have c3:w.drew.cell? ⟨b2,3,none⟩=some (.int .i64 m.clock):=(aG hF.box).1.2.2.2.1
 have c4:w.drew.cell? ⟨b2,4,none⟩=some (.slice ar m.recs.length cr):=(aG hF.box).1.2.2.2.2.1
 have h3:w.drew.cell? ⟨bx,0,none⟩=some (.int .i64 r.call):=h3
 have mi:w.drew.cell? ⟨gu,0,none⟩=some (.int .i64 r.line):=mi
 obtain ⟨w1,cf⟩:∃w1,w.drew=w1:=⟨_,rfl⟩
 have vC:f_ (∀g:Nat,w1.heap[g]?=w.heap[g]?/\w1.heap.size=w.heap.size):=fun g=>by rw [<-cf];exact ⟨rfl,rfl⟩
 rw [cf] at hF c3 c4 h3 mi
 generalize cn:(#[z0,.int .i64 op,.pointer (some ⟨b2,0,none⟩),z3,z4,z5,.slice (some ⟨gu,0,none⟩) nf cu,.pointer (some ⟨bx,0,none⟩),z8,z9,dB,cZ,z12,de,dn,dm,dk,dj,dA,dz,z20,z21,z22,z23,z24,z25,z26,dD,z28,dC,dM,z31,dQ,dK,dP,dO,dV,z37,ey,ew,z40,eu,eK,eJ,eI,eH,z46,eQ,eN,z49,en,z51,iu,z53,iF,iE,iD,iC,iB]:Array M')=bs
 have oq:bs.size=59:=by rw [<-cn];rfl
 have HI:∀t,bs.getD t I'=(#[z0,.int .i64 op,.pointer (some ⟨b2,0,none⟩),z3,z4,z5,.slice (some ⟨gu,0,none⟩) nf cu,.pointer (some ⟨bx,0,none⟩),z8,z9,dB,cZ,z12,de,dn,dm,dk,dj,dA,dz,z20,z21,z22,z23,z24,z25,z26,dD,z28,dC,dM,z31,dQ,dK,dP,dO,dV,z37,ey,ew,z40,eu,eK,eJ,eI,eH,z46,eQ,eN,z49,en,z51,iu,z53,iF,iE,iD,iC,iB]:Array M').getD t I':=fun t=>by rw [cn]
 simp only [R84,ai,Bq,f84,A_]
 refine mA (by kernel_rfl) (kP:=⟨I',0⟩) (base:=bs) (by rw [oq];kernel_rfl) (by kernel_rfl) (fun x=>zQ b2 bx gu nf cu m ar cr r op x) (VX [3,6,7,9,11] 12 13 14 16 w1 w0 r0 b0 B m L O P vw vb vl b2 b4 ar cr r)
  (by
   have hf:∀j,(F_ 17 false).getD j false=false:=fun j=>by simp [Array.getD]
   have hx:∀{j:Nat} {p:Prop},(F_ 17 false).getD j false=true->p:=fun {j p} h=>by rw [hf] at h;cases h
   exact ⟨fun h=>hx h,fun h=>hx h,fun h=>hx h,fun h=>hx h,fun _=>cf,fun h=>hx h,fun h=>hx h,fun h=>hx h,fun h=>hx h⟩) ?_ ?_
 ·intro i o' ho D x w a hD bc hw bH aD K k
  have hlt:i<17:=(cI ho)
  have Gl:∀t,t<59->t<bs.size:=fun t ht=>by rw [oq];exact ht
  have qi:(D.setIfInBounds i true).getD i false=true:=by rw [bq,if_pos ⟨rfl,by rw [hD];exact hlt⟩]
  have qn:∀j,j≠i->(D.setIfInBounds i true).getD j false=D.getD j false:=fun j hj=>by rw [bq,if_neg fun e=>hj e.1.symm]
  have aA:=aa k
  clear k
  obtain rfl|rfl|rfl|rfl|rfl|rfl|rfl|rfl|rfl|rfl|rfl|rfl|rfl|rfl|rfl|rfl|rfl:i=0\/i=1\/i=2\/i=3\/i=4\/i=5\/i=6\/i=7\/i=8\/i=9\/i=10\/i=11\/i=12\/i=13\/i=14\/i=15\/i=16:=by omega
  ·obtain rfl:=so ho rfl
   obtain ⟨v2,w2⟩:=bc.oo (.pointer (some ⟨b2,0,none⟩)) 2
   clear aD ho
   exact iY rfl (.pointer (some ⟨b2,4,none⟩)) (aA.out x w (fun _ _=>rfl) (hw.same qn qi (by decide)))
  ·obtain rfl:=so ho rfl
   obtain ⟨v38,XX⟩:=bc.vv (.pointer (some ⟨b2,4,none⟩)) 38 0 (dq aD 0)
   clear aD ho
   have c4:w.cell? ⟨b2,4,none⟩=some (.slice ar m.recs.length cr):=by
    have hk:D.getD 14 false=false:=by
     cases hx:D.getD 14 false with
     |false=>rfl
     |true=>rw [(hw.o2 hx).2] at bH;cases bH
    cases hb:D.getD 13 false with
    |false=>rw [hw.a hb];exact c4
    |true=>rw [(hw.b hb hk).1];exact (N_ w1 _ none).cell c4 (by simp)
   exact iY rfl (.slice ar m.recs.length cr) (aA.out x w (fun _ _=>rfl) (hw.same qn qi (by decide)))
  ·obtain rfl:=so ho rfl
   obtain ⟨v7,w7⟩:=bc.oo (.pointer (some ⟨bx,0,none⟩)) 7
   clear aD ho
   exact iY rfl (.pointer (some ⟨bx,0,none⟩)) (aA.out x w (fun _ _=>rfl) (hw.same qn qi (by decide)))
  ·obtain rfl:=so ho rfl
   obtain ⟨v40,XW⟩:=bc.vv (.pointer (some ⟨bx,0,none⟩)) 40 2 (dq aD 2)
   clear aD ho
   have vF:D.getD 13 false=false:=by
    cases hx:D.getD 13 false with
    |false=>rfl
    |true=>rw [hw.o1 (hw.o0 hx) 3 (by decide)] at bH;cases bH
   obtain rfl:=hw.a vF
   exact iY rfl (.int .i64 r.call) (aA.out x w (fun _ _=>rfl) (hw.same qn qi (by decide)))
  ·obtain rfl:=so ho rfl
   obtain ⟨v6,w6⟩:=bc.oo (.slice (some ⟨gu,0,none⟩) nf cu) 6
   clear aD ho
   exact iY rfl (.slice (some ⟨gu,0,none⟩) nf cu) (aA.out x w (fun _ _=>rfl) (hw.same qn qi (by decide)))
  ·obtain rfl:=so ho rfl
   obtain ⟨v42,XU⟩:=bc.vv (.slice (some ⟨gu,0,none⟩) nf cu) 42 4 (dq aD 4)
   clear aD ho
   exact iY rfl (.pointer (some ⟨gu,0,none⟩)) (aA.out x w (fun _ _=>rfl) (hw.same qn qi (by decide)))
  ·obtain rfl:=so ho rfl
   obtain ⟨v43,XT⟩:=bc.vv (.pointer (some ⟨gu,0,none⟩)) 43 5 (dq aD 5)
   clear aD ho
   have vF:D.getD 13 false=false:=by
    cases hx:D.getD 13 false with
    |false=>rfl
    |true=>rw [hw.o1 (hw.o0 hx) 6 (by decide)] at bH;cases bH
   obtain rfl:=hw.a vF
   exact iY rfl (.int .i64 r.line) (aA.out x w (fun _ _=>rfl) (hw.same qn qi (by decide)))
  ·obtain rfl:=so ho rfl
   obtain ⟨v1,w1⟩:=bc.oo (.int .i64 op) 1
   clear aD ho
   exact iY rfl (.int .i64 op) (aA.out x w (fun _ _=>rfl) (hw.same qn qi (by decide)))
  ·obtain rfl:=so ho rfl
   obtain ⟨v2,w2⟩:=bc.oo (.pointer (some ⟨b2,0,none⟩)) 2
   clear aD ho
   exact iY rfl (.pointer (some ⟨b2,3,none⟩)) (aA.out x w (fun _ _=>rfl) (hw.same qn qi (by decide)))
  ·obtain rfl:=so ho rfl
   obtain ⟨v46,XQ⟩:=bc.vv (.pointer (some ⟨b2,3,none⟩)) 46 8 (dq aD 8)
   clear aD ho
   have vF:D.getD 13 false=false:=by
    cases hx:D.getD 13 false with
    |false=>rfl
    |true=>rw [hw.o1 (hw.o0 hx) 9 (by decide)] at bH;cases bH
   obtain rfl:=hw.a vF
   exact iY rfl (.int .i64 m.clock) (aA.out x w (fun _ _=>rfl) (hw.same qn qi (by decide)))
  ·obtain rfl:=so ho rfl
   obtain ⟨v2,w2⟩:=bc.oo (.pointer (some ⟨b2,0,none⟩)) 2
   clear aD ho
   exact iY rfl (.pointer (some ⟨b2,3,none⟩)) (aA.out x w (fun _ _=>rfl) (hw.same qn qi (by decide)))
  ·obtain rfl:=so ho rfl
   obtain ⟨v48,Wb⟩:=bc.vv (.pointer (some ⟨b2,3,none⟩)) 48 10 (dq aD 10)
   clear aD ho
   have vF:D.getD 13 false=false:=by
    cases hx:D.getD 13 false with
    |false=>rfl
    |true=>rw [hw.o1 (hw.o0 hx) 11 (by decide)] at bH;cases bH
   obtain rfl:=hw.a vF
   exact iY rfl (.int .i64 m.clock) (aA.out x w (fun _ _=>rfl) (hw.same qn qi (by decide)))
  ·obtain rfl:=so ho rfl
   have d3:=dq aD 3
   have d6:=dq aD 6
   have d7:=dq aD 7
   have d9:=dq aD 9
   have d11:=dq aD 11
   obtain ⟨v41,XV⟩:=bc.vv (.int .i64 r.call) 41 3 d3
   obtain ⟨v44,XS⟩:=bc.vv (.int .i64 r.line) 44 6 d6
   obtain ⟨v45,XR⟩:=bc.vv (.int .i64 op) 45 7 d7
   obtain ⟨v47,LS⟩:=bc.vv (.int .i64 m.clock) 47 9 d9
   obtain ⟨v49,Wa⟩:=bc.vv (.int .i64 m.clock) 49 11 d11
   clear aD ho
   have xR:=qi
   have oL:=qn 13 (by decide)
   have yg:=qn 14 (by decide)
   have Dh:=qn 16 (by decide)
   have vF:D.getD 13 false=false:=by
    cases hx:D.getD 13 false with
    |false=>rfl
    |true=>rw [hw.o0 hx] at bH;cases bH
   refine bj (v:=.agg #[.int .i64 r.call,.int .i64 r.line,.int .i64 op,.int .i64 m.clock,.int .i64 m.clock,.int .i64 (-1),.string ⟨#[111,112,101,110]⟩]) (w':=w) rfl rfl ?_ (aA.out x w (fun _ _=>rfl) ⟨?_,by rw [oL,vF];exact fun h=>(by cases h),by rw [yg,oL];exact fun h=>⟨(hw.o2 h).1,by rw [qn 1 (by decide)];exact (hw.o2 h).2⟩,by rw [Dh,yg];exact hw.o3,by rw [oL];exact hw.a,by rw [oL,yg];exact hw.b,by rw [yg,Dh];exact hw.c,by rw [Dh];exact hw.d,by rw [yg];exact hw.e⟩)
   ·clear bc hw aA bH qi qn xR oL yg Dh vF
    go_simp
   ·intro _ j hj
    simp only [List.mem_cons,List.not_mem_nil,or_false] at hj
    rcases hj with rfl|rfl|rfl|rfl|rfl
    ·rw [qn _ (by decide)];exact d3
    ·rw [qn _ (by decide)];exact d6
    ·rw [qn _ (by decide)];exact d7
    ·rw [qn _ (by decide)];exact d9
    ·rw [qn _ (by decide)];exact d11
  ·obtain rfl:=so ho rfl
   have d12:=dq aD 12
   obtain ⟨v50,w50⟩:=bc.vv (.agg #[.int .i64 r.call,.int .i64 r.line,.int .i64 op,.int .i64 m.clock,.int .i64 m.clock,.int .i64 (-1),.string ⟨#[111,112,101,110]⟩]) 50 12 d12
   clear aD ho
   have oL:=qi
   have yg:=qn 14 (by decide)
   have Dh:=qn 16 (by decide)
   have xE:D.getD 14 false=false:=by
    cases hx:D.getD 14 false with
    |false=>rfl
    |true=>rw [(hw.o2 hx).1] at bH;cases bH
   have CR:D.getD 16 false=false:=by
    cases hx:D.getD 16 false with
    |false=>rfl
    |true=>rw [hw.o3 hx] at xE;cases xE
   obtain rfl:=hw.a bH
   refine bj (v:=.slice (some ⟨w.heap.size,0,none⟩) 1 1) (w':=w.alloc (.cells r.cells.toArray 44)) rfl rfl ?_ ?_
   ·clear bc hw aA bH qi qn oL yg Dh
    rw [mj.out]
    go_simp
   ·refine aA.out ⟨x.u,w.heap.size⟩ _ (fun j hj=>by
     have hne:j≠13:=fun e=>by rw [e,bH] at hj;cases hj
     unfold zQ;split<;>first|rfl|exact absurd rfl hne) ⟨by rw [qn 12 (by decide)];exact fun _ j hj=>if e:j=13 then (by subst e;exact qi) else (by rw [qn j e];exact hw.o1 d12 j hj),fun _=>by rw [qn 12 (by decide)];exact d12,by rw [yg,xE];exact fun h=>(by cases h),by rw [Dh,CR];exact fun h=>(by cases h),by rw [oL];exact fun h=>(by cases h),fun _ _=>⟨rfl,rfl⟩,by rw [yg,xE];exact fun h=>(by cases h),by rw [Dh,CR];exact fun h=>(by cases h),by rw [yg,xE];exact fun h=>(by cases h)⟩
  ·obtain rfl:=so ho rfl
   have d1:=dq aD 1
   have d13:=dq aD 13
   obtain ⟨v39,w39⟩:=bc.vv (.slice ar m.recs.length cr) 39 1 d1
   obtain ⟨v51,XP⟩:=bc.vv (.slice (some ⟨x.g,0,none⟩) 1 1) 51 13 d13
   clear aD ho
   have oL:=qn 13 (by decide)
   have yg:=qi
   have Dh:=qn 16 (by decide)
   have CR:D.getD 16 false=false:=by
    cases hx:D.getD 16 false with
    |false=>rfl
    |true=>rw [hw.o3 hx] at bH;cases bH
   obtain ⟨yc,hg⟩:=hw.b d13 bH
   obtain ⟨i9,A5,nR,nQ,nP⟩:=info_parts EA
   have bR:=hF.room.recs.alloc (.cells r.cells.toArray 44)
   obtain ⟨g,cap,w6,hrun,yI,pZ,iP,mR⟩:=run_append_lies (P:=p_) (w1.alloc (.cells r.cells.toArray 44)) 37 37 B 44 i9 _ 7 64 Tryz.underlying37 A5 nR nQ nP rfl (by decide) (.slice ar m.recs.length cr) m.recs.length _ bR ⟨w1.heap.size,0,none⟩ 1 1 r.cells rfl (fY w1 _ _ rfl) (by intro u hu;simp [Rec.cells] at hu;rcases hu with rfl|rfl|rfl|rfl|rfl|rfl|rfl<;>rfl) (by decide) (by unfold maxLen;omega) (by omega) (Nat.le_trans hF.room.big (N_ w1 _ none).size) _ rfl
   rw [hg] at v51
   subst yc
   refine bj (v:=.slice (some ⟨g,0,none⟩) (m.recs.length+1) cap) (w':=w6) rfl rfl ?_ ?_
   ·clear bc hw aA bH qi qn oL yg Dh
    simp only [List.getElem_toArray,List.getElem_cons_succ,List.getElem_cons_zero,execOp,resolve,invoke,builtin,Sem.run_bind,Sem.run_pure,Result.andThen_ok,List.map_toArray,S_,List.map_nil,v39,v51,hrun]
   ·refine aA.out ⟨.slice (some ⟨g,0,none⟩) (m.recs.length+1) cap,x.g⟩ _ (fun j hj=>by
     have hne:j≠14:=fun e=>by rw [e,bH] at hj;cases hj
     unfold zQ;split<;>first|rfl|exact absurd rfl hne) ⟨?_,by rw [qn 12 (by decide),oL];exact hw.o0, ?_,by rw [Dh,CR];exact fun h=>(by cases h),by rw [oL,d13];exact fun h=>(by cases h),by rw [yg];exact fun _ h=>(by cases h),fun _ _=>⟨by rw [nG];simpa [cj] using yI,pZ, ?_⟩,by rw [Dh,CR];exact fun h=>(by cases h),fun _=>⟨g,cap,rfl⟩⟩
    ·rw [qn 12 (by decide)];intro h j hj
     have:=hw.o1 h j hj
     by_cases e:j=14
     ·subst e;exact qi
     ·rw [qn j e];exact this
    ·intro _;rw [oL];exact ⟨d13,by rw [qn 1 (by decide)];exact d1⟩
    ·rcases iP with h|h
     ·exact .inl h.symm
     ·exact .inr (by rw [h,B_];rfl)
  ·obtain rfl:=so ho rfl
   obtain ⟨v2,w2⟩:=bc.oo (.pointer (some ⟨b2,0,none⟩)) 2
   clear aD ho
   exact iY rfl (.pointer (some ⟨b2,4,none⟩)) (aA.out x w (fun _ _=>rfl) (hw.same qn qi (by decide)))
  ·obtain rfl:=so ho rfl
   have d15:=dq aD 15
   have d14:=dq aD 14
   obtain ⟨v53,XO⟩:=bc.vv (.pointer (some ⟨b2,4,none⟩)) 53 15 d15
   obtain ⟨v52,V9⟩:=bc.vv (x.u) 52 14 d14
   clear aD ho
   have oL:=qn 13 (by decide)
   have yg:=qn 14 (by decide)
   have Dh:=qi
   obtain ⟨ho,lH,fH⟩:=hw.c d14 bH
   obtain ⟨gg,cap,hu⟩:=hw.e d14
   have F3:=hF.below ((h_ _ _).alloc (C_ _) (.cells r.cells.toArray 44))
   have F4:=F3.recs (r:=r) rfl lH ho (by rw [B_];exact fH)
   have lF:=(lH.block _ F3.LX (fun e=>F3.oB.1.1 e.symm)).trans F3.box
   have p4:w.cell? ⟨b2,4,none⟩=some (.slice ar m.recs.length cr):=by rw [aB lF];rfl
   have q4:w.frozen? ⟨b2,4,none⟩=false:=bX lF
   have wo:∀g,g<w1.heap.size->g≠b2->(Value.slice ar m.recs.length cr).ownBlock≠some g->(w.setCell ⟨b2,4,none⟩ x.u).heap[g]?=w1.heap[g]?:=fun g h1 h2 h3=>(a_ w ⟨b2,4,none⟩ g x.u h2).trans ((lH.block g (by rw [B_];omega) (fun e=>h3 e.symm)).trans ((N_ w1 _ none).block g h1 (by simp)))
   have wo:=aa wo
   refine gQ (w':=w.setCell ⟨b2,4,none⟩ x.u) rfl rfl ?_ ?_
   ·clear bc hw aA bH qi qn oL yg Dh F3 F4 ho lH fH lF
    rw [hu] at V9
    rw [hu]
    go_simp
   ·refine aA.out x _ (fun _ _=>rfl) ⟨?_,by rw [qn 12 (by decide),oL];exact hw.o0,by rw [yg,oL];exact fun h=>⟨(hw.o2 h).1,by rw [qn 1 (by decide)];exact (hw.o2 h).2⟩,fun _=>by rw [yg];exact d14,by rw [oL];exact fun h=>(by rw [(hw.o2 d14).1] at h;cases h),by rw [yg,d14];exact fun _ h=>(by cases h),by rw [Dh];exact fun _ h=>(by cases h),fun _=>⟨F4,wo.out⟩,by rw [yg];exact hw.e⟩
    rw [qn 12 (by decide)];intro h j hj
    have:=hw.o1 h j hj
    by_cases e:j=16
    ·subst e;exact qi
    ·rw [qn j e];exact this
 ·intro D x w hd hw
  obtain ⟨gg,cap,hu⟩:=hw.e (hd 14 (by decide))
  have EX:=hw.d (hd 16 (by decide))
  obtain ⟨u9,g9⟩:=x
  simp only at hu EX
  subst hu
  have:=hQ w gg cap (.pointer (some ⟨b2,4,none⟩)) (.slice ar m.recs.length cr) (.pointer (some ⟨bx,0,none⟩)) (.int .i64 r.call) (.slice (some ⟨gu,0,none⟩) nf cu) (.pointer (some ⟨gu,0,none⟩)) (.int .i64 r.line) (.int .i64 op) (.pointer (some ⟨b2,3,none⟩)) (.int .i64 m.clock) (.pointer (some ⟨b2,3,none⟩)) (.int .i64 m.clock) (.agg #[.int .i64 r.call,.int .i64 r.line,.int .i64 op,.int .i64 m.clock,.int .i64 m.clock,.int .i64 (-1),.string ⟨#[111,112,101,110]⟩]) (.slice (some ⟨g9,0,none⟩) 1 1) (.slice (some ⟨gg,0,none⟩) (m.recs.length+1) cap) (.pointer (some ⟨b2,4,none⟩)) EX.1 (fun g h1 h2 h3=>(EX.2 g (by rw [(vC.out g).2];exact h1) h2 h3).trans (vC.out g).1)
  generalize bc:slotsOf _ bs (zQ b2 bx gu nf cu m ar cr r op ⟨.slice (some ⟨gg,0,none⟩) (m.recs.length+1) cap,g9⟩)=sl
  have eS:sl=#[z0,.int .i64 op,.pointer (some ⟨b2,0,none⟩),z3,z4,z5,.slice (some ⟨gu,0,none⟩) nf cu,.pointer (some ⟨bx,0,none⟩),z8,z9,dB,cZ,z12,de,dn,dm,dk,dj,dA,dz,z20,z21,z22,z23,z24,z25,z26,dD,z28,dC,dM,z31,dQ,dK,dP,dO,dV,z37,.pointer (some ⟨b2,4,none⟩),.slice ar m.recs.length cr,.pointer (some ⟨bx,0,none⟩),.int .i64 r.call,.slice (some ⟨gu,0,none⟩) nf cu,.pointer (some ⟨gu,0,none⟩),.int .i64 r.line,.int .i64 op,.pointer (some ⟨b2,3,none⟩),.int .i64 m.clock,.pointer (some ⟨b2,3,none⟩),.int .i64 m.clock,.agg #[.int .i64 r.call,.int .i64 r.line,.int .i64 op,.int .i64 m.clock,.int .i64 m.clock,.int .i64 (-1),.string ⟨#[111,112,101,110]⟩],.slice (some ⟨g9,0,none⟩) 1 1,.slice (some ⟨gg,0,none⟩) (m.recs.length+1) cap,.pointer (some ⟨b2,4,none⟩),iF,iE,iD,iC,iB]:=by rw [<-bc,<-cn];kernel_rfl
  rw [eS]
  exact this
variable {vr:M'}
theorem yC {vw:M'} (R:bA B m vr vw vb w) (hn:m.recs.length<=100) (L9:m.wait.length<=100) (QO:m.back.length<=100) (gv:0<=m.clock/\m.clock<=1000000) (mP:∃a n c,vl=.slice a n c) (hop:∀p∈m.wait,(1<=p.1/\p.1<=1000000)/\∃i,dE m.recs p.1=some i) (op:Int):
 d_ p_ 83 #[jD L O P m.clock vr vw vb vl,.int .i64 op] w (Done w vr vb B (hZ m op).1 L O P vl (hZ m op).2):=by
 obtain ⟨al,bM,cl,rfl⟩:=mP
 obtain ⟨ab,cb,oK⟩:=aE R.back
 subst oK
 obtain ⟨ar,cr,ql⟩:=aE R.recs
 subst ql
 obtain ⟨gw,cw,qG,KC,yN⟩:=fV R.wait R.iQ
 subst qG
 obtain ⟨w1,cf⟩:∃w1,(w.alloc (.cells (gi L O P m.clock (.slice ar m.recs.length cr) (.slice (some ⟨gw,0,none⟩) m.wait.length cw) (.slice ab m.back.length cb) (.slice al bM cl)) 63)).alloc (.cells ia 63)=w1:=⟨_,rfl⟩
 have lr:f_ (w1.heap.size=w.heap.size+2):=by rw [f_,<-cf,B_,B_]
 have eo:g_ w.heap.size w w1:=by rw [<-cf];exact ((h_ _ _).alloc (C_ _) _).alloc (by rw [B_];omega) _
 have jx:w1.heap[w.heap.size]?=some (.cells (gi L O P m.clock (.slice ar m.recs.length cr) (.slice (some ⟨gw,0,none⟩) m.wait.length cw) (.slice ab m.back.length cb) (.slice al bM cl)) 63 (0,0)):=by rw [<-cf];exact br (Z' w _)
 have sH:w1.heap[w.heap.size+1]?=some (.cells ia 63 (0,0)):=by
  have:=Z' (w.alloc (.cells (gi L O P m.clock (.slice ar m.recs.length cr) (.slice (some ⟨gw,0,none⟩) m.wait.length cw) (.slice ab m.back.length cb) (.slice al bM cl)) 63)) (.cells ia 63)
  rw [B_,cf] at this
  exact this
 have F1:=aa (gO.start R eo jx sH (C_ _) (by omega) (by omega))
 obtain ⟨⟨e0,e1,e2,e3,e4,e5,e6,e7⟩,f0,f1,f2,f3,f4,f5,f6,f7⟩:=aG jx
 obtain ⟨⟨x0,x1,x2,x3,x4,x5,x6,x7⟩,y0,y1,y2,y3,y4,y5,y6,y7⟩:=aG (show w1.heap[w.heap.size+1]?=some (Obj.cells #[.int .i64 0,.int .i64 0,.int .i64 0,.int .i64 0,.slice none 0 0,.slice none 0 0,.slice none 0 0,.slice none 0 0] 63 (0,0)) from sH)
 have CX:m.recs.length<=1000:=by omega
 have sQ:=aa (uB F1.out.room.rd.1 CX op)
 clear R eo jx sH
 unfold gi ia at cf
 unfold jD
 by_cases ht:ez m.recs op>0
 ·have hR:f_ (hZ m op=(m,l8)):=by rw [f_];unfold hZ;rw [if_pos ht]
  generalize ez m.recs op=tk at sQ ht
  go_enter func83,ntmps83
  go_wp2_with (go_at_call 114;(with_reducible refine sQ.out.mono ?_);rintro e w2 ⟨rfl,rfl⟩)
  change bodyPost p_ f83 _ .ret _ (Of.b8 _ (w.heap.size+1) (.int .i64 L) (.int .i64 O) (.int .i64 P) (.int .i64 m.clock) (.slice ar m.recs.length cr) (.slice (some ⟨gw,0,none⟩) m.wait.length cw) (.slice ab m.back.length cb) (.slice al bM cl))
  rw [hR.out];refine gO.ends F1.out ?_ ?_ ?_<;>rfl
 have M7:¬0<ez m.recs op:=ht
 have SF:f_ (¬ez m.recs op>0):=ht
 generalize ez m.recs op=tk at sQ ht M7
 rcases (show m.wait=[]\/∃p ws,m.wait=p::ws by cases m.wait with|nil=>exact .inl rfl|cons p ws=>exact .inr ⟨p,ws,rfl⟩) with hw|⟨p,ws,hw⟩
 ·
  have hR:f_ (hZ m op=(m,qB)):=by rw [f_];unfold hZ;rw [if_neg SF.out,hw]
  replace hw:=aa hw
  go_enter func83,ntmps83
  go_wp2_with (go_at_call 114;(with_reducible refine sQ.out.mono ?_);rintro e w2 ⟨rfl,rfl⟩)
  ·change bodyPost p_ f83 _ .ret _ (Of.b8 _ (w.heap.size+1) (.int .i64 L) (.int .i64 O) (.int .i64 P) (.int .i64 m.clock) (.slice ar m.recs.length cr) (.slice (some ⟨gw,0,none⟩) m.wait.length cw) (.slice ab m.back.length cb) (.slice al bM cl))
   rw [hR.out];refine gO.ends F1.out ?_ ?_ ?_<;>rfl
  all_goals
   have oF:((m.wait.length:Int)==0)=true:=by rw [hw.out];rfl
   have hbad2:m.wait.length=0:=by rw [hw.out];rfl
   exfalso
   have h9:(true:Bool)=false:=by rw [<-oF];assumption
   cases h9
 ·obtain ⟨⟨Iu,hp2⟩,i,Gc⟩:=hop p (by rw [hw];exact List.mem_cons_self)
  obtain ⟨QZ,ml⟩:=pV Gc
  obtain ⟨gr,VN,ql,Vd,hzz⟩:=nH F1.out.room.rd.1 ml
  injection ql with i1 i2 i3
  subst i1 i3
  have hR:f_ (hZ m op=({m with recs:=m.recs.set i {m.recs[i] with op:=op,heard:=m.clock},wait:=aJ m.wait p.1},dL++L_ p.1)):=by
   rw [f_];unfold hZ;rw [if_neg SF.out]
   split
   ·rename_i h;rw [hw] at h;cases h
   ·rename_i q qs h
    rw [hw] at h;injection h with h1 h2
    subst h1
    rw [Gc];simp only [G_ ml]
  have uK:0<m.wait.length:=by rw [hw];simp
  have UG:(0:Int)<(m.wait.length:Int):=by omega
  have Uh:m.wait[0]?=some p:=by rw [hw];rfl
  obtain ⟨yd,QI⟩:=List.getElem?_eq_some_iff.1 Uh
  obtain ⟨g1,c1,M5,_,k0,k1⟩:=pR F1.out.room.rd.2.1 uK
  injection M5 with i1 i2 i3
  injection i1 with i1
  injection i1 with i1
  subst i1 i3
  rw [QI] at k0 k1
  have k0':w1.cell? ⟨gw,0,none⟩=some (.int .i64 p.1):=k0
  have k1':w1.cell? ⟨gw,1,none⟩=some (.int .i64 p.2):=by simpa using k1
  have EE:=aa hw
  clear hw QI Uh
  have hne0:((m.wait.length:Int)==0)=false:=beq_eq_false_iff_ne.2 (by omega)
  have CP:gr≠w.heap.size:=fun e=>F1.out.oB.1.1 (by rw [e];rfl)
  have hn2':gr≠w.heap.size+1:=fun e=>F1.out.oB.2.1 (by rw [e];rfl)
  have QV:gr<w1.heap.size:=F1.out.room.nN.1 gr rfl
  obtain ⟨w6,sk⟩:∃w6,w1.alloc (.cells #[.int .i64 p.1,.int .i64 p.2] 114)=w6:=⟨_,rfl⟩
  have KF:g_ w1.heap.size w1 w6:=by rw [<-sk];exact (h_ _ _).alloc (C_ _) _
  have F6:=aa (F1.out.below KF)
  have SJ:f_ (w6.heap[w1.heap.size]?=some (.cells #[.int .i64 p.1,.int .i64 p.2] 114 (0,0))):=by rw [f_,<-sk];exact Z' w1 _
  have hgx:gr≠w1.heap.size:=by omega
  have hx6:w6.frozen? ⟨gr,i * 7+2,none⟩=false:=F6.out.room.recs.frozenAt _
  obtain ⟨w7,Ss⟩:∃w7,w6.setCell ⟨gr,i * 7+2,none⟩ (.int .i64 op)=w7:=⟨_,rfl⟩
  have SR:=F6.out.set rfl ml (k:=2) (by decide) (v:=.int .i64 op) (r:={m.recs[i] with op:=op}) rfl
  rw [Ss] at SR
  have TT:w7.frozen? ⟨gr,i * 7+4,none⟩=false:=by have h:=SR.room.recs;simp only [List.length_set] at h;exact h.frozenAt _
  obtain ⟨v6,hy6⟩:∃v,w6.cell? ⟨gr,i * 7+2,none⟩=some v:=⟨_,(F6.out.room.recs.cellAt (i * 7+2) (by omega)).trans (G_ (by rw [Ad];omega))⟩
  have YF:∃v,w7.cell? ⟨gr,i * 7+4,none⟩=some v:=by have h:=SR.room.recs;simp only [List.length_set] at h;exact ⟨_,(h.cellAt (i * 7+4) (by omega)).trans (G_ (by rw [Ad,List.length_set];omega))⟩
  obtain ⟨v7,YF⟩:=YF
  obtain ⟨w8,hw8⟩:∃w8,w7.setCell ⟨gr,i * 7+4,none⟩ (.int .i64 m.clock)=w8:=⟨_,rfl⟩
  have Xg:=SR.set (i:=i) (g:=gr) (cap:=cr) (by simp) (by simpa using ml) (k:=4) (by decide) (v:=.int .i64 m.clock) (r:={m.recs[i] with op:=op,heard:=m.clock}) (by simp [Rec.cells])
  rw [hw8] at Xg
  simp only [List.set_set] at Xg
  have F8:=aa Xg
  have hB7:f_ (w7.heap[w1.heap.size]?=some (.cells #[.int .i64 p.1,.int .i64 p.2] 114 (0,0))):=by rw [f_,<-Ss];exact (a_ w6 ⟨gr,i * 7+2,none⟩ _ _ (Ne.symm hgx)).trans SJ.out
  have Mk:f_ (w8.heap[w1.heap.size]?=some (.cells #[.int .i64 p.1,.int .i64 p.2] 114 (0,0))):=by rw [f_,<-hw8];exact (a_ w7 ⟨gr,i * 7+4,none⟩ _ _ (Ne.symm hgx)).trans hB7.out
  obtain ⟨⟨a0,a1,a2,a3,a4,a5,a6,a7⟩,_⟩:=aG F6.out.box
  obtain ⟨⟨b0,b1,b2,b3,b4,b5,b6,b7⟩,_⟩:=aG SR.box
  obtain ⟨⟨d0,d1,d2,d3,d4,d5,d6,d7⟩,_⟩:=aG F8.out.box
  have g6:w6.cell? ⟨w1.heap.size,0,none⟩=some (.int .i64 p.1):=aB SJ.out
  have g8:w8.cell? ⟨w1.heap.size,0,none⟩=some (.int .i64 p.1):=aB Mk.out
  have lA:=nO F6.out.room.rd.1 CX p.1
  rw [QZ] at lA
  have vI:(0:Int)<=(i:Int):=by omega
  have QY:(i:Int)<(m.recs.length:Int):=by omega
  have lA:=aa lA
  have hx:w.heap.size<w1.heap.size:=by have:=lr.out;omega
  have Fg:f_ (d_ p_ 115 #[.slice (some ⟨gw,0,none⟩) m.wait.length cw,.int .i64 p.1] w8 fun e w'=>∃u,e=.returned u/\w'.ownsRow w8.heap.size 114 2 u (aJ m.wait p.1).length (ax (aJ m.wait p.1))/\g_ w8.heap.size w8 w'/\∃g,u.ownBlock=some g):=jR F8.out.room.rd.2.1 F8.out.room.nN.2.1 (by show m.wait.length<=1000;omega) p.1
  have hl8:f_ (w1.heap.size<w8.heap.size):=(cI Mk.out)
  have Zj:f_ (w.heap.size≠w1.heap.size):=fun h=>by omega
  clear hzz
  have ml:=aa ml
  clear QZ SR Xg KF Gc x0 x1 x2 x3 x4 x5 x6 x7 y0 y1 y2 y3 y4 y5 y6 y7 SJ hB7 QV uK
  go_enter func83,ntmps83
  go_wp2_with (first|(go_at_call 114;(with_reducible refine sQ.out.mono ?_);rintro e w2 ⟨rfl,rfl⟩)|(go_at_call 110;(with_reducible refine lA.out.mono ?_);rintro e w3 ⟨rfl,rfl⟩)|(go_at_call 115;(with_reducible refine Fg.out.mono ?_);rintro e w9 ⟨u,rfl,nS,vJ,hg9⟩;obtain ⟨gq,WA⟩:=hg9;obtain ⟨aq,cq,Qv⟩:=aE nS;subst Qv;obtain ⟨⟨l0,l1,l2,l3,l4,l5,l6,l7⟩,j0,j1,j2,j3,j4,j5,j6,j7⟩:=aG (F8.out.below vJ).box;have nS:=aa nS;have WA:=aa WA;have vJ:=aa vJ))
  have SS:=aa (F8.out.waits vJ.out nS.out ⟨gq,WA.out⟩)
  have RE:f_ ((w9.setCell ⟨w.heap.size,5,none⟩ (.slice aq (aJ m.wait p.1).length cq)).heap[w2.heap.size]?=some (.cells #[.int .i64 p.1,.int .i64 p.2] 114 (0,0))):=(a_ w9 ⟨w.heap.size,5,none⟩ w2.heap.size _ (Ne.symm Zj.out)).trans ((vJ.out.block _ hl8.out).trans Mk.out)
  clear nS vJ WA l0 l1 l2 l3 l4 l5 l6 l7 j0 j1 j2 j3 j4 j5 j6 j7 F8 a0 a1 a2 a3 a4 a5 a6 a7 b0 b1 b2 b3 b4 b5 b6 b7 d0 d1 d2 d3 d4 d5 d6 d7 e0 e1 e2 e3 e4 e5 e6 e7 f0 f1 f2 f3 f4 f5 f6 f7 g6 g8 Mk lA sQ Fg F1 hy6 YF
  generalize w9.setCell ⟨w.heap.size,5,none⟩ (.slice aq (aJ m.wait p.1).length cq)=Ms at *
  refine MG (l:=p.1) (b2:=w.heap.size) (b4:=w.heap.size+1) (bx:=w2.heap.size) SS.out.box SS.out.res (cI RE.out) (aB RE.out) (by omega) (by omega) fun BD Oi Oh Ju Jt Js CY=> ?_
  have F11:=SS.out.below CY
  clear CY RE SS
  generalize dL++L_ p.1=tx at *
  go_wp2_with fail
  rw [hR.out];refine gO.ends F11 ?_ ?_ ?_
  ·rfl
  ·rfl
  ·rfl
section
variable {w0 w':J'} {r0 b0:M'} {m':Rm} {vw qb jA qS:M'}
theorem Jj (v:M') (c:Int) (hv:v=.int .i64 c):(gi L O P ck vr vw vb vl).setIfInBounds 3 v=gi L O P c vr vw vb vl:=by subst hv;rfl
theorem bA.same (h:bA B m vr vw vb w) (h1:m'.recs=m.recs) (h2:m'.wait=m.wait) (h3:m'.back=m.back):bA B m' vr vw vb w:=
 ⟨h.big,by rw [h1];exact h.recs,by rw [h2];exact h.wait,by rw [h3];exact h.back,h.apart,h.iQ⟩
theorem gO.clock (h:gO w0 r0 b0 B m L O P vr vw vb vl b2 b4 w) (c:Int):gO w0 r0 b0 B {m with clock:=c} L O P vr vw vb vl b2 b4 (w.setCell ⟨b2,3,none⟩ (.int .i64 c)):=by
 obtain ⟨⟨q1,q2,q3⟩,q4,q5,q6⟩:=h.oB
 refine ⟨(h.room.cell q1 q2 q3).same rfl rfl rfl,h.fr.i7 h.l2,h.rr,h.rb, ?_, ?_,h.l2,h.l4,h.ne⟩
 ·have:=Go.heap_setCell_same w b2 3 _ 63 (.int .i64 c) h.box
  rw [Jj _ c rfl] at this;exact this
 ·exact (a_ w ⟨b2,3,none⟩ b4 _ (fun e=>h.ne e.symm)).trans h.res
theorem gO.put (h:gO w0 r0 b0 B m L O P vr vw vb vl b2 b4 w) (hF:bg vr (.slice none 0 0) w w') (R:bA B m' vr jA vb w'):
 gO w0 r0 b0 B m' L O P vr jA vb vl b2 b4 (Of.b8 w' b2 (.int .i64 L) (.int .i64 O) (.int .i64 P) (.int .i64 m'.clock) vr jA vb vl):=by
 obtain ⟨⟨q1,q2,q3⟩,q4,q5,q6⟩:=h.oB
 have hn:∀g:Nat,(Value.slice none 0 0).ownBlock≠some g:=fun g e=>by cases e
 have lF:=(hF.block b2 h.LX q1 (hn _)).trans h.box
 have uI:=(hF.block b4 h.Qf q4 (hn _)).trans h.res
 have z2:jA.ownBlock≠some b2:=bB R.wait lF (by decide)
 refine ⟨R.b8 q1 z2 q3,(h.fr.then hF h.rr (fun g _ e=>absurd e (hn g))).b8 h.l2,h.rr,h.rb, ?_, ?_,h.l2,h.l4,h.ne⟩
 ·exact lB (show w'.heap[b2]?=some (Obj.cells #[_,_,_,_,_,_,_,_] 63 (0,0)) from lF) _ _ _ _ _ _ _ _
 ·exact (kN (fun e=>h.ne e.symm)).trans uI
variable {fn:Func} {tm:Array M'}
theorem zB {t:Bs} (R:bA B m vr vw vb w) (hF:bg r0 b0 w0 w) (rr:∀g,g<w0.heap.size->vr.ownBlock=some g->r0.ownBlock=some g) (rb:∀g,g<w0.heap.size->vb.ownBlock=some g->b0.ownBlock=some g) (hb:w.heap[b4]?=some (.cells ia 63 (0,0))) (l4:w0.heap.size<=b4)
 (EJ:fn.results=#[.cell 4 63,.tmp 5]) (h4:tm.getD 4 I'=.pointer (some ⟨b4,0,none⟩)) (h5:tm.getD 5 I'=.string ⟨t.toArray⟩):
 bodyPost p_ fn (Done w0 r0 b0 B m L O P vl t) .ret ⟨tm,[]⟩ (Of.b8 w b4 (.int .i64 L) (.int .i64 O) (.int .i64 P) (.int .i64 m.clock) vr vw vb vl):=by
 have q4:vr.ownBlock≠some b4:=bB R.recs hb (by decide)
 have q5:vw.ownBlock≠some b4:=bB R.wait hb (by decide)
 have q6:vb.ownBlock≠some b4:=bB R.back hb (by decide)
 have hR:=R.b8 (v0:=.int .i64 L) (v1:=.int .i64 O) (v2:=.int .i64 P) (v3:=.int .i64 m.clock) (v4:=vr) (v5:=vw) (v6:=vb) (v7:=vl) q4 q5 q6
 have hF:=hF.b8 (v0:=.int .i64 L) (v1:=.int .i64 O) (v2:=.int .i64 P) (v3:=.int .i64 m.clock) (v4:=vr) (v5:=vw) (v6:=vb) (v7:=vl) l4
 obtain ⟨⟨s0,s1,s2,s3,s4,s5,s6,s7⟩,_⟩:=aG (lB (show w.heap[b4]?=some (Obj.cells #[.int .i64 0,.int .i64 0,.int .i64 0,.int .i64 0,.slice none 0 0,.slice none 0 0,.slice none 0 0,.slice none 0 0] 63 (0,0)) from hb) (.int .i64 L) (.int .i64 O) (.int .i64 P) (.int .i64 m.clock) vr vw vb vl)
 generalize Of.b8 w b4 (.int .i64 L) (.int .i64 O) (.int .i64 P) (.int .i64 m.clock) vr vw vb vl=W at *
 have VC:tm[4]?.getD I'=.pointer (some ⟨b4,0,none⟩):=by rw [<-r_];exact h4
 have VB:tm[5]?.getD I'=.string ⟨t.toArray⟩:=by rw [<-r_];exact h5
 refine bodyPost_ret (v:=.tuple #[jD L O P m.clock vr vw vb vl,.string ⟨t.toArray⟩]) (by simp [results,EJ,go_sem,jD,VC,VB,s0,s1,s2,s3,s4,s5,s6,s7]) rfl ?_
 exact ⟨vr,vw,vb,rfl,hR,hF,rr,rb⟩
theorem Lj {t:Bs} (gv:m.clock=ck) (R:bA B m vr vw vb w) (hF:bg r0 b0 w0 w) (rr:∀g,g<w0.heap.size->vr.ownBlock=some g->r0.ownBlock=some g) (rb:∀g,g<w0.heap.size->vb.ownBlock=some g->b0.ownBlock=some g) (hb:w.heap[b4]?=some (.cells ia 63 (0,0))) (l4:w0.heap.size<=b4)
 (EJ:fn.results=#[.cell 4 63,.tmp 5]) (h4:tm.getD 4 I'=.pointer (some ⟨b4,0,none⟩)) (h5:tm.getD 5 I'=.string ⟨t.toArray⟩):
 bodyPost p_ fn (Done w0 r0 b0 B m L O P vl t) .ret ⟨tm,[]⟩ (Of.b8 w b4 (.int .i64 L) (.int .i64 O) (.int .i64 P) (.int .i64 ck) vr vw vb vl):=by
 subst gv
 exact zB R hF rr rb hb l4 EJ h4 h5
end
theorem Cz {vw:M'} (R:bA B m vr vw vb w) (hn:m.recs.length<=100) (L9:m.wait.length<=100) (QO:m.back.length<=100) (mP:∃a n c,vl=.slice a n c) (c:Int):
 d_ p_ 85 #[jD L O P m.clock vr vw vb vl,.int .i64 c] w (Done w vr vb B (lv m c).1 L O P vl (lv m c).2):=by
 obtain ⟨al,bM,cl,rfl⟩:=mP
 obtain ⟨ab,cb,oK⟩:=aE R.back
 subst oK
 obtain ⟨ar,cr,ql⟩:=aE R.recs
 subst ql
 obtain ⟨gw,cw,qG,KC,yN⟩:=fV R.wait R.iQ
 subst qG
 obtain ⟨w1,cf⟩:∃w1,(w.alloc (.cells (gi L O P m.clock (.slice ar m.recs.length cr) (.slice (some ⟨gw,0,none⟩) m.wait.length cw) (.slice ab m.back.length cb) (.slice al bM cl)) 63)).alloc (.cells ia 63)=w1:=⟨_,rfl⟩
 have lr:f_ (w1.heap.size=w.heap.size+2):=by rw [f_,<-cf,B_,B_]
 have eo:g_ w.heap.size w w1:=by rw [<-cf];exact ((h_ _ _).alloc (C_ _) _).alloc (by rw [B_];omega) _
 have jx:w1.heap[w.heap.size]?=some (.cells (gi L O P m.clock (.slice ar m.recs.length cr) (.slice (some ⟨gw,0,none⟩) m.wait.length cw) (.slice ab m.back.length cb) (.slice al bM cl)) 63 (0,0)):=by rw [<-cf];exact br (Z' w _)
 have sH:w1.heap[w.heap.size+1]?=some (.cells ia 63 (0,0)):=by
  have:=Z' (w.alloc (.cells (gi L O P m.clock (.slice ar m.recs.length cr) (.slice (some ⟨gw,0,none⟩) m.wait.length cw) (.slice ab m.back.length cb) (.slice al bM cl)) 63)) (.cells ia 63)
  rw [B_,cf] at this
  exact this
 have F1:=aa (gO.start R eo jx sH (C_ _) (by omega) (by omega))
 obtain ⟨⟨e0,e1,e2,e3,e4,e5,e6,e7⟩,f0,f1,f2,f3,f4,f5,f6,f7⟩:=aG jx
 obtain ⟨⟨x0,x1,x2,x3,x4,x5,x6,x7⟩,y0,y1,y2,y3,y4,y5,y6,y7⟩:=aG (show w1.heap[w.heap.size+1]?=some (Obj.cells #[.int .i64 0,.int .i64 0,.int .i64 0,.int .i64 0,.slice none 0 0,.slice none 0 0,.slice none 0 0,.slice none 0 0] 63 (0,0)) from sH)
 have CX:m.recs.length<=1000:=by omega
 have qo:m.wait.length<=1000:=by omega
 have KF:m.back.length<=1000:=by omega
 have lA:=nO F1.out.room.rd.1 CX c
 clear R eo jx sH
 unfold gi ia at cf
 unfold jD
 cases hop:dE m.recs c with
 |some i=>
  obtain ⟨QZ,ml⟩:=pV hop
  rw [QZ] at lA
  obtain ⟨gr,VN,ql,Vd,z0,z1,z2,z3,z4,z5,z6⟩:=nH F1.out.room.rd.1 ml
  injection ql with i1 i2 i3
  subst i1 i3
  have vI:(0:Int)<=(i:Int):=by omega
  have QY:(i:Int)<(m.recs.length:Int):=by omega
  have hE:f_ (∀q:Bs,d_ p_ 116 #[.agg #[.int .i64 L,.int .i64 O,.int .i64 P,.int .i64 m.clock,.slice (some ⟨gr,0,none⟩) m.recs.length cr,.slice (some ⟨gw,0,none⟩) m.wait.length cw,.slice ab m.back.length cb,.slice al bM cl],.int .i64 (i:Nat),.string ⟨q.toArray⟩] w1 fun e w'=>∃jA,e=.returned (jD L O P m.clock (.slice (some ⟨gr,0,none⟩) m.recs.length cr) jA (.slice ab m.back.length cb) (.slice al bM cl))/\bA B (jJ m i q) (.slice (some ⟨gr,0,none⟩) m.recs.length cr) jA (.slice ab m.back.length cb) w'/\bg (.slice (some ⟨gr,0,none⟩) m.recs.length cr) (.slice none 0 0) w1 w'/\(∀g,jA.ownBlock=some g->w1.heap.size<=g)):=fun q=>xm F1.out.room ml CX qo ⟨_,_,_,rfl⟩ q
  have Vf:f_ (∀q:Bs,(jJ m i q).clock=m.clock):=fun q=>by rw [sM ml]
  have vH:f_ (m.recs[i]?=some m.recs[i]):=G_ ml
  clear z0 z1 z3 z4 z5 z6 QZ
  have hop:=aa hop
  generalize m.recs[i]=r at z2 vH
  by_cases iq:r.op>0
  ·have hR:f_ (lv m c=(jJ m i iy,iy)):=by rw [f_];unfold lv;rw [hop.out];simp only;rw [vH.out];simp only;rw [if_pos iq]
   have hp:0<r.op:=iq
   have hE1:f_ (d_ p_ 116 #[.agg #[.int .i64 L,.int .i64 O,.int .i64 P,.int .i64 m.clock,.slice (some ⟨gr,0,none⟩) m.recs.length cr,.slice (some ⟨gw,0,none⟩) m.wait.length cw,.slice ab m.back.length cb,.slice al bM cl],.int .i64 (i:Nat),.string ⟨#[100,111,110,101]⟩] w1 fun e w'=>∃jA,e=.returned (jD L O P m.clock (.slice (some ⟨gr,0,none⟩) m.recs.length cr) jA (.slice ab m.back.length cb) (.slice al bM cl))/\bA B (jJ m i iy) (.slice (some ⟨gr,0,none⟩) m.recs.length cr) jA (.slice ab m.back.length cb) w'/\bg (.slice (some ⟨gr,0,none⟩) m.recs.length cr) (.slice none 0 0) w1 w'/\(∀g,jA.ownBlock=some g->w1.heap.size<=g)):=hE.out iy
   go_enter func85,ntmps85
   go_wp2_with (first|(go_at_call 110;(with_reducible refine lA.mono ?_);rintro e w3 ⟨rfl,rfl⟩)|(go_at_call 116;(with_reducible refine hE1.out.mono ?_);rintro e w2 ⟨N3,rfl,R2,nj,Iv⟩;obtain ⟨ID,IC,rn⟩:=aE R2.wait;subst rn;have uI:=aa ((nj.block _ F1.out.Qf F1.out.oB.2.1 (fun e=>by cases e)).trans F1.out.res);obtain ⟨⟨p0,p1,p2,p3,p4,p5,p6,p7⟩,s0,s1,s2,s3,s4,s5,s6,s7⟩:=aG (show w2.heap[w.heap.size+1]?=some (Obj.cells #[.int .i64 0,.int .i64 0,.int .i64 0,.int .i64 0,.slice none 0 0,.slice none 0 0,.slice none 0 0,.slice none 0 0] 63 (0,0)) from uI.out);have DD:=aa R2;have nj:=aa nj;unfold jD;clear R2 Iv))
   change bodyPost p_ f85 _ .ret _ (Of.b8 _ (w.heap.size+1) (.int .i64 L) (.int .i64 O) (.int .i64 P) (.int .i64 m.clock) (.slice (some ⟨gr,0,none⟩) m.recs.length cr) _ (.slice ab m.back.length cb) (.slice al bM cl))
   rw [hR.out]
   refine Lj (Vf.out iy) DD.out (F1.out.fr.then nj.out F1.out.rr (fun g _ e=>by cases e)) F1.out.rr F1.out.rb uI.out (Nat.le_succ _) ?_ ?_ ?_<;>rfl
  ·have hR:f_ (lv m c=(jJ m i ie,ie)):=by rw [f_];unfold lv;rw [hop.out];simp only;rw [vH.out];simp only;rw [if_neg iq]
   have hp:¬0<r.op:=iq
   have hE1:f_ (d_ p_ 116 #[.agg #[.int .i64 L,.int .i64 O,.int .i64 P,.int .i64 m.clock,.slice (some ⟨gr,0,none⟩) m.recs.length cr,.slice (some ⟨gw,0,none⟩) m.wait.length cw,.slice ab m.back.length cb,.slice al bM cl],.int .i64 (i:Nat),.string ⟨#[108,101,102,116]⟩] w1 fun e w'=>∃jA,e=.returned (jD L O P m.clock (.slice (some ⟨gr,0,none⟩) m.recs.length cr) jA (.slice ab m.back.length cb) (.slice al bM cl))/\bA B (jJ m i ie) (.slice (some ⟨gr,0,none⟩) m.recs.length cr) jA (.slice ab m.back.length cb) w'/\bg (.slice (some ⟨gr,0,none⟩) m.recs.length cr) (.slice none 0 0) w1 w'/\(∀g,jA.ownBlock=some g->w1.heap.size<=g)):=hE.out ie
   go_enter func85,ntmps85
   go_wp2_with (first|(go_at_call 110;(with_reducible refine lA.mono ?_);rintro e w3 ⟨rfl,rfl⟩)|(go_at_call 116;(with_reducible refine hE1.out.mono ?_);rintro e w2 ⟨N3,rfl,R2,nj,Iv⟩;obtain ⟨ID,IC,rn⟩:=aE R2.wait;subst rn;have uI:=aa ((nj.block _ F1.out.Qf F1.out.oB.2.1 (fun e=>by cases e)).trans F1.out.res);obtain ⟨⟨p0,p1,p2,p3,p4,p5,p6,p7⟩,s0,s1,s2,s3,s4,s5,s6,s7⟩:=aG (show w2.heap[w.heap.size+1]?=some (Obj.cells #[.int .i64 0,.int .i64 0,.int .i64 0,.int .i64 0,.slice none 0 0,.slice none 0 0,.slice none 0 0,.slice none 0 0] 63 (0,0)) from uI.out);have DD:=aa R2;have nj:=aa nj;unfold jD;clear R2 Iv))
   change bodyPost p_ f85 _ .ret _ (Of.b8 _ (w.heap.size+1) (.int .i64 L) (.int .i64 O) (.int .i64 P) (.int .i64 m.clock) (.slice (some ⟨gr,0,none⟩) m.recs.length cr) _ (.slice ab m.back.length cb) (.slice al bM cl))
   rw [hR.out]
   refine Lj (Vf.out ie) DD.out (F1.out.fr.then nj.out F1.out.rr (fun g _ e=>by cases e)) F1.out.rr F1.out.rb uI.out (Nat.le_succ _) ?_ ?_ ?_<;>rfl
 |none=>
  rw [zg hop] at lA
  have vO:=xl F1.out.room.rd.2.2 KF c
  by_cases Gh:kG m.back c= -1
  ·have Md:im m c=false:=by
    cases hx:im m c with
    |false=>rfl
    |true=>exact absurd Gh ((lU m c).1 hx)
   have hR:f_ (lv m c=(m,Da)):=by rw [f_];unfold lv;rw [hop];simp only;rw [if_neg (by simp [Md])]
   rw [Gh] at vO
   clear hop Md Gh
   go_enter func85,ntmps85
   go_wp2_with (first|(go_at_call 110;(with_reducible refine lA.mono ?_);rintro e w3 ⟨rfl,rfl⟩)|(go_at_call 111;(with_reducible refine vO.mono ?_);rintro e w3 ⟨rfl,rfl⟩))
   change bodyPost p_ f85 _ .ret _ (Of.b8 _ (w.heap.size+1) (.int .i64 L) (.int .i64 O) (.int .i64 P) (.int .i64 m.clock) (.slice ar m.recs.length cr) (.slice (some ⟨gw,0,none⟩) m.wait.length cw) (.slice ab m.back.length cb) (.slice al bM cl))
   rw [hR.out];refine gO.ends F1.out ?_ ?_ ?_<;>rfl
  ·have Md:im m c=true:=(lU m c).2 Gh
   have hR:f_ (lv m c=({m with back:=aJ m.back c},JC)):=by rw [f_];unfold lv;rw [hop];simp only;rw [if_pos Md]
   obtain ⟨vI,hlt⟩:=zx _ _ Gh
   have Fg:f_ (d_ p_ 115 #[(.slice ab m.back.length cb),.int .i64 c] w1 fun e w'=>∃u,e=.returned u/\w'.ownsRow w1.heap.size 114 2 u (aJ m.back c).length (ax (aJ m.back c))/\g_ w1.heap.size w1 w'/\∃g,u.ownBlock=some g):=jR F1.out.room.rd.2.2 F1.out.room.nN.2.2 KF c
   generalize kG m.back c=fi at vO vI hlt Gh
   clear hop Md
   go_enter func85,ntmps85
   go_wp2_with (first|(go_at_call 110;(with_reducible refine lA.mono ?_);rintro e w3 ⟨rfl,rfl⟩)|(go_at_call 111;(with_reducible refine vO.mono ?_);rintro e w3 ⟨rfl,rfl⟩)|(go_at_call 115;(with_reducible refine Fg.out.mono ?_);rintro e w9 ⟨u,rfl,nS,vJ,_⟩;obtain ⟨aq,cq,Qv⟩:=aE nS;subst Qv;have F9:=aa (F1.out.below vJ);have SS:=aa (F1.out.O6 vJ nS);obtain ⟨⟨l0,l1,l2,l3,l4,l5,l6,l7⟩,j0,j1,j2,j3,j4,j5,j6,j7⟩:=aG F9.out.box;obtain ⟨⟨p0,p1,p2,p3,p4,p5,p6,p7⟩,s0,s1,s2,s3,s4,s5,s6,s7⟩:=aG (show w9.heap[w.heap.size+1]?=some (Obj.cells #[.int .i64 0,.int .i64 0,.int .i64 0,.int .i64 0,.slice none 0 0,.slice none 0 0,.slice none 0 0,.slice none 0 0] 63 (0,0)) from F9.out.res);clear nS vJ))
   change bodyPost p_ f85 _ .ret _ (Of.b8 _ (w.heap.size+1) (.int .i64 L) (.int .i64 O) (.int .i64 P) (.int .i64 m.clock) (.slice ar m.recs.length cr) (.slice (some ⟨gw,0,none⟩) m.wait.length cw) _ (.slice al bM cl))
   rw [hR.out];refine gO.ends SS.out ?_ ?_ ?_<;>rfl
end
end Go.aC.Of
