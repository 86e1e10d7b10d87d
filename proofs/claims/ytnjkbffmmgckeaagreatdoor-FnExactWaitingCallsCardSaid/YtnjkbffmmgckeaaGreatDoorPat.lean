/-
  The reference's office: a call in its place among those that wait.
-/
import Derived.StillTailTactics
import Derived.Test.YtnjkbffmmgckeaaGreatDoorPaa
import Derived.Test.YtnjkbffmmgckeaaGreatDoorPag
import Derived.Test.YtnjkbffmmgckeaaGreatDoorPai
import Derived.Test.YtnjkbffmmgckeaaGreatDoorPas
set_option linter.all false
set_option maxRecDepth 100000
set_option maxHeartbeats 32000000
open Go renaming undef->I',World->J',Value->M',TypeId->Q',heap_alloc_new->Z',heap_setCell_other->a_
open Go.RowKit renaming Hid->f_,Below->g_
open Go.RowKit.Below renaming refl->h_
open Go.World renaming size_alloc->B_,cell?_of_block->J_,size_setCell->o_
open Nat renaming le_refl->C_,le_trans->D_,lt_of_lt_of_le->E_
open Option.some renaming inj->M_
open Go.Proofs.Tryz renaming prog->p_
open Array renaming getD_eq_getD_getElem?->r_
open Go.Proofs.Tryz
namespace Go.aC.Of
section
open Go Go.Conc Go.Conc.Lib Go.ConcR Go.ConcR.Gen Go.aC Go.Proofs
open Go.RowKit hiding Hid
open Go.ConcN (upd upd_ne upd_same)
noncomputable def Gw:Code:=f112.body.getD .skip
noncomputable def V4:Code:=ai 3 Gw
variable {w:J'} {ga:Nat} {ws:List (Int × Int)}
theorem MH {cap:Nat} (h:gL w (.slice (some ⟨ga,0,none⟩) ws.length cap) ws.length (ax ws)) (k:Nat):∀j u,(ax (ws.take k))[j]?=some u->w.cell? ((⟨ga,0,none⟩:Addr).add j)=some u:=by
 intro j u hj
 rw [jb,List.getElem?_take] at hj
 split at hj
 ·have hlt:=(List.getElem?_eq_some_iff.1 hj).1
  obtain ⟨g,c,hv,_,hc⟩:=h.2 (by omega)
  injection hv with e1 e2 e3
  injection e1 with e1
  injection e1 with e1
  subst e1
  have:=(hc j hlt).trans hj
  by_cases h0:j=0
  ·subst h0;simpa [Addr.add] using this
  ·simpa [Addr.add,h0] using this
 ·cases hj
variable {k:Nat} {ad:Addr}
theorem MI {cap:Nat} (h:gL w (.slice (some ⟨ga,0,none⟩) ws.length cap) ws.length (ax ws)) (lJ:ws.length<=cap) (had:ad=if cap=k then ⟨ga,0,none⟩ else ⟨ga,k * 2,none⟩):∀j u,(ax (ws.drop k))[j]?=some u->w.cell? (ad.add j)=some u:=by
 intro j u hj
 rw [kU,List.getElem?_drop] at hj
 have hlt:=(List.getElem?_eq_some_iff.1 hj).1
 have yd:=pT ws
 rw [if_neg (by omega)] at had
 subst had
 obtain ⟨g,c,hv,_,hc⟩:=h.2 (by omega)
 injection hv with e1 e2 e3
 injection e1 with e1
 injection e1 with e1
 subst e1
 have:=(hc (k * 2+j) hlt).trans hj
 by_cases h0:j=0
 ·subst h0;simpa [Addr.add] using this
 ·simpa [Addr.add,h0] using this
structure Qx where
 u1:M'
 u2:M'
 u3:M'
 u4:M'
 g:Nat
structure Gz (w1:J') (ws:List (Int × Int)) (k:Nat) (y:Int × Int) (D:Array Bool) (q:Qx) (w:J'):Prop where
 vP:g_ w1.heap.size w1 w
 ord:(D.getD 4 false=true->D.getD 0 false=true)/\(D.getD 7 false=true->D.getD 4 false=true/\D.getD 6 false=true)/\(D.getD 11 false=true->D.getD 7 false=true)/\(D.getD 12 false=true->D.getD 11 false=true)
 r0:D.getD 0 false=true->D.getD 4 false=false->w.ownsRow w1.heap.size 114 2 q.u1 0 []
 r4:D.getD 4 false=true->D.getD 7 false=false->w.ownsRow w1.heap.size 114 2 q.u2 k (ax (ws.take k))
 r7:D.getD 7 false=true->D.getD 11 false=false->w.ownsRow w1.heap.size 114 2 q.u3 (k+1) (ax (ws.take k++[y]))
 Tp:D.getD 11 false=true->w.ownsRow w1.heap.size 114 2 q.u4 (ws.length+1) (ax (gY ws k y))
 n6:D.getD 6 false=true->D.getD 7 false=false->w.heap[q.g]?=some (.cells #[.int .i64 y.1,.int .i64 y.2] 114 (0,0))
 a0:D.getD 0 false=true->D.getD 6 false=true->D.getD 4 false=false->q.u1.ownBlock≠some q.g
 a4:D.getD 4 false=true->D.getD 6 false=true->D.getD 7 false=false->q.u2.ownBlock≠some q.g
variable {w1:J'} {i:Nat}
theorem Gz.same {y:Int × Int} {D D':Array Bool} {q:Qx} (h:Gz w1 ws k y D q w) (qn:∀j,j≠i->D'.getD j false=D.getD j false) (hi:i∉[0,4,6,7,11,12]):Gz w1 ws k y D' q w:=by
 have e:∀j,j∈[0,4,6,7,11,12]->D'.getD j false=D.getD j false:=fun j hj=>qn j (fun e=>hi (e▸hj))
 have e0:=e 0 (by decide)
 have e4:=e 4 (by decide)
 have e6:=e 6 (by decide)
 have e7:=e 7 (by decide)
 have jZ:=e 11 (by decide)
 have xR:=e 12 (by decide)
 exact ⟨h.vP,by rw [e0,e4,e6,e7,jZ,xR];exact h.ord,by rw [e0,e4];exact h.r0,by rw [e4,e7];exact h.r4,by rw [e7,jZ];exact h.r7,by rw [jZ];exact h.Tp,by rw [e6,e7];exact h.n6,by rw [e0,e6,e4];exact h.a0,by rw [e4,e6,e7];exact h.a4⟩
variable {g:Nat}
theorem br {o o':Obj} (h:w.heap[g]?=some o):(w.alloc o').heap[g]?=some o:=by
 exact ((World.grownBy_alloc w o' none).block g (cI h) (by simp)).trans h
def ny (ws:List (Int × Int)) (k:Nat) (y:Int × Int) (ga cap:Nat) (ad:Addr) (x:Qx):Nat->M'
 |0=>x.u1
 |1=>.slice (some ⟨ga,0,none⟩) ws.length cap
 |2=>.int .i64 (k:Nat)
 |3=>.slice (some ⟨ga,0,none⟩) k cap
 |4=>x.u2
 |5=>.agg #[.int .i64 y.1,.int .i64 y.2]
 |6=>.slice (some ⟨x.g,0,none⟩) 1 1
 |7=>x.u3
 |8=>.slice (some ⟨ga,0,none⟩) ws.length cap
 |9=>.int .i64 (k:Nat)
 |10=>.slice (some ad) (ws.length - k) (cap - k)
 |11=>x.u4
 |12=>x.u4
 |_=>I'
theorem Jl (cf:w1=w) {cap bx:Nat} {y:Int × Int} (hr:gL w1 (.slice (some ⟨ga,0,none⟩) ws.length cap) ws.length (ax ws)) (hl:Low w1 (.slice (some ⟨ga,0,none⟩) ws.length cap)) (hn:ws.length<=1000) (hk:k<=ws.length) (had:ad=if cap=k then ⟨ga,0,none⟩ else ⟨ga,k * 2,none⟩) (lJ:ws.length<=cap) (BJ:cap<=maxLen) (lF:bx<w1.heap.size) (BL:w1.cell? ⟨bx,0,none⟩=some (.int .i64 y.1)) (eo:w1.cell? ⟨bx,1,none⟩=some (.int .i64 y.2)) {z1 z2 z4 z6 z7 z8 z9 dB cZ z12 de dn dm dk dj dA dz z20 z21 z22 z23 z24 z25 z26 dD z28 dC dM z31 dQ dK:M'} {Q:Exit->Act->J'->Prop}
 (hQ:∀w' (v Yp Yo Yn Ym Yl Yk Yj Yi Yh Yg Sn Sm:M'),w'.ownsRow w1.heap.size 114 2 v (ws.length+1) (ax (gY ws k y))->g_ w1.heap.size w1 w'->Q .normal ⟨#[.slice (some ⟨ga,0,none⟩) ws.length cap,z1,z2,.pointer (some ⟨bx,0,none⟩),v,.int .i64 (k:Nat),z6,z7,z8,z9,dB,cZ,z12,de,dn,dm,dk,dj,dA,dz,z20,z21,Yp,Yo,Yn,Ym,Yl,Yk,Yj,Yi,Yh,Yg,Sn,Sm],[]⟩ w'):
 Code.wp p_ V4 Q ⟨#[.slice (some ⟨ga,0,none⟩) ws.length cap,z1,z2,.pointer (some ⟨bx,0,none⟩),z4,.int .i64 (k:Nat),z6,z7,z8,z9,dB,cZ,z12,de,dn,dm,dk,dj,dA,dz,z20,z21,z22,z23,z24,z25,z26,dD,z28,dC,dM,z31,dQ,dK],[]⟩ w:=by
 subst cf
 have hR:=aa hr
 have hL:=aa hl
 clear hr hl
 unfold maxLen at BJ
 generalize cn:(#[.slice (some ⟨ga,0,none⟩) ws.length cap,z1,z2,.pointer (some ⟨bx,0,none⟩),z4,.int .i64 (k:Nat),z6,z7,z8,z9,dB,cZ,z12,de,dn,dm,dk,dj,dA,dz,z20,z21,z22,z23,z24,z25,z26,dD,z28,dC,dM,z31,dQ,dK]:Array M')=bs
 have oq:bs.size=34:=by rw [<-cn];rfl
 have HI:∀t,bs.getD t I'=(#[.slice (some ⟨ga,0,none⟩) ws.length cap,z1,z2,.pointer (some ⟨bx,0,none⟩),z4,.int .i64 (k:Nat),z6,z7,z8,z9,dB,cZ,z12,de,dn,dm,dk,dj,dA,dz,z20,z21,z22,z23,z24,z25,z26,dD,z28,dC,dM,z31,dQ,dK]:Array M').getD t I':=fun t=>by rw [cn]
 simp only [V4,ai,Gw,f112,Option.getD_some]
 refine mA (by kernel_rfl) (kP:=⟨I',I',I',I',0⟩) (base:=bs) (by rw [oq];kernel_rfl) (by kernel_rfl) (fun x=>ny ws k y ga cap ad x) (Gz w1 ws k y)
  (by
   have hf:∀j,(Array.replicate 13 false).getD j false=false:=fun j=>by simp [Array.getD]
   have hx:∀{j:Nat} {p:Prop},(Array.replicate 13 false).getD j false=true->p:=fun {j p} h=>by rw [hf] at h;cases h
   exact ⟨(h_ _ _).drew,⟨fun h=>hx h,fun h=>hx h,fun h=>hx h,fun h=>hx h⟩,fun h=>hx h,fun h=>hx h,fun h=>hx h,fun h=>hx h,fun h=>hx h,fun h=>hx h,fun h=>hx h⟩) ?_ ?_
 ·intro i o' ho D x w a hD bc hw bH aD K k
  have hlt:i<13:=(cI ho)
  have Gl:∀t,t<34->t<bs.size:=fun t ht=>by rw [oq];exact ht
  have qi:(D.setIfInBounds i true).getD i false=true:=by rw [bq,if_pos ⟨rfl,by rw [hD];exact hlt⟩]
  have qn:∀j,j≠i->(D.setIfInBounds i true).getD j false=D.getD j false:=fun j hj=>by rw [bq,if_neg fun e=>hj e.1.symm]
  have aA:=aa k
  clear k
  obtain rfl|rfl|rfl|rfl|rfl|rfl|rfl|rfl|rfl|rfl|rfl|rfl|rfl:i=0\/i=1\/i=2\/i=3\/i=4\/i=5\/i=6\/i=7\/i=8\/i=9\/i=10\/i=11\/i=12:=by omega
  ·obtain rfl:=so ho rfl
   clear aD ho
   have e0:=qi
   have e4:=qn 4 (by decide)
   have e6:=qn 6 (by decide)
   have e7:=qn 7 (by decide)
   have jZ:=qn 11 (by decide)
   have xR:=qn 12 (by decide)
   refine bj (v:=.slice (some ⟨w.heap.size,0,none⟩) 0 0) (w':=w.alloc (.cells #[] 114)) rfl rfl ?_ ?_
   ·clear bc hw aA bH qi qn e0 e4 e6 e7 jZ xR
    go_simp
   ·refine aA.out ⟨.slice (some ⟨w.heap.size,0,none⟩) 0 0,x.u2,x.u3,x.u4,x.g⟩ _ (fun j hj=>by
     have hne:j≠0:=fun e=>by rw [e,bH] at hj;cases hj
     unfold ny;split<;>first|rfl|exact absurd rfl hne) ⟨hw.vP.alloc hw.vP.size _, ?_, ?_, ?_, ?_, ?_, ?_, ?_, ?_⟩
    ·rw [e0,e4,e6,e7,jZ,xR];exact ⟨fun _=>rfl,hw.ord.2⟩
    ·intro _ _;exact World.ownsRow_lit w #[] 0 hw.vP.size (by decide) (by simp)
    ·rw [e4,e7];exact fun h1 h2=>(hw.r4 h1 h2).alloc _
    ·rw [e7,jZ];exact fun h1 h2=>(hw.r7 h1 h2).alloc _
    ·rw [jZ];exact fun h1=>(hw.Tp h1).alloc _
    ·rw [e6,e7];exact fun h1 h2=>br (hw.n6 h1 h2)
    ·rw [e6,e4];intro _ h2 h3 e
     have h7:D.getD 7 false=false:=by
      cases hx:D.getD 7 false with
      |false=>rfl
      |true=>rw [(hw.ord.2.1 hx).1] at h3;cases h3
     have:=(Array.getElem?_eq_some_iff.1 (hw.n6 h2 h7)).1
     have e':w.heap.size=x.g:=by simpa [Value.ownBlock] using e
     omega
    ·rw [e4,e6,e7];exact hw.a4
  ·obtain rfl:=so ho rfl
   obtain ⟨v0,w0⟩:=bc.oo (.slice (some ⟨ga,0,none⟩) ws.length cap) 0
   clear aD ho
   exact iY rfl (.slice (some ⟨ga,0,none⟩) ws.length cap) (aA.out x w (fun _ _=>rfl) (hw.same qn (by decide)))
  ·obtain rfl:=so ho rfl
   obtain ⟨v5,w5⟩:=bc.oo (.int .i64 (k:Nat)) 5
   clear aD ho
   exact iY rfl (.int .i64 (k:Nat)) (aA.out x w (fun _ _=>rfl) (hw.same qn (by decide)))
  ·obtain rfl:=so ho rfl
   have d1:=dq aD 1
   have d2:=dq aD 2
   obtain ⟨v23,XY⟩:=bc.vv (.slice (some ⟨ga,0,none⟩) ws.length cap) 23 1 d1
   obtain ⟨v24,w24⟩:=bc.vv (.int .i64 (k:Nat)) 24 2 d2
   clear aD ho
   have hkc:¬cap<k:=by omega
   have Zn:k<=cap:=by omega
   exact iY rfl (.slice (some ⟨ga,0,none⟩) k cap) (aA.out x w (fun _ _=>rfl) (hw.same qn (by decide)))
  ·obtain rfl:=so ho rfl
   have d0:=dq aD 0
   have d3:=dq aD 3
   obtain ⟨v22,w22⟩:=bc.vv (x.u1) 22 0 d0
   obtain ⟨v25,w25⟩:=bc.vv (.slice (some ⟨ga,0,none⟩) k cap) 25 3 d3
   clear aD ho
   have e0:=qn 0 (by decide)
   have e4:=qi
   have e6:=qn 6 (by decide)
   have e7:=qn 7 (by decide)
   have jZ:=qn 11 (by decide)
   have xR:=qn 12 (by decide)
   have hr:=hR.out.below hL.out hw.vP
   obtain ⟨i9,A5,nR,nQ,nP⟩:=info_parts pX
   obtain ⟨v',w',hrun,yI,pZ,_,iP⟩:=run_append_own_at (P:=p_) w w1.heap.size 61 61 114 i9 _ 2 16 Tryz.underlying61 A5 nR nQ nP rfl (by decide) x.u1 0 [] (hw.r0 d0 bH) ⟨ga,0,none⟩ k cap (ax (ws.take k)) (by rw [pT,List.length_take,Nat.min_eq_left hk]) (MH hr k) (vY _) (by unfold maxLen;omega) (by omega) hw.vP.size
   rw [Nat.zero_add,List.nil_append] at yI
   refine bj (v:=v') (w':=w') rfl rfl ?_ ?_
   ·clear bc hw aA bH qi qn e0 e4 e6 e7 jZ xR
    simp only [List.getElem_toArray,List.getElem_cons_succ,List.getElem_cons_zero,execOp,resolve,invoke,builtin,Sem.run_bind,Sem.run_pure,Result.andThen_ok,List.map_toArray,List.map_cons,List.map_nil,v22,v25,hrun]
   ·have bR:∀g,x.u1.ownBlock=some g->w1.heap.size<=g:=fun g e=>((hw.r0 d0 bH).lt g e).1
    have h7:D.getD 7 false=false:=by
     cases hx:D.getD 7 false with
     |false=>rfl
     |true=>rw [(hw.ord.2.1 hx).1] at bH;cases bH
    have WS:D.getD 11 false=false:=by
     cases hx:D.getD 11 false with
     |false=>rfl
     |true=>rw [hw.ord.2.2.1 hx] at h7;cases h7
    refine aA.out ⟨x.u1,v',x.u3,x.u4,x.g⟩ _ (fun j hj=>by
     have hne:j≠4:=fun e=>by rw [e,bH] at hj;cases hj
     unfold ny;split<;>first|rfl|exact absurd rfl hne) ⟨hw.vP.grown pZ hw.vP.size bR, ?_, ?_, ?_, ?_, ?_, ?_, ?_, ?_⟩
    ·rw [e0,e4,e6,e7,jZ,xR];exact ⟨fun _=>d0,fun h=>⟨rfl,(hw.ord.2.1 h).2⟩,hw.ord.2.2⟩
    ·rw [e4];exact fun _ h=>by cases h
    ·intro _ _;exact yI
    ·rw [e7,h7];exact fun h=>by cases h
    ·rw [jZ,WS];exact fun h=>by cases h
    ·rw [e6,e7];exact fun h1 h2=>by
      rw [pZ.block x.g (Array.getElem?_eq_some_iff.1 (hw.n6 h1 h2)).1 (fun e=>hw.a0 d0 h1 bH e.symm)];exact hw.n6 h1 h2
    ·rw [e4];exact fun _ _ h=>by cases h
    ·rw [e6,e7];intro _ h2 h3 e
     have hlt:=(Array.getElem?_eq_some_iff.1 (hw.n6 h2 h3)).1
     rcases iP with h|h
     ·exact hw.a0 d0 h2 bH (h▸e)
     ·rw [h] at e;have:w.heap.size=x.g:=M_ e;omega
  ·obtain rfl:=so ho rfl
   obtain ⟨v3,w3⟩:=bc.oo (.pointer (some ⟨bx,0,none⟩)) 3
   clear aD ho
   have BL:w.cell? ⟨bx,0,none⟩=some (.int .i64 y.1):=(hw.vP.cell (p:=⟨bx,0,none⟩) lF).trans BL
   have eo:w.cell? ⟨bx,1,none⟩=some (.int .i64 y.2):=(hw.vP.cell (p:=⟨bx,1,none⟩) lF).trans eo
   exact iY rfl (.agg #[.int .i64 y.1,.int .i64 y.2]) (aA.out x w (fun _ _=>rfl) (hw.same qn (by decide)))
  ·obtain rfl:=so ho rfl
   obtain ⟨v27,w27⟩:=bc.vv (.agg #[.int .i64 y.1,.int .i64 y.2]) 27 5 (dq aD 5)
   clear aD ho
   have e0:=qn 0 (by decide)
   have e4:=qn 4 (by decide)
   have e6:=qi
   have e7:=qn 7 (by decide)
   have jZ:=qn 11 (by decide)
   have xR:=qn 12 (by decide)
   have h7:D.getD 7 false=false:=by
    cases hx:D.getD 7 false with
    |false=>rfl
    |true=>rw [(hw.ord.2.1 hx).2] at bH;cases bH
   refine bj (v:=.slice (some ⟨w.heap.size,0,none⟩) 1 1) (w':=w.alloc (.cells #[.int .i64 y.1,.int .i64 y.2] 114)) rfl rfl ?_ ?_
   ·clear bc hw aA bH qi qn e0 e4 e6 e7 jZ xR
    go_simp
   ·refine aA.out ⟨x.u1,x.u2,x.u3,x.u4,w.heap.size⟩ _ (fun j hj=>by
     have hne:j≠6:=fun e=>by rw [e,bH] at hj;cases hj
     unfold ny;split<;>first|rfl|exact absurd rfl hne) ⟨hw.vP.alloc hw.vP.size _, ?_, ?_, ?_, ?_, ?_, ?_, ?_, ?_⟩
    ·rw [e0,e4,e6,e7,jZ,xR];exact ⟨hw.ord.1,fun h=>⟨(hw.ord.2.1 h).1,rfl⟩,hw.ord.2.2⟩
    ·rw [e0,e4];exact fun h1 h2=>(hw.r0 h1 h2).alloc _
    ·rw [e4,e7];exact fun h1 h2=>(hw.r4 h1 h2).alloc _
    ·rw [e7,jZ];exact fun h1 h2=>(hw.r7 h1 h2).alloc _
    ·rw [jZ];exact fun h1=>(hw.Tp h1).alloc _
    ·intro _ _;exact Z' w _
    ·rw [e0,e4];exact fun h1 _ h3 e=>Nat.lt_irrefl _ ((hw.r0 h1 h3).lt _ e).2
    ·rw [e4,e7];exact fun h1 _ h3 e=>Nat.lt_irrefl _ ((hw.r4 h1 h3).lt _ e).2
  ·obtain rfl:=so ho rfl
   have d4:=dq aD 4
   have d6:=dq aD 6
   obtain ⟨v26,w26⟩:=bc.vv (x.u2) 26 4 d4
   obtain ⟨v28,w28⟩:=bc.vv (.slice (some ⟨x.g,0,none⟩) 1 1) 28 6 d6
   clear aD ho
   have e0:=qn 0 (by decide)
   have e4:=qn 4 (by decide)
   have e6:=qn 6 (by decide)
   have e7:=qi
   have jZ:=qn 11 (by decide)
   have xR:=qn 12 (by decide)
   have WS:D.getD 11 false=false:=by
    cases hx:D.getD 11 false with
    |false=>rfl
    |true=>rw [hw.ord.2.2.1 hx] at bH;cases bH
   obtain ⟨i9,A5,nR,nQ,nP⟩:=info_parts pX
   obtain ⟨v',w',hrun,yI,pZ,_,iP⟩:=run_append_own_at (P:=p_) w w1.heap.size 61 61 114 i9 _ 2 16 Tryz.underlying61 A5 nR nQ nP rfl (by decide) x.u2 k _ (hw.r4 d4 bH) ⟨x.g,0,none⟩ 1 1 [.int .i64 y.1,.int .i64 y.2] rfl (World.news_of_block (w:=w) (hw.n6 d6 bH)) (by intro u hu;simp at hu;rcases hu with rfl|rfl<;>rfl) (by unfold maxLen;omega) (by omega) hw.vP.size
   refine bj (v:=v') (w':=w') rfl rfl ?_ ?_
   ·clear bc hw aA bH qi qn e0 e4 e6 e7 jZ xR
    simp only [List.getElem_toArray,List.getElem_cons_succ,List.getElem_cons_zero,execOp,resolve,invoke,builtin,Sem.run_bind,Sem.run_pure,Result.andThen_ok,List.map_toArray,List.map_cons,List.map_nil,v26,v28,hrun]
   ·have bR:∀g,x.u2.ownBlock=some g->w1.heap.size<=g:=fun g e=>((hw.r4 d4 bH).lt g e).1
    refine aA.out ⟨x.u1,x.u2,v',x.u4,x.g⟩ _ (fun j hj=>by
     have hne:j≠7:=fun e=>by rw [e,bH] at hj;cases hj
     unfold ny;split<;>first|rfl|exact absurd rfl hne) ⟨hw.vP.grown pZ hw.vP.size bR, ?_, ?_, ?_, ?_, ?_, ?_, ?_, ?_⟩
    ·rw [e0,e4,e6,e7,jZ,xR];exact ⟨hw.ord.1,fun _=>⟨d4,d6⟩,fun _=>rfl,hw.ord.2.2.2⟩
    ·rw [e4,d4];exact fun _ h=>by cases h
    ·rw [e7];exact fun _ h=>by cases h
    ·intro _ _;rw [gE];exact yI
    ·rw [jZ,WS];exact fun h=>by cases h
    ·rw [e7];exact fun _ h=>by cases h
    ·rw [e4,d4];exact fun _ _ h=>by cases h
    ·rw [e7];exact fun _ _ h=>by cases h
  ·obtain rfl:=so ho rfl
   obtain ⟨v0,w0⟩:=bc.oo (.slice (some ⟨ga,0,none⟩) ws.length cap) 0
   clear aD ho
   exact iY rfl (.slice (some ⟨ga,0,none⟩) ws.length cap) (aA.out x w (fun _ _=>rfl) (hw.same qn (by decide)))
  ·obtain rfl:=so ho rfl
   obtain ⟨v5,w5⟩:=bc.oo (.int .i64 (k:Nat)) 5
   clear aD ho
   exact iY rfl (.int .i64 (k:Nat)) (aA.out x w (fun _ _=>rfl) (hw.same qn (by decide)))
  ·obtain rfl:=so ho rfl
   have d8:=dq aD 8
   have d9:=dq aD 9
   obtain ⟨v30,w30⟩:=bc.vv (.slice (some ⟨ga,0,none⟩) ws.length cap) 30 8 d8
   obtain ⟨v31,w31⟩:=bc.vv (.int .i64 (k:Nat)) 31 9 d9
   clear aD ho
   have hkc:¬cap<k:=by omega
   have Zn:k<=cap:=by omega
   refine bj (v:=.slice (some ad) (ws.length - k) (cap - k)) (w':=w) rfl rfl ?_ (aA.out x w (fun _ _=>rfl) (hw.same qn (by decide)))
   clear bc hw aA bH qi qn
   rw [had]
   go_simp
   split<;>rfl
  ·obtain rfl:=so ho rfl
   have d7:=dq aD 7
   have d10:=dq aD 10
   obtain ⟨v29,w29⟩:=bc.vv (x.u3) 29 7 d7
   obtain ⟨v32,w32⟩:=bc.vv (.slice (some ad) (ws.length - k) (cap - k)) 32 10 d10
   clear aD ho
   have e0:=qn 0 (by decide)
   have e4:=qn 4 (by decide)
   have e6:=qn 6 (by decide)
   have e7:=qn 7 (by decide)
   have jZ:=qi
   have xR:=qn 12 (by decide)
   have h12:D.getD 12 false=false:=by
    cases hx:D.getD 12 false with
    |false=>rfl
    |true=>rw [hw.ord.2.2.2 hx] at bH;cases bH
   have hr:=hR.out.below hL.out hw.vP
   have d4:=(hw.ord.2.1 d7).1
   obtain ⟨i9,A5,nR,nQ,nP⟩:=info_parts pX
   obtain ⟨v',w',hrun,yI,pZ,_,iP⟩:=run_append_own_at (P:=p_) w w1.heap.size 61 61 114 i9 _ 2 16 Tryz.underlying61 A5 nR nQ nP rfl (by decide) x.u3 (k+1) _ (hw.r7 d7 bH) ad (ws.length - k) (cap - k) (ax (ws.drop k)) (by rw [pT,List.length_drop]) (MI hr lJ had) (vY _) (by unfold maxLen;omega) (by omega) hw.vP.size
   refine bj (v:=v') (w':=w') rfl rfl ?_ ?_
   ·clear bc hw aA bH qi qn e0 e4 e6 e7 jZ xR
    simp only [List.getElem_toArray,List.getElem_cons_succ,List.getElem_cons_zero,execOp,resolve,invoke,builtin,Sem.run_bind,Sem.run_pure,Result.andThen_ok,List.map_toArray,List.map_cons,List.map_nil,v29,v32,hrun]
   ·have bR:∀g,x.u3.ownBlock=some g->w1.heap.size<=g:=fun g e=>((hw.r7 d7 bH).lt g e).1
    refine aA.out ⟨x.u1,x.u2,x.u3,v',x.g⟩ _ (fun j hj=>by
     have hne:j≠11:=fun e=>by rw [e,bH] at hj;cases hj
     unfold ny;split<;>first|rfl|exact absurd rfl hne|(rw [h12] at hj;cases hj)) ⟨hw.vP.grown pZ hw.vP.size bR, ?_, ?_, ?_, ?_, ?_, ?_, ?_, ?_⟩
    ·rw [e0,e4,e6,e7,jZ,xR];exact ⟨hw.ord.1,hw.ord.2.1,fun _=>d7,fun _=>rfl⟩
    ·rw [e4,d4];exact fun _ h=>by cases h
    ·rw [e7,d7];exact fun _ h=>by cases h
    ·rw [jZ];exact fun _ h=>by cases h
    ·intro _
     have e1:k+1+(ws.length - k)=ws.length+1:=by omega
     rw [e1,<-gE] at yI
     exact yI
    ·rw [e7,d7];exact fun _ h=>by cases h
    ·rw [e4,d4];exact fun _ _ h=>by cases h
    ·rw [e7,d7];exact fun _ _ h=>by cases h
  ·obtain rfl:=so ho rfl
   have d11:=dq aD 11
   obtain ⟨v33,w33⟩:=bc.vv (x.u4) 33 11 d11
   clear aD ho
   have e0:=qn 0 (by decide)
   have e4:=qn 4 (by decide)
   have e6:=qn 6 (by decide)
   have e7:=qn 7 (by decide)
   have jZ:=qn 11 (by decide)
   have xR:=qi
   refine bj (v:=x.u4) (w':=w) rfl rfl ?_ (aA.out x w (fun _ _=>rfl) ⟨hw.vP,by rw [e0,e4,e6,e7,jZ,xR];exact ⟨hw.ord.1,hw.ord.2.1,hw.ord.2.2.1,fun _=>d11⟩,by rw [e0,e4];exact hw.r0,by rw [e4,e7];exact hw.r4,by rw [e7,jZ];exact hw.r7,by rw [jZ];exact hw.Tp,by rw [e6,e7];exact hw.n6,by rw [e0,e6,e4];exact hw.a0,by rw [e4,e6,e7];exact hw.a4⟩)
   clear bc hw aA bH qi qn e0 e4 e6 e7 jZ xR
   go_simp
 ·intro D x w hd hw
  have:=hQ w x.u4 (x.u1) (.slice (some ⟨ga,0,none⟩) ws.length cap) (.int .i64 (k:Nat)) (.slice (some ⟨ga,0,none⟩) k cap) (x.u2) (.agg #[.int .i64 y.1,.int .i64 y.2]) (.slice (some ⟨x.g,0,none⟩) 1 1) (x.u3) (.slice (some ⟨ga,0,none⟩) ws.length cap) (.int .i64 (k:Nat)) (.slice (some ad) (ws.length - k) (cap - k)) (x.u4) (hw.Tp (hd 11 (by decide))) hw.vP
  generalize bc:slotsOf _ bs (ny ws k y ga cap ad x)=sl
  have eS:sl=#[.slice (some ⟨ga,0,none⟩) ws.length cap,z1,z2,.pointer (some ⟨bx,0,none⟩),x.u4,.int .i64 (k:Nat),z6,z7,z8,z9,dB,cZ,z12,de,dn,dm,dk,dj,dA,dz,z20,z21,x.u1,.slice (some ⟨ga,0,none⟩) ws.length cap,.int .i64 (k:Nat),.slice (some ⟨ga,0,none⟩) k cap,x.u2,.agg #[.int .i64 y.1,.int .i64 y.2],.slice (some ⟨x.g,0,none⟩) 1 1,x.u3,.slice (some ⟨ga,0,none⟩) ws.length cap,.int .i64 (k:Nat),.slice (some ad) (ws.length - k) (cap - k),x.u4]:=by rw [<-bc,<-cn];kernel_rfl
  rw [eS]
  exact this
theorem AK {cap:Nat} {y:Int × Int} (hr:gL w (.slice (some ⟨ga,0,none⟩) ws.length cap) ws.length (ax ws)) (hl:Low w (.slice (some ⟨ga,0,none⟩) ws.length cap)) (hn:ws.length<=1000) (lJ:ws.length<=cap) (BJ:cap<=maxLen):
 Calls p_ 112 #[.slice (some ⟨ga,0,none⟩) ws.length cap,.agg #[.int .i64 y.1,.int .i64 y.2]] w fun e w'=>∃u,e=.returned u/\w'.ownsRow w.heap.size 114 2 u (ws.length+1) (ax (gY ws (placeOf ws y.2) y))/\g_ w.heap.size w w':=by
 obtain ⟨w1,cf⟩:∃w1,w.alloc (.cells #[.int .i64 y.1,.int .i64 y.2] 114)=w1:=⟨_,rfl⟩
 have lr:f_ (w1.heap.size=w.heap.size+1):=by rw [<-cf];exact B_ ..
 have c0:w1.cell? ⟨w.heap.size,0,none⟩=some (.int .i64 y.1):=by rw [<-cf];exact bJ rfl
 have c1:w1.cell? ⟨w.heap.size,1,none⟩=some (.int .i64 y.2):=by rw [<-cf];exact bJ rfl
 have eo:g_ w.heap.size w w1:=by rw [<-cf];exact (h_ _ _).alloc (C_ _) _
 have hR:=aa (hr.below hl eo)
 have hL:f_ (Low w1 (.slice (some ⟨ga,0,none⟩) ws.length cap)):=fun g hg=>by have:=hl g hg;have:=lr.out;omega
 have eo:=aa eo
 have BJ:=aa BJ
 clear hr hl
 go_enter func112,ntmps112
 go_wp2_with fail
 clear cf
 go_loopw [5] (fun i wr=>∃k:Nat,k<=ws.length/\i=.int .i64 (k:Nat)/\f_ (∀j (hj:j<ws.length),j<k->y.2<=(ws[j]).2)/\f_ (wr.heap=w1.heap/\wr.os=w1.os/\wr.tape=w1.tape/\wr.output=w1.output)) (fun i _=>ws.length - (intOf i).toNat)
 case atStart=>exact ⟨0,Nat.zero_le _,rfl,fun j hj h=>by omega,rfl,rfl,rfl,rfl⟩
 case round=>
  obtain ⟨k,hk,rfl,hT,hW⟩:=hrel
  by_cases hlt:k<ws.length
  ·have gJ:(k:Int)<(ws.length:Int):=by omega
   have SG:f_ (gL wr (.slice (some ⟨ga,0,none⟩) ws.length cap) ws.length (ax ws)):=hR.out.keep fun g _=>by rw [hW.out.1]
   have d1:wr.cell? ⟨w.heap.size,1,none⟩=some (.int .i64 y.2):=(J_ (by rw [hW.out.1])).trans c1
   obtain ⟨g,cap',hv,Vh,z0,z1⟩:=pR SG.out hlt
   injection hv with e1 e2 e3
   injection e1 with e1
   injection e1 with e1
   subst e1 e3
   have dS:f_ (∀h:y.2<=(ws[k]).2,∀j (hj:j<ws.length),j<k+1->y.2<=(ws[j]).2):=fun h0 j hj Dy=>by
    by_cases e:j=k
    ·subst e;exact h0
    ·exact hT.out j hj (by omega)
   have yd:f_ (¬y.2<=(ws[k]).2->placeOf ws y.2=k):=fun h=>nI hk (fun j hj h=>hT.out j hj h) (fun _=>h)
   generalize ws[k]=p at z0 z1 dS yd
   by_cases hc:y.2<=p.2
   ·have h1:=aa (dS.out hc)
    clear dS yd z0
    go_wp2_with fail
    go_region
    go_wp2_with fail
    go_roundw
    case rel=>exact ⟨k+1,by omega,by go_num,h1,hW⟩
    case measure=>simp [intOf];omega
   ·have h1:=aa (yd.out hc)
    clear dS yd z0
    go_wp2_with fail
    go_region
    go_wp2_with fail
    have C8:wr.drew.heap=w1.heap:=hW.out.1
    have ZK:f_ (g_ w.heap.size w wr.drew):=⟨hW.out.2.1.trans eo.out.os,hW.out.2.2.1.trans eo.out.tape,hW.out.2.2.2.trans eo.out.output,by rw [C8];exact eo.out.size,fun g hg=>by rw [C8];exact eo.out.block g hg⟩
    refine Jl (w1:=wr.drew) rfl (ga:=ga) (cap:=cap) (bx:=w.heap.size) (y:=y) (k:=k) (SG.out.keep fun g _=>rfl) (fun g hg=>by rw [C8];exact hL.out g hg) hn hk rfl lJ BJ.out (by rw [C8,lr.out];omega) ((J_ (by rw [C8])).trans c0) ((J_ (by rw [C8])).trans c1) fun w2 v Yp Yo Yn Ym Yl Yk Yj Yi Yh Yg Sn Sm ho hb=> ?_
    have h2:f_ (w2.ownsRow w.heap.size 114 2 v (ws.length+1) (ax (gY ws (placeOf ws y.2) y))/\g_ w.heap.size w w2):=by
     rw [h1.out]
     exact ⟨gG ho (by rw [C8,lr.out];omega),ZK.out.trans (hb.mono (by rw [C8,lr.out];omega))⟩
    clear ho hb
    go_wp2_with fail
    go_ret
    exact ⟨_,rfl,h2.out⟩
  ·obtain rfl:k=ws.length:=by omega
   have h1:f_ (placeOf ws y.2=ws.length):=nI (C_ _) (fun j hj h=>hT.out j hj h) (fun h=>absurd h (Nat.lt_irrefl _))
   have SG:f_ (gL wr (.slice (some ⟨ga,0,none⟩) ws.length cap) ws.length (ax ws)):=hR.out.keep fun g _=>by rw [hW.out.1]
   go_wp2_with fail
   go_region
   go_wp2_with fail
   have C8:wr.drew.heap=w1.heap:=hW.out.1
   have ZK:f_ (g_ w.heap.size w wr.drew):=⟨hW.out.2.1.trans eo.out.os,hW.out.2.2.1.trans eo.out.tape,hW.out.2.2.2.trans eo.out.output,by rw [C8];exact eo.out.size,fun g hg=>by rw [C8];exact eo.out.block g hg⟩
   refine Jl (w1:=wr.drew) rfl (ga:=ga) (cap:=cap) (bx:=w.heap.size) (y:=y) (k:=ws.length) (SG.out.keep fun g _=>rfl) (fun g hg=>by rw [C8];exact hL.out g hg) hn (C_ _) rfl lJ BJ.out (by rw [C8,lr.out];omega) ((J_ (by rw [C8])).trans c0) ((J_ (by rw [C8])).trans c1) fun w2 v Yp Yo Yn Ym Yl Yk Yj Yi Yh Yg Sn Sm ho hb=> ?_
   have h2:f_ (w2.ownsRow w.heap.size 114 2 v (ws.length+1) (ax (gY ws (placeOf ws y.2) y))/\g_ w.heap.size w w2):=by
    rw [h1.out]
    exact ⟨gG ho (by rw [C8,lr.out];omega),ZK.out.trans (hb.mono (by rw [C8,lr.out];omega))⟩
   clear ho hb
   go_wp2_with fail
   go_ret
   exact ⟨_,rfl,h2.out⟩
structure bA (B:Nat) (m:Rm) (vr vw vb:M') (w:J'):Prop where
 big:B<=w.heap.size
 recs:w.ownsRow B 44 7 vr m.recs.length (cj m.recs)
 wait:w.ownsRow B 114 2 vw m.wait.length (ax m.wait)
 back:w.ownsRow B 114 2 vb m.back.length (ax m.back)
 apart:∀g,vw.ownBlock=some g->vb.ownBlock≠some g
 iQ:∃g,vw.ownBlock=some g
structure bg (vr vb:M') (w w':J'):Prop where
 os:w'.os=w.os
 tape:w'.tape=w.tape
 output:w'.output=w.output
 size:w.heap.size<=w'.heap.size
 block:∀g,g<w.heap.size->vr.ownBlock≠some g->vb.ownBlock≠some g->w'.heap[g]?=w.heap[g]?
theorem bg.refl (vr vb:M') (w:J'):bg vr vb w w:=⟨rfl,rfl,rfl,C_ _,fun _ _ _ _=>rfl⟩
variable {vr vb:M'} {a:J'}
theorem bg.trans {b c:J'} (h:bg vr vb a b) (k:bg vr vb b c):bg vr vb a c:=⟨k.os.trans h.os,k.tape.trans h.tape,k.output.trans h.output,D_ h.size k.size,fun g hg h1 h2=>(k.block g (E_ hg h.size) h1 h2).trans (h.block g hg h1 h2)⟩
theorem bg.then {qb qS:M'} {b c:J'} (h:bg vr vb a b) (k:bg qb qS b c) (hr:∀g,g<a.heap.size->qb.ownBlock=some g->vr.ownBlock=some g) (hb:∀g,g<a.heap.size->qS.ownBlock=some g->vb.ownBlock=some g):bg vr vb a c:=
 ⟨k.os.trans h.os,k.tape.trans h.tape,k.output.trans h.output,D_ h.size k.size,fun g hg h1 h2=>(k.block g (E_ hg h.size) (fun e=>h1 (hr g hg e)) (fun e=>h2 (hb g hg e))).trans (h.block g hg h1 h2)⟩
variable {w':J'}
theorem bg.bW (h:g_ w.heap.size w w'):bg vr vb w w':=⟨h.os,h.tape,h.output,h.size,fun g hg _ _=>h.block g hg⟩
theorem bg.drew:bg vr vb w w.drew:=⟨rfl,rfl,rfl,C_ _,fun _ _ _ _=>rfl⟩
theorem bg.alloc (o:Obj):bg vr vb w (w.alloc o):=.bW ((h_ _ _).alloc (C_ _) o)
theorem bg.te {n:Nat} {v:M'} (h:vr.ownBlock=some g):bg vr vb w (w.setCell ⟨g,n,none⟩ v):=⟨rfl,rfl,rfl,by simp,fun i _ h1 _=>a_ w ⟨g,n,none⟩ i v (fun e=>h1 (by rw [h,show i=g from e]))⟩
theorem bg.i7 {n:Nat} {v:M'} (h:bg vr vb a w) (hg:a.heap.size<=g):bg vr vb a (w.setCell ⟨g,n,none⟩ v):=⟨h.os,h.tape,h.output,by rw [o_];exact h.size,fun i hi h1 h2=>(a_ w ⟨g,n,none⟩ i v (fun e=>by have:i=g:=e;omega)).trans (h.block i hi h1 h2)⟩
variable {B sz:Nat} {xs:List M'}
theorem fE {e n:Nat} {v:M'} (h:w.ownsRow B e sz v n xs) (hk:∀g,v.ownBlock=some g->w'.heap[g]?=w.heap[g]?):w'.ownsRow B e sz v n xs:=by
 refine ⟨h.1, ?_⟩
 rcases h.2 with h0|⟨g,cap,cur,h1,h2,h3,h4⟩
 ·exact .inl h0
 ·exact .inr ⟨g,cap,cur,h1,h2,by rw [hk g (by rw [h1];rfl)];exact h3,h4⟩
variable {m:Rm}
theorem bA.keep {vw:M'} (R:bA B m vr vw vb w) (hs:w.heap.size<=w'.heap.size) (hk:∀g,B<=g->g<w.heap.size->w'.heap[g]?=w.heap[g]?):bA B m vr vw vb w':=
 ⟨D_ R.big hs,fE R.recs fun g e=>hk g (R.recs.lt g e).1 (R.recs.lt g e).2,fE R.wait fun g e=>hk g (R.wait.lt g e).1 (R.wait.lt g e).2,fE R.back fun g e=>hk g (R.back.lt g e).1 (R.back.lt g e).2,R.apart,R.iQ⟩
theorem bA.below {vw:M'} (R:bA B m vr vw vb w) (h:g_ w.heap.size w w'):bA B m vr vw vb w':=R.keep h.size fun g _ hg=>h.block g hg
theorem bA.alloc {vw:M'} (R:bA B m vr vw vb w) (o:Obj):bA B m vr vw vb (w.alloc o):=R.below ((h_ _ _).alloc (C_ _) o)
theorem bA.drew {vw:M'} (R:bA B m vr vw vb w):bA B m vr vw vb w.drew:=R.keep (C_ _) fun _ _ _=>rfl
variable {b:Nat}
theorem bA.cell {vw:M'} (R:bA B m vr vw vb w) {n:Nat} {v:M'} (h1:vr.ownBlock≠some b) (h2:vw.ownBlock≠some b) (h3:vb.ownBlock≠some b):bA B m vr vw vb (w.setCell ⟨b,n,none⟩ v):=
 ⟨by rw [o_];exact R.big,fE R.recs fun g e=>a_ w ⟨b,n,none⟩ g v (fun x=>h1 (by rw [e,show g=b from x])),fE R.wait fun g e=>a_ w ⟨b,n,none⟩ g v (fun x=>h2 (by rw [e,show g=b from x])),fE R.back fun g e=>a_ w ⟨b,n,none⟩ g v (fun x=>h3 (by rw [e,show g=b from x])),R.apart,R.iQ⟩
theorem bA.nN {vw:M'} (R:bA B m vr vw vb w):Low w vr/\Low w vw/\Low w vb:=⟨fun g e=>(R.recs.lt g e).2,fun g e=>(R.wait.lt g e).2,fun g e=>(R.back.lt g e).2⟩
theorem bA.set {vw:M'} (R:bA B m vr vw vb w) {cap:Nat} (hv:vr=.slice (some ⟨g,0,none⟩) m.recs.length cap) (hi:i<m.recs.length) (hk:k<7) {v:M'} {r:Rec} (hr:r.cells=(m.recs[i]).cells.set k v):
 bA B {m with recs:=m.recs.set i r} vr vw vb (w.setCell ⟨g,i * 7+k,none⟩ v):=by
 have ho:=R.recs
 have hg:vr.ownBlock=some g:=by rw [hv];rfl
 have n1:=gF R.wait ho (by decide)
 have n2:=gF R.back ho (by decide)
 have hs:∀j,j≠g->(w.setCell ⟨g,i * 7+k,none⟩ v).heap[j]?=w.heap[j]?:=fun j hj=>a_ w ⟨g,i * 7+k,none⟩ j v hj
 refine ⟨by rw [o_];exact R.big, ?_,fE R.wait fun j e=>hs j fun x=> ?_,fE R.back fun j e=>hs j fun x=> ?_,R.apart,R.iQ⟩
 ·rw [hv] at ho ⊢
  have:=(ho.stored (i * 7+k) v).1
  simpa [cj,sK Rec.cells 7 (fun _=>rfl) _ _ _ hi hk v r hr] using this
 ·subst x;rcases n1 with h|h
  ·rw [h] at e;cases e
  ·exact h (e.trans hg.symm)
 ·subst x;rcases n2 with h|h
  ·rw [h] at e;cases e
  ·exact h (e.trans hg.symm)
theorem bA.rd {vw:M'} (R:bA B m vr vw vb w):gL w vr m.recs.length (cj m.recs)/\gL w vw m.wait.length (ax m.wait)/\gL w vb m.back.length (ax m.back):=by
 have l1:=Ad m.recs
 have l2:=pT m.wait
 have l3:=pT m.back
 exact ⟨Ed R.recs (by omega),Ed R.wait (by omega),Ed R.back (by omega)⟩
theorem bA.waits {vw:M'} (R:bA B m vr vw vb w) (hb:g_ w.heap.size w w') {u:M'} (h:w'.ownsRow w.heap.size 114 2 u ws.length (ax ws)) (hu:∃g,u.ownBlock=some g):bA B {m with wait:=ws} vr u vb w':=by
 have R':=R.below hb
 exact ⟨R'.big,R'.recs,gG h R.big,R'.back,fun g e e2=>by have:=(h.lt g e).1;have:=(R.back.lt g e2).2;omega,hu⟩
theorem bA.Gx {vw:M'} (R:bA B m vr vw vb w) (hb:g_ w.heap.size w w') {u:M'} (h:w'.ownsRow w.heap.size 114 2 u ws.length (ax ws)):bA B {m with back:=ws} vr vw u w':=by
 have R':=R.below hb
 exact ⟨R'.big,R'.recs,R'.wait,gG h R.big,fun g e e2=>by have:=(h.lt g e2).1;have:=(R.wait.lt g e).2;omega,R'.iQ⟩
theorem sM {q:Bs} (hi:i<m.recs.length):jJ m i q={m with recs:=m.recs.set i {m.recs[i] with wI:=m.clock,fin:=q},wait:=aJ m.wait (m.recs[i]).call}:=by
 unfold jJ;rw [List.getElem?_eq_getElem hi]
def Box8 (w:J') (b:Nat) (c:Array M'):Prop:=∃t,w.heap[b]?=some (.cells c t (0,0))
def ia:Array M':=#[.int .i64 0,.int .i64 0,.int .i64 0,.int .i64 0,.slice none 0 0,.slice none 0 0,.slice none 0 0,.slice none 0 0]
def b8 (w:J') (b:Nat) (v0 v1 v2 v3 v4 v5 v6 v7:M'):J':=(((((((w.setCell ⟨b,0,none⟩ v0).setCell ⟨b,1,none⟩ v1).setCell ⟨b,2,none⟩ v2).setCell ⟨b,3,none⟩ v3).setCell ⟨b,4,none⟩ v4).setCell ⟨b,5,none⟩ v5).setCell ⟨b,6,none⟩ v6).setCell ⟨b,7,none⟩ v7
theorem lB {o0 o1 o2 o3 o4 o5 o6 o7:M'} {t:Q'} (h:w.heap[b]?=some (.cells #[o0,o1,o2,o3,o4,o5,o6,o7] t (0,0))) (v0 v1 v2 v3 v4 v5 v6 v7:M'):(b8 w b v0 v1 v2 v3 v4 v5 v6 v7).heap[b]?=some (.cells #[v0,v1,v2,v3,v4,v5,v6,v7] t (0,0)):=by
 have h0:=Go.heap_setCell_same w b 0 _ t v0 h
 simp at h0
 have h1:=Go.heap_setCell_same _ b 1 _ t v1 h0
 simp at h1
 have h2:=Go.heap_setCell_same _ b 2 _ t v2 h1
 simp at h2
 have h3:=Go.heap_setCell_same _ b 3 _ t v3 h2
 simp at h3
 have h4:=Go.heap_setCell_same _ b 4 _ t v4 h3
 simp at h4
 have h5:=Go.heap_setCell_same _ b 5 _ t v5 h4
 simp at h5
 have h6:=Go.heap_setCell_same _ b 6 _ t v6 h5
 simp at h6
 have h7:=Go.heap_setCell_same _ b 7 _ t v7 h6
 simp at h7
 exact h7
variable {v1 v2 v3 v4 v5 v6 v7:M'}
theorem kN {j:Nat} {v0:M'} (h:j≠b):(b8 w b v0 v1 v2 v3 v4 v5 v6 v7).heap[j]?=w.heap[j]?:=by
 unfold b8
 iterate 8 rw [a_ _ ⟨b,_,none⟩ j _ h]
theorem aG {v0:M'} {t:Q'} (h:w.heap[b]?=some (.cells #[v0,v1,v2,v3,v4,v5,v6,v7] t (0,0))):
 (w.cell? ⟨b,0,none⟩=some v0/\w.cell? ⟨b,1,none⟩=some v1/\w.cell? ⟨b,2,none⟩=some v2/\w.cell? ⟨b,3,none⟩=some v3/\w.cell? ⟨b,4,none⟩=some v4/\w.cell? ⟨b,5,none⟩=some v5/\w.cell? ⟨b,6,none⟩=some v6/\w.cell? ⟨b,7,none⟩=some v7)/\
 (w.frozen? ⟨b,0,none⟩=false/\w.frozen? ⟨b,1,none⟩=false/\w.frozen? ⟨b,2,none⟩=false/\w.frozen? ⟨b,3,none⟩=false/\w.frozen? ⟨b,4,none⟩=false/\w.frozen? ⟨b,5,none⟩=false/\w.frozen? ⟨b,6,none⟩=false/\w.frozen? ⟨b,7,none⟩=false):=
 ⟨⟨aB h,aB h,aB h,aB h,aB h,aB h,aB h,aB h⟩,bX h,bX h,bX h,bX h,bX h,bX h,bX h,bX h⟩
theorem bA.b8 {vw:M'} (R:bA B m vr vw vb w) {v0:M'} (h1:vr.ownBlock≠some b) (h2:vw.ownBlock≠some b) (h3:vb.ownBlock≠some b):bA B m vr vw vb (b8 w b v0 v1 v2 v3 v4 v5 v6 v7):=by
 unfold Of.b8
 exact (((((((R.cell h1 h2 h3).cell h1 h2 h3).cell h1 h2 h3).cell h1 h2 h3).cell h1 h2 h3).cell h1 h2 h3).cell h1 h2 h3).cell h1 h2 h3
theorem bg.b8 (h:bg vr vb a w) {v0:M'} (hg:a.heap.size<=b):bg vr vb a (b8 w b v0 v1 v2 v3 v4 v5 v6 v7):=by
 unfold Of.b8
 exact (((((((h.i7 hg).i7 hg).i7 hg).i7 hg).i7 hg).i7 hg).i7 hg).i7 hg
theorem EZ {c:Array M'} {t:Q'} (h:w.heap[b]?=some (.cells c t (0,0))) (n:Nat):w.frozen? ⟨b,n,none⟩=false:=by
 unfold World.frozen?
 rw [show (⟨b,n,none⟩:Addr).block=b from rfl,h]
 simp
theorem xm {vw vl:M'} {L O P:Int} (R:bA B m vr vw vb w) (hi:i<m.recs.length) (hn:m.recs.length<=1000) (L9:m.wait.length<=1000) (mP:∃a n c,vl=.slice a n c) (q:Bs):
 Calls p_ 116 #[jD L O P m.clock vr vw vb vl,.int .i64 (i:Nat),.string ⟨q.toArray⟩] w fun e w'=>∃jA,e=.returned (jD L O P m.clock vr jA vb vl)/\bA B (jJ m i q) vr jA vb w'/\bg vr (.slice none 0 0) w w'/\(∀g,jA.ownBlock=some g->w.heap.size<=g):=by
 rw [sM hi]
 obtain ⟨al,bM,cl,rfl⟩:=mP
 obtain ⟨ab,cb,oK⟩:=aE R.back
 subst oK
 obtain ⟨g,cap,hv,lJ,z0,z1,z2,z3,z4,z5,z6⟩:=nH R.rd.1 hi
 have f5:w.frozen? ⟨g,i * 7+5,none⟩=false:=by have:=R.recs;rw [hv] at this;exact this.frozenAt _
 have f6:w.frozen? ⟨g,i * 7+6,none⟩=false:=by have:=R.recs;rw [hv] at this;exact this.frozenAt _
 have hgw:=R.nN.1 g (by rw [hv];rfl)
 obtain ⟨w1,cf⟩:∃w1,(w.alloc (.cells (gi L O P m.clock vr vw (.slice ab m.back.length cb) (.slice al bM cl)) 63)).alloc (.cells ia 63)=w1:=⟨_,rfl⟩
 have lr:f_ (w1.heap.size=w.heap.size+2):=by rw [f_,<-cf,B_,B_]
 have eo:g_ w.heap.size w w1:=by rw [<-cf];exact ((h_ _ _).alloc (C_ _) _).alloc (by rw [B_];exact Nat.le_succ _) _
 have DF:f_ (w1.heap[w.heap.size]?=some (.cells (gi L O P m.clock vr vw (.slice ab m.back.length cb) (.slice al bM cl)) 63 (0,0))):=by rw [f_,<-cf];exact br (Z' w _)
 have jx:f_ (w1.heap[w.heap.size+1]?=some (.cells ia 63 (0,0))):=by
  have:=Z' (w.alloc (.cells (gi L O P m.clock vr vw (.slice ab m.back.length cb) (.slice al bM cl)) 63)) (.cells ia 63)
  rw [B_,cf] at this
  exact this
 have R1:=R.below eo
 obtain ⟨g',cap',hv',Vh,y0,y1,y2,y3,y4,y5,y6⟩:=nH R1.rd.1 hi
 rw [hv] at hv'
 injection hv' with e1 e2 e3
 injection e1 with e1
 injection e1 with e1
 subst e1 e3
 have x5:w1.frozen? ⟨g,i * 7+5,none⟩=false:=by have:=R1.recs;rw [hv] at this;exact this.frozenAt _
 have x6:w1.frozen? ⟨g,i * 7+6,none⟩=false:=by have:=R1.recs;rw [hv] at this;exact this.frozenAt _
 have d3:w1.cell? ⟨w.heap.size,3,none⟩=some (.int .i64 m.clock):=by rw [aB DF.out];rfl
 have d4:w1.cell? ⟨w.heap.size,4,none⟩=some vr:=by rw [aB DF.out];rfl
 have d5:w1.cell? ⟨w.heap.size,5,none⟩=some vw:=by rw [aB DF.out];rfl
 have hne:w.heap.size≠g:=by omega
 have RA:=R1.set hv hi (k:=5) (by decide) (v:=.int .i64 m.clock) (r:={m.recs[i] with wI:=m.clock}) rfl
 have RB:=RA.set (i:=i) (g:=g) (cap:=cap) (by rw [hv];simp) (by simpa using hi) (k:=6) (by decide) (v:=.string ⟨q.toArray⟩) (r:={m.recs[i] with wI:=m.clock,fin:=q}) (by simp [Rec.cells])
 simp only [List.set_set] at RB
 have Nq:=aa hi
 have RB:=aa RB
 have Qs:=aa hv
 have jX:f_ (((m.recs[i]).call=(m.recs[i]).call)):=rfl
 have WQ:f_ (bg vr (.slice none 0 0) w ((w1.setCell ⟨g,i * 7+5,none⟩ (.int .i64 m.clock)).setCell ⟨g,i * 7+6,none⟩ (.string ⟨q.toArray⟩))):=(bg.bW eo).trans ((bg.te (by rw [hv];rfl)).trans (bg.te (by rw [hv];rfl)))
 generalize m.recs[i]=r at *
 have eo:=aa eo
 have Rq:=aa R
 have hnv:f_ (m.recs.length=m.recs.length):=rfl
 clear R RA R1 hv z0 z1 z2 z3 z4 z5 z6 f5 f6
 rw [Qs.out] at d4
 unfold gi ia at cf
 rw [Qs.out] at cf
 unfold jD
 rw [Qs.out]
 go_enter func116,ntmps116
 go_wp2_with fail
 have D4:((w1.setCell ⟨g,i * 7+5,none⟩ (.int .i64 m.clock)).setCell ⟨g,i * 7+6,none⟩ (.string ⟨q.toArray⟩)).cell? ⟨w.heap.size,4,none⟩=some (.slice (some ⟨g,0,none⟩) m.recs.length cap):=by rw [di _ _ (.inl (Ne.symm hne)),di _ _ (.inl (Ne.symm hne))];exact d4
 have D5:((w1.setCell ⟨g,i * 7+5,none⟩ (.int .i64 m.clock)).setCell ⟨g,i * 7+6,none⟩ (.string ⟨q.toArray⟩)).cell? ⟨w.heap.size,5,none⟩=some vw:=by rw [di _ _ (.inl (Ne.symm hne)),di _ _ (.inl (Ne.symm hne))];exact d5
 have Y0:((w1.setCell ⟨g,i * 7+5,none⟩ (.int .i64 m.clock)).setCell ⟨g,i * 7+6,none⟩ (.string ⟨q.toArray⟩)).cell? ⟨g,i * 7,none⟩=some (.int .i64 r.call):=by rw [di _ _ (.inr (by simp)),di _ _ (.inr (by simp))];exact y0
 have hH:f_ (∀b,b≠g->((w1.setCell ⟨g,i * 7+5,none⟩ (.int .i64 m.clock)).setCell ⟨g,i * 7+6,none⟩ (.string ⟨q.toArray⟩)).heap[b]?=w1.heap[b]?):=fun b hb=>(a_ _ ⟨g,i * 7+6,none⟩ b _ hb).trans (a_ _ ⟨g,i * 7+5,none⟩ b _ hb)
 have hS:f_ (((w1.setCell ⟨g,i * 7+5,none⟩ (.int .i64 m.clock)).setCell ⟨g,i * 7+6,none⟩ (.string ⟨q.toArray⟩)).heap.size=w.heap.size+2):=by rw [f_,o_,o_];exact lr.out
 generalize (w1.setCell ⟨g,i * 7+5,none⟩ (.int .i64 m.clock)).setCell ⟨g,i * 7+6,none⟩ (.string ⟨q.toArray⟩)=w3 at *
 clear y0 y1 y2 y3 y4 y5 y6 x5 x6 d3 d4 d5 cf
 have G':w3.frozen? ⟨w.heap.size,5,none⟩=false:=by
  rw [World.frozen?_of_block (w:=w1) (hH.out w.heap.size hne)]
  exact EZ DF.out 5
 obtain ⟨aw,cw,qG⟩:=aE RB.out.wait
 simp only at qG
 subst qG
 have sY:f_ (Calls p_ 115 #[.slice aw m.wait.length cw,.int .i64 r.call] w3.drew fun e w'=>∃u,e=.returned u/\w'.ownsRow w3.drew.heap.size 114 2 u (aJ m.wait r.call).length (ax (aJ m.wait r.call))/\g_ w3.drew.heap.size w3.drew w'/\∃g,u.ownBlock=some g):=jR (w:=w3.drew) RB.out.drew.rd.2.1 (fun g e=>RB.out.nN.2.1 g e) L9 r.call
 have Z0:w3.drew.cell? ⟨w.heap.size,4,none⟩=some (.slice (some ⟨g,0,none⟩) m.recs.length cap)/\w3.drew.cell? ⟨w.heap.size,5,none⟩=some (.slice aw m.wait.length cw)/\w3.drew.cell? ⟨g,i * 7,none⟩=some (.int .i64 r.call):=⟨D4,D5,Y0⟩
 have Vs:f_ (w3.drew.heap.size=w.heap.size+2):=hS.out
 have FL:f_ (∀b,b≠g->w3.drew.heap[b]?=w1.heap[b]?):=hH.out
 have RBd:f_ (bA B {m with recs:=m.recs.set i {r with wI:=m.clock,fin:=q}} vr (.slice aw m.wait.length cw) (.slice ab m.back.length cb) w3.drew):=RB.out.drew
 have EX:f_ (bg vr (.slice none 0 0) w w3.drew):=WQ.out.trans .drew
 have hfd:w3.drew.frozen? ⟨w.heap.size,5,none⟩=false:=G'
 clear D4 D5 Y0 G'
 obtain ⟨Z1,Z2,Z3⟩:=Z0
 go_still_tail 8,(by kernel_rfl)
 change wpList _ _ _ _ _ w3.drew
 generalize w3.drew=w4 at *
 have iI:f_ (∀w5,g_ w4.heap.size w4 w5->w5.heap[w.heap.size]?=some (.cells (gi L O P m.clock vr (.slice aw m.wait.length cw) (.slice ab m.back.length cb) (.slice al bM cl)) 63 (0,0))/\w5.heap[w.heap.size+1]?=some (.cells ia 63 (0,0))):=fun w5 qo=>⟨(qo.block _ (by rw [Vs.out];omega)).trans ((FL.out _ hne).trans DF.out),(qo.block _ (by rw [Vs.out];omega)).trans ((FL.out _ (by omega)).trans jx.out)⟩
 rw [Qs.out] at iI
 clear Z1 Z2 Z3 hfd
 go_wp2_with (go_at_call 115;(with_reducible refine sY.out.mono ?_);rintro e w5 ⟨u,rfl,Nd,qo,YP⟩;obtain ⟨a5,H8,hu5⟩:=aE Nd;subst hu5;obtain ⟨⟨a0,a1,a2,a3,a4,a6,a7,a8⟩,f0,f1,f2,f3,f4,f5,f6,f7⟩:=aG (iI.out w5 qo).1;obtain ⟨⟨b0,b1,b2,b3,b4,b5,b6,b7⟩,t0,t1,t2,t3,t4,t5,t6,t7⟩:=aG (iI.out w5 qo).2)
 clear a0 a1 a2 a3 a4 a6 a7 a8 f0 f1 f2 f3 f4 f5 f6 f7 b0 b1 b2 b3 b4 b5 b6 b7 t0 t1 t2 t3 t4 t5 t6 t7
 obtain ⟨AP,M0⟩:=iI.out w5 qo
 have R5:=RBd.out.waits qo Nd YP
 have lH:vr.ownBlock=some g:=by rw [Qs.out];rfl
 have YK:∀j,w.heap.size<=j->j<w.heap.size+2->vr.ownBlock≠some j/\(Value.slice a5 (aJ m.wait r.call).length H8).ownBlock≠some j/\(Value.slice ab m.back.length cb).ownBlock≠some j:=fun j h1 h2=>⟨fun e=>by have:=M_ (lH.symm.trans e);omega,fun e=>by have:=(Nd.lt j e).1;rw [Vs.out] at this;omega,fun e=>by have:=Rq.out.nN.2.2 j e;omega⟩
 have q0:=YK w.heap.size (C_ _) (by omega)
 have q1:=YK (w.heap.size+1) (Nat.le_succ _) (by omega)
 have R6:=R5.cell (b:=w.heap.size) (n:=5) (v:=.slice a5 (aJ m.wait r.call).length H8) q0.1 q0.2.1 q0.2.2
 have F6:bg vr (.slice none 0 0) w (w5.setCell ⟨w.heap.size,5,none⟩ (.slice a5 (aJ m.wait r.call).length H8)):=(EX.out.trans (bg.bW qo)).i7 (C_ _)
 have Qo:(w5.setCell ⟨w.heap.size,5,none⟩ (.slice a5 (aJ m.wait r.call).length H8)).heap[w.heap.size+1]?=some (.cells ia 63 (0,0)):=(a_ w5 ⟨w.heap.size,5,none⟩ _ _ (by show w.heap.size+1≠w.heap.size;omega)).trans M0
 have lG:f_ (∀j,(Value.slice a5 (aJ m.wait r.call).length H8).ownBlock=some j->w.heap.size<=j):=fun j e=>by have:=(Nd.lt j e).1;rw [Vs.out] at this;omega
 have R7:=aa (R6.b8 (v0:=.int .i64 L) (v1:=.int .i64 O) (v2:=.int .i64 P) (v3:=.int .i64 m.clock) (v4:=.slice (some ⟨g,0,none⟩) m.recs.length cap) (v5:=.slice a5 (aJ m.wait r.call).length H8) (v6:=.slice ab m.back.length cb) (v7:=.slice al bM cl) q1.1 q1.2.1 q1.2.2)
 have F7:=aa (F6.b8 (b:=w.heap.size+1) (v0:=.int .i64 L) (v1:=.int .i64 O) (v2:=.int .i64 P) (v3:=.int .i64 m.clock) (v4:=.slice (some ⟨g,0,none⟩) m.recs.length cap) (v5:=.slice a5 (aJ m.wait r.call).length H8) (v6:=.slice ab m.back.length cb) (v7:=.slice al bM cl) (Nat.le_succ _))
 obtain ⟨⟨s0,s1,s2,s3,s4,s5,s6,s7⟩,_⟩:=aG (lB (show _=some (Obj.cells #[.int .i64 0,.int .i64 0,.int .i64 0,.int .i64 0,.slice none 0 0,.slice none 0 0,.slice none 0 0,.slice none 0 0] 63 (0,0)) from Qo) (.int .i64 L) (.int .i64 O) (.int .i64 P) (.int .i64 m.clock) (.slice (some ⟨g,0,none⟩) m.recs.length cap) (.slice a5 (aJ m.wait r.call).length H8) (.slice ab m.back.length cb) (.slice al bM cl))
 change bodyPost p_ f116 _ .ret _ (Of.b8 (w5.setCell ⟨w.heap.size,5,none⟩ (.slice a5 (aJ m.wait r.call).length H8)) (w.heap.size+1) (.int .i64 L) (.int .i64 O) (.int .i64 P) (.int .i64 m.clock) (.slice (some ⟨g,0,none⟩) m.recs.length cap) (.slice a5 (aJ m.wait r.call).length H8) (.slice ab m.back.length cb) (.slice al bM cl))
 generalize Of.b8 (w5.setCell ⟨w.heap.size,5,none⟩ (.slice a5 (aJ m.wait r.call).length H8)) (w.heap.size+1) (.int .i64 L) (.int .i64 O) (.int .i64 P) (.int .i64 m.clock) (.slice (some ⟨g,0,none⟩) m.recs.length cap) (.slice a5 (aJ m.wait r.call).length H8) (.slice ab m.back.length cb) (.slice al bM cl)=W at R7 F7 s0 s1 s2 s3 s4 s5 s6 s7 ⊢
 clear R5 R6 F6 Qo AP M0 q0 q1 YK Nd qo iI sY Vs FL RBd EX
 refine bodyPost_ret (v:=jD L O P m.clock (.slice (some ⟨g,0,none⟩) m.recs.length cap) (.slice a5 (aJ m.wait r.call).length H8) (.slice ab m.back.length cb) (.slice al bM cl)) (by simp [results,Tryz.results116,go_sem,jD,s0,s1,s2,s3,s4,s5,s6,s7]) rfl ?_
 exact ⟨_,rfl,by rw [<-Qs.out];exact R7.out,by rw [<-Qs.out];exact F7.out,lG.out⟩
theorem jF {e n:Nat} {v:M'} (h:w.ownsRow B e sz v n xs) (hg:v.ownBlock=some g):∃c,w.heap[g]?=some (.cells c e (0,0)):=by
 rcases h.2 with ⟨h0,_⟩|⟨g',cap,cur,h1,_,h3,_⟩
 ·rw [h0] at hg;cases hg
 ·rw [h1] at hg
  have:g'=g:=M_ hg
  subst this
  exact ⟨cur,h3⟩
theorem bB {e n:Nat} {v:M'} (h:w.ownsRow B e sz v n xs) {c:Array M'} {t:Q'} (hb:w.heap[b]?=some (.cells c t (0,0))) (ht:e≠t):v.ownBlock≠some b:=fun e1=>by
 obtain ⟨c',h2⟩:=jF h e1
 rw [hb] at h2
 simp at h2
 exact ht h2.2.symm
structure gO (w0:J') (r0 b0:M') (B:Nat) (m:Rm) (L O P:Int) (vr vw vb vl:M') (b2 b4:Nat) (w:J'):Prop where
 room:bA B m vr vw vb w
 fr:bg r0 b0 w0 w
 rr:∀g,g<w0.heap.size->vr.ownBlock=some g->r0.ownBlock=some g
 rb:∀g,g<w0.heap.size->vb.ownBlock=some g->b0.ownBlock=some g
 box:w.heap[b2]?=some (.cells (gi L O P m.clock vr vw vb vl) 63 (0,0))
 res:w.heap[b4]?=some (.cells ia 63 (0,0))
 l2:w0.heap.size<=b2
 l4:w0.heap.size<=b4
 ne:b2≠b4
section
variable {w0:J'} {r0 b0:M'} {L O P:Int} {vw vl:M'} {b2 b4:Nat}
theorem gO.LX (h:gO w0 r0 b0 B m L O P vr vw vb vl b2 b4 w):b2<w.heap.size:=(cI h.box)
theorem gO.Qf (h:gO w0 r0 b0 B m L O P vr vw vb vl b2 b4 w):b4<w.heap.size:=(cI h.res)
theorem gO.start (R:bA B m vr vw vb w0) (hb:g_ w0.heap.size w0 w) (h2:w.heap[b2]?=some (.cells (gi L O P m.clock vr vw vb vl) 63 (0,0))) (h4:w.heap[b4]?=some (.cells ia 63 (0,0))) (l2:w0.heap.size<=b2) (l4:w0.heap.size<=b4) (ne:b2≠b4):gO w0 vr vb B m L O P vr vw vb vl b2 b4 w:=
 ⟨R.below hb,.bW hb,fun _ _ h=>h,fun _ _ h=>h,h2,h4,l2,l4,ne⟩
theorem gO.below (h:gO w0 r0 b0 B m L O P vr vw vb vl b2 b4 w) (hb:g_ w.heap.size w w'):gO w0 r0 b0 B m L O P vr vw vb vl b2 b4 w':=
 ⟨h.room.below hb,h.fr.trans (.bW hb),h.rr,h.rb,(hb.block _ h.LX).trans h.box,(hb.block _ h.Qf).trans h.res,h.l2,h.l4,h.ne⟩
theorem gO.drew (h:gO w0 r0 b0 B m L O P vr vw vb vl b2 b4 w):gO w0 r0 b0 B m L O P vr vw vb vl b2 b4 w.drew:=h.below (h_ _ _).drew
theorem gO.oB (h:gO w0 r0 b0 B m L O P vr vw vb vl b2 b4 w):(vr.ownBlock≠some b2/\vw.ownBlock≠some b2/\vb.ownBlock≠some b2)/\(vr.ownBlock≠some b4/\vw.ownBlock≠some b4/\vb.ownBlock≠some b4):=
 ⟨⟨bB h.room.recs h.box (by decide),bB h.room.wait h.box (by decide),bB h.room.back h.box (by decide)⟩,bB h.room.recs h.res (by decide),bB h.room.wait h.res (by decide),bB h.room.back h.res (by decide)⟩
variable {ck:Int}
theorem Ji (v:M'):(gi L O P ck vr vw vb vl).setIfInBounds 4 v=gi L O P ck v vw vb vl:=rfl
theorem Jh (v:M'):(gi L O P ck vr vw vb vl).setIfInBounds 5 v=gi L O P ck vr v vb vl:=rfl
theorem Cc (v:M'):(gi L O P ck vr vw vb vl).setIfInBounds 6 v=gi L O P ck vr vw v vl:=rfl
variable {v':M'}
theorem gO.recs (h:gO w0 r0 b0 B m L O P vr vw vb vl b2 b4 w) {r:Rec} (hk:k=m.recs.length+1) (hg:w.grownBy w' vr.ownBlock) (ho:w'.ownsRow B 44 7 v' k (cj (m.recs++[r]))) (fH:v'.ownBlock=vr.ownBlock\/v'.ownBlock=some w.heap.size):
 gO w0 r0 b0 B {m with recs:=m.recs++[r]} L O P v' vw vb vl b2 b4 (w'.setCell ⟨b2,4,none⟩ v'):=by
 obtain ⟨⟨q1,q2,q3⟩,q4,q5,q6⟩:=h.oB
 have n1:=gF h.room.wait h.room.recs (by decide)
 have n2:=gF h.room.back h.room.recs (by decide)
 have lF:w'.heap[b2]?=some (.cells (gi L O P m.clock vr vw vb vl) 63 (0,0)):=(hg.block _ h.LX (fun e=>q1 e.symm)).trans h.box
 have uI:w'.heap[b4]?=some (.cells ia 63 (0,0)):=(hg.block _ h.Qf (fun e=>q4 e.symm)).trans h.res
 have BH:v'.ownBlock≠some b2:=bB ho lF (by decide)
 have RA:bA B {m with recs:=m.recs++[r]} v' vw vb w':=⟨D_ h.room.big hg.size,by rw [List.length_append];rw [hk] at ho;exact ho,h.room.wait.kept hg n1,h.room.back.kept hg n2,h.room.apart,h.room.iQ⟩
 refine ⟨RA.cell BH q2 q3, ?_, ?_,h.rb, ?_, ?_,h.l2,h.l4,h.ne⟩
 ·refine bg.i7 ⟨hg.os.trans h.fr.os,hg.tape.trans h.fr.tape,hg.output.trans h.fr.output,D_ h.fr.size hg.size,fun g hl h1 h2=>(hg.block g (E_ hl h.fr.size) (fun e=>h1 (h.rr g hl e.symm))).trans (h.fr.block g hl h1 h2)⟩ h.l2
 ·intro g hl e
  rcases fH with x|x
  ·exact h.rr g hl (x▸e)
  ·have:=M_ (x.symm.trans e);have:=h.fr.size;omega
 ·have:=Go.heap_setCell_same w' b2 4 _ 63 v' lF
  rw [Ji] at this;exact this
 ·exact (a_ w' ⟨b2,4,none⟩ b4 v' (fun e=>h.ne e.symm)).trans uI
theorem gO.waits (h:gO w0 r0 b0 B m L O P vr vw vb vl b2 b4 w) (hb:g_ w.heap.size w w') {u:M'} (ho:w'.ownsRow w.heap.size 114 2 u ws.length (ax ws)) (hu:∃g,u.ownBlock=some g):
 gO w0 r0 b0 B {m with wait:=ws} L O P vr u vb vl b2 b4 (w'.setCell ⟨b2,5,none⟩ u):=by
 have h':=h.below hb
 obtain ⟨⟨q1,q2,q3⟩,q4,q5,q6⟩:=h'.oB
 have BH:u.ownBlock≠some b2:=bB ho h'.box (by decide)
 refine ⟨(h.room.waits hb ho hu).cell q1 BH q3,h'.fr.i7 h.l2,h.rr,h.rb, ?_, ?_,h.l2,h.l4,h.ne⟩
 ·have:=Go.heap_setCell_same w' b2 5 _ 63 u h'.box
  rw [Jh] at this;exact this
 ·exact (a_ w' ⟨b2,5,none⟩ b4 u (fun e=>h.ne e.symm)).trans h'.res
theorem gO.O6 (h:gO w0 r0 b0 B m L O P vr vw vb vl b2 b4 w) (hb:g_ w.heap.size w w') {u:M'} (ho:w'.ownsRow w.heap.size 114 2 u ws.length (ax ws)):
 gO w0 r0 b0 B {m with back:=ws} L O P vr vw u vl b2 b4 (w'.setCell ⟨b2,6,none⟩ u):=by
 have h':=h.below hb
 obtain ⟨⟨q1,q2,q3⟩,q4,q5,q6⟩:=h'.oB
 have BH:u.ownBlock≠some b2:=bB ho h'.box (by decide)
 refine ⟨(h.room.Gx hb ho).cell q1 q2 BH,h'.fr.i7 h.l2,h.rr,fun g hl e=> ?_, ?_, ?_,h.l2,h.l4,h.ne⟩
 ·have:=(ho.lt g e).1;have:=h.fr.size;omega
 ·have:=Go.heap_setCell_same w' b2 6 _ 63 u h'.box
  rw [Cc] at this;exact this
 ·exact (a_ w' ⟨b2,6,none⟩ b4 u (fun e=>h.ne e.symm)).trans h'.res
theorem gO.O7 (h:gO w0 r0 b0 B m L O P vr vw vb vl b2 b4 w) {p:Int × Int} (hk:k=m.back.length+1) (hg:w.grownBy w' vb.ownBlock) (ho:w'.ownsRow B 114 2 v' k (ax (m.back++[p]))) (fH:v'.ownBlock=vb.ownBlock\/v'.ownBlock=some w.heap.size):
 gO w0 r0 b0 B {m with back:=m.back++[p]} L O P vr vw v' vl b2 b4 (w'.setCell ⟨b2,6,none⟩ v'):=by
 obtain ⟨⟨q1,q2,q3⟩,q4,q5,q6⟩:=h.oB
 have n1:vw.ownBlock=none\/vw.ownBlock≠vb.ownBlock:=by
  cases hx:vw.ownBlock with
  |none=>exact .inl rfl
  |some g=>exact .inr fun e=>h.room.apart g hx e.symm
 have n2:=gF h.room.recs h.room.back (by decide)
 have lF:w'.heap[b2]?=some (.cells (gi L O P m.clock vr vw vb vl) 63 (0,0)):=(hg.block _ h.LX (fun e=>q3 e.symm)).trans h.box
 have uI:w'.heap[b4]?=some (.cells ia 63 (0,0)):=(hg.block _ h.Qf (fun e=>q6 e.symm)).trans h.res
 have BH:v'.ownBlock≠some b2:=bB ho lF (by decide)
 have Gp:∀g,vw.ownBlock=some g->v'.ownBlock≠some g:=fun g e e2=>by
  rcases fH with x|x
  ·exact h.room.apart g e (x▸e2)
  ·have:=M_ (x.symm.trans e2);have:=(h.room.wait.lt g e).2;omega
 have RA:bA B {m with back:=m.back++[p]} vr vw v' w':=⟨D_ h.room.big hg.size,h.room.recs.kept hg n2,h.room.wait.kept hg n1,by rw [List.length_append];rw [hk] at ho;exact ho,Gp,h.room.iQ⟩
 refine ⟨RA.cell q1 q2 BH, ?_,h.rr, ?_, ?_, ?_,h.l2,h.l4,h.ne⟩
 ·refine bg.i7 ⟨hg.os.trans h.fr.os,hg.tape.trans h.fr.tape,hg.output.trans h.fr.output,D_ h.fr.size hg.size,fun g hl h1 h2=>(hg.block g (E_ hl h.fr.size) (fun e=>h2 (h.rb g hl e.symm))).trans (h.fr.block g hl h1 h2)⟩ h.l2
 ·intro g hl e
  rcases fH with x|x
  ·exact h.rb g hl (x▸e)
  ·have:=M_ (x.symm.trans e);have:=h.fr.size;omega
 ·have:=Go.heap_setCell_same w' b2 6 _ 63 v' lF
  rw [Cc] at this;exact this
 ·exact (a_ w' ⟨b2,6,none⟩ b4 v' (fun e=>h.ne e.symm)).trans uI
theorem gO.set (h:gO w0 r0 b0 B m L O P vr vw vb vl b2 b4 w) {cap:Nat} (hv:vr=.slice (some ⟨g,0,none⟩) m.recs.length cap) (hi:i<m.recs.length) (hk:k<7) {v:M'} {r:Rec} (hr:r.cells=(m.recs[i]).cells.set k v):
 gO w0 r0 b0 B {m with recs:=m.recs.set i r} L O P vr vw vb vl b2 b4 (w.setCell ⟨g,i * 7+k,none⟩ v):=by
 obtain ⟨⟨q1,q2,q3⟩,q4,q5,q6⟩:=h.oB
 have hg:vr.ownBlock=some g:=by rw [hv];rfl
 refine ⟨h.room.set hv hi hk hr, ?_,h.rr,h.rb, ?_, ?_,h.l2,h.l4,h.ne⟩
 ·refine ⟨h.fr.os,h.fr.tape,h.fr.output,by rw [o_];exact h.fr.size,fun j hj h1 h2=>(a_ w ⟨g,i * 7+k,none⟩ j v (fun e=>h1 (h.rr j hj (by rw [hg,show j=g from e])))).trans (h.fr.block j hj h1 h2)⟩
 ·exact (a_ w ⟨g,i * 7+k,none⟩ b2 v (fun e=>q1 (by rw [hg,show b2=g from e]))).trans h.box
 ·exact (a_ w ⟨g,i * 7+k,none⟩ b4 v (fun e=>q4 (by rw [hg,show b4=g from e]))).trans h.res
def Done (w0:J') (r0 b0:M') (B:Nat) (m:Rm) (L O P:Int) (vl:M') (t:Bs) (e:Ending) (w:J'):Prop:=
 ∃vr vw vb,e=.returned (.tuple #[jD L O P m.clock vr vw vb vl,.string ⟨t.toArray⟩])/\bA B m vr vw vb w/\bg r0 b0 w0 w/\(∀g,g<w0.heap.size->vr.ownBlock=some g->r0.ownBlock=some g)/\(∀g,g<w0.heap.size->vb.ownBlock=some g->b0.ownBlock=some g)
theorem gO.ends (h:gO w0 r0 b0 B m L O P vr vw vb vl b2 b4 w) {fn:Func} {tm:Array M'} {t:Bs} (EJ:fn.results=#[.cell 4 63,.tmp 5]) (h4:tm.getD 4 I'=.pointer (some ⟨b4,0,none⟩)) (h5:tm.getD 5 I'=.string ⟨t.toArray⟩):
 bodyPost p_ fn (Done w0 r0 b0 B m L O P vl t) .ret ⟨tm,[]⟩ (Of.b8 w b4 (.int .i64 L) (.int .i64 O) (.int .i64 P) (.int .i64 m.clock) vr vw vb vl):=by
 obtain ⟨⟨q1,q2,q3⟩,q4,q5,q6⟩:=h.oB
 have hR:=h.room.b8 (v0:=.int .i64 L) (v1:=.int .i64 O) (v2:=.int .i64 P) (v3:=.int .i64 m.clock) (v4:=vr) (v5:=vw) (v6:=vb) (v7:=vl) q4 q5 q6
 have hF:=h.fr.b8 (v0:=.int .i64 L) (v1:=.int .i64 O) (v2:=.int .i64 P) (v3:=.int .i64 m.clock) (v4:=vr) (v5:=vw) (v6:=vb) (v7:=vl) h.l4
 obtain ⟨⟨s0,s1,s2,s3,s4,s5,s6,s7⟩,_⟩:=aG (lB (show w.heap[b4]?=some (Obj.cells #[.int .i64 0,.int .i64 0,.int .i64 0,.int .i64 0,.slice none 0 0,.slice none 0 0,.slice none 0 0,.slice none 0 0] 63 (0,0)) from h.res) (.int .i64 L) (.int .i64 O) (.int .i64 P) (.int .i64 m.clock) vr vw vb vl)
 generalize Of.b8 w b4 (.int .i64 L) (.int .i64 O) (.int .i64 P) (.int .i64 m.clock) vr vw vb vl=W at *
 have VC:tm[4]?.getD I'=.pointer (some ⟨b4,0,none⟩):=by rw [<-r_];exact h4
 have VB:tm[5]?.getD I'=.string ⟨t.toArray⟩:=by rw [<-r_];exact h5
 refine bodyPost_ret (v:=.tuple #[jD L O P m.clock vr vw vb vl,.string ⟨t.toArray⟩]) (by simp [results,EJ,go_sem,jD,VC,VB,s0,s1,s2,s3,s4,s5,s6,s7]) rfl ?_
 exact ⟨vr,vw,vb,rfl,hR,hF,h.rr,h.rb⟩
end
end
end Go.aC.Of
