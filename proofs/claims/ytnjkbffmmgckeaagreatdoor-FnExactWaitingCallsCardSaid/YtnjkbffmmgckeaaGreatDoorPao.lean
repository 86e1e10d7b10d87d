/-
  happen, in company: one event of the office.
-/
import Derived.Test.YtnjkbffmmgckeaaGreatDoorPaa
import Derived.Test.YtnjkbffmmgckeaaGreatDoorPag
import Derived.Test.YtnjkbffmmgckeaaGreatDoorPai
import Derived.Test.YtnjkbffmmgckeaaGreatDoorPan
set_option linter.all false
set_option maxRecDepth 100000
set_option maxHeartbeats 32000000
open Go renaming undef->I',World->J',Value->M',Goroutine->O',Frame->Y',heap_alloc_new->Z',Item->x_
open Option renaming getD_some->A_
open Array renaming replicate->F_
open Go.World renaming cell?_of_block->J_,frozen?_of_block->m_
open List renaming map_cons->S_
open Nat renaming le_of_ble_eq_true->Z_
open Classical renaming byContradiction->j_
open Go.Proofs.Tryz renaming prog->p_
open Go.Proofs.Tryz
namespace Go.aC.Of
section
open Go Go.Conc Go.Conc.Lib Go.ConcR Go.ConcR.Gen Go.aC Go.Proofs
open Go.RowKit hiding Hid
open Go.ConcN (upd upd_ne upd_same)
noncomputable def cd:Code:=f100.body.getD .skip
noncomputable def sR:Code:=match ai 1 cd with| .seq _ (.block _ c)=>c|_=>.skip
theorem Lh {p q r:M'}:Frame.enter p_ 121 #[p,q,r] .normal=(base 121).at ⟨#[p,q,r]++F_ 77 I',[]⟩ [.code bF]:=by kernel_rfl
theorem Lg {p q:M'}:Frame.enter p_ 122 #[p,q] .normal=(base 122).at ⟨#[p,q]++F_ 57 I',[]⟩ [.code bC]:=by kernel_rfl
theorem Lf {p q:M'}:Frame.enter p_ 123 #[p,q] .normal=(base 123).at ⟨#[p,q]++F_ 33 I',[]⟩ [.code cD]:=by kernel_rfl
theorem Le {p q:M'}:Frame.enter p_ 124 #[p,q] .normal=(base 124).at ⟨#[p,q]++F_ 41 I',[]⟩ [.code cy]:=by kernel_rfl
theorem Li {p q:M'}:Frame.enter p_ 100 #[p,q] .normal=(base 100).at ⟨#[p,q]++F_ 35 I',[]⟩ [.code cd]:=by kernel_rfl
inductive Ev where
 |ring (c pt:Int)
 |hang (c:Int)
 |answer (i:Nat)
 |back (i:Nat)
 |wait (n:Int)
def BM (k:ByteArray) (who word:Int):M':=.agg #[.string k,.int .i64 who,.int .i64 word]
def Ev.kind:Ev->ByteArray
 | .ring _ _=>⟨#[114,105,110,103]⟩
 | .hang _=>⟨#[104,97,110,103]⟩
 | .answer _=>⟨#[97,110,115,119,101,114]⟩
 | .back _=>⟨#[114,101,116,117,114,110]⟩
 | .wait _=>⟨#[119,97,105,116]⟩
def Ev.who:Ev->Int
 | .ring c _=>c
 | .hang c=>c
 | .answer i=>((i+1:Nat):Int)
 | .back i=>((i+1:Nat):Int)
 | .wait n=>n
def Ev.word:Ev->Int
 | .ring _ pt=>pt
 |_=>0
def Ev.val (e:Ev):M':=BM e.kind e.who e.word
def Ev.ok (m:Nat):Ev->Prop
 | .ring c _=>0<=c/\c<=1000000
 | .hang _=>True
 | .answer i=>i<m
 | .back i=>i<m
 | .wait n=>0<=n/\n<=1000000
def gZ (P:Int) (S:Hs) (us:List Od):Ev->Hs × List Od × Bs
 | .ring c pt=>oe S us c pt
 | .hang c=>ou S us c
 | .answer i=>og S us i
 | .back i=>lY S us i
 | .wait n=>((waited P S n).1,us,(waited P S n).2)
structure BA (S:Hs) (us:List Od):Prop where
 ring:Fo S
 hang:Fq S us
 wait:rC S
 call:Ft S
 c0:0<=S.clock
 c1:S.clock<=1000000
section
variable {C:cS} {b N N0 h:Nat} {L:Nat->Of.Os} {us:List Od} {A:Ha} {S:Hs} {va vt:M'} {ae Fin:O'->J'->Prop} {Post:M'->J'->Prop} {wl:J'} {aI:Y'} {aS:Act} {av:Array Oper} {aN:Nat} {ak:List Nat} {aV:List x_} {cs:List Y'}
variable {pt:Int}
theorem sE (B:eh p_ C b 0 ae Fin h) (hL:Lay C wl) (H:cQ A va vt S wl) (K:bN C A N0 h us L wl) (hT:aU A wl) {kd:Array UInt8} {c:Int} (hc:∀w2 g3,Lay C w2->cQ A va vt S w2->bN C A N0 h us L w2->aU A w2->(∀T d,(w2.re T d).cell? ⟨g3,0,none⟩=some (.string ⟨kd⟩))->(∀T d,(w2.re T d).cell? ⟨g3,1,none⟩=some (.int .i64 c))->(∀T d,(w2.re T d).cell? ⟨g3,2,none⟩=some (.int .i64 pt))->ay p_ C b 0 ae Fin Post h (aY b N h L) w2 (G ((base 100).at ⟨#[.pointer (some ⟨A.hb,0,none⟩),.agg #[.string ⟨kd⟩,.int .i64 c,.int .i64 pt],I',.pointer (some ⟨g3,0,none⟩),.string ⟨#[]⟩,.pointer (some ⟨g3,0,none⟩),.string ⟨kd⟩,I',I',I',I',I',I',I',I',I',I',I',I',I',I',I',I',I',I',I',I',I',I',I',I',I',I',I',I',I',I'],[]⟩ (.code sR::.inBlock 0::[.code (az 2 cd)])) (aI.at aS (.inRegion av (aN::ak)::aV)::cs))):
 ay p_ C b 0 ae Fin Post h (aY b N h L) wl (G ((base 100).at ⟨#[.pointer (some ⟨A.hb,0,none⟩),BM ⟨kd⟩ c pt]++F_ 35 I',[]⟩ [.code cd]) (aI.at aS (.inRegion av (aN::ak)::aV)::cs)):=by
 have hS:=aH b N h L
 obtain ⟨vw,vb,vr,H⟩:=H
 have ea:(#[.pointer (some ⟨A.hb,0,none⟩),BM ⟨kd⟩ c pt]++F_ 35 I':Array M')=#[.pointer (some ⟨A.hb,0,none⟩),BM ⟨kd⟩ c pt,I',I',I',I',I',I',I',I',I',I',I',I',I',I',I',I',I',I',I',I',I',I',I',I',I',I',I',I',I',I',I',I',I',I',I']:=by kernel_rfl
 rw [ea]
 unfold BM
 have e1:cd=.seq (ai 0 cd) (.seq (.seq (ai 0 (ai 1 cd)) (.block 0 sR)) (az 2 cd)):=by kernel_rfl
 rw [e1]
 refine B.s ?_
 generalize hX:[Item.code (Code.seq (.seq (ai 0 (ai 1 cd)) (.block 0 sR)) (az 2 cd))]=X0
 simp only [ai,cd,f100,A_]
 refine B.r ?_
 refine ay.op (ok:=il) B hS hL rfl rfl (by k_ne) (by kernel_rfl) (fun T d=>⟨.pointer (some ⟨wl.heap.size,0,none⟩),(wl.alloc (.cells #[.string ⟨kd⟩,.int .i64 c,.int .i64 pt] 55)).re T d, ?_,fun hcut=>ay.re ?_ T d⟩)
 ·go_simp
  exact ⟨rfl,rfl⟩
 have du:Lay C (wl.alloc (.cells #[.string ⟨kd⟩,.int .i64 c,.int .i64 pt] 55)):=⟨Cut.j8 hcut,hL.no⟩
 walk_nrm
 have H2':=H.alloc (.cells #[.string ⟨kd⟩,.int .i64 c,.int .i64 pt] 55)
 have F2:Im A wl (wl.alloc (.cells #[.string ⟨kd⟩,.int .i64 c,.int .i64 pt] 55)):=⟨(Fr.alloc (w:=wl) H.big _).size,(Fr.alloc (w:=wl) H.big _).block⟩
 have K2:=K.zt H F2
 have T2:=aU.zt hT H F2
 have H2:cQ A va vt S (wl.alloc (.cells #[.string ⟨kd⟩,.int .i64 c,.int .i64 pt] 55)):=⟨_,_,_,H2'⟩
 have g0:∀T d,((wl.alloc (.cells #[.string ⟨kd⟩,.int .i64 c,.int .i64 pt] 55)).re T d).cell? ⟨wl.heap.size,0,none⟩=some (.string ⟨kd⟩):=fun _ _=>bJ (w:=wl) rfl
 have g1:∀T d,((wl.alloc (.cells #[.string ⟨kd⟩,.int .i64 c,.int .i64 pt] 55)).re T d).cell? ⟨wl.heap.size,1,none⟩=some (.int .i64 c):=fun _ _=>bJ (w:=wl) rfl
 have g2:∀T d,((wl.alloc (.cells #[.string ⟨kd⟩,.int .i64 c,.int .i64 pt] 55)).re T d).cell? ⟨wl.heap.size,2,none⟩=some (.int .i64 pt):=fun _ _=>bJ (w:=wl) rfl
 clear H2' F2 H K hT
 generalize wl.alloc (.cells #[.string ⟨kd⟩,.int .i64 c,.int .i64 pt] 55)=w2 at *
 generalize wl.heap.size=g3 at *
 iterate 2 refine B.n ?_
 subst hX
 iterate 2 refine B.n ?_
 generalize hX:[Item.code (Code.block 0 sR),Item.code (az 2 cd)]=X0
 simp only [ai,cd,f100,A_]
 iterate 2 refine B.n ?_
 refine B.o (.string ⟨kd⟩) (fun T d=> ?_) ?_
 ·have h0:=g0 T d
  go_simp
 walk_nrm
 refine B.e ?_
 subst hX
 refine ay.ctl B hS du rfl (fun _=>stepG_block) ?_
 exact hc w2 g3 du H2 K2 T2 g0 g1 g2
theorem C0 (B:eh p_ C b 0 ae Fin h) (hL:Lay C wl) (H:cQ A va vt S wl) (K:bN C A N0 h us L wl) (hT:aU A wl) {c:Int} (c0:0<=c) (c1:c<=1000000) (cK:Fo S)
 (hc:Behind C b N N0 h A va vt ae Fin Post aI aS av aN ak aV cs (oe S us c pt)):
 ay p_ C b 0 ae Fin Post h (aY b N h L) wl (G ((base 100).at ⟨#[.pointer (some ⟨A.hb,0,none⟩),BM ⟨#[114,105,110,103]⟩ c pt]++F_ 35 I',[]⟩ [.code cd]) (aI.at aS (.inRegion av (aN::ak)::aV)::cs)):=by
 have hS:=aH b N h L
 refine sE B hL H K hT fun w2 g3 du H2 K2 T2 g0 g1 g2=> ?_
 generalize hX:[Item.inBlock 0,Item.code (az 2 cd)]=X0
 simp only [sR,ai,cd,f100,A_]
 iterate 10 refine B.n ?_
 refine B.o (.int .i64 (c)) (fun T d=> ?_) ?_
 ·have h1:=g1 T d
  go_simp
 walk_nrm
 refine B.n ?_
 refine B.o (.int .i64 pt) (fun T d=> ?_) ?_
 ·have h2:=g2 T d
  go_simp
 walk_nrm
 refine ay.ctl B hS du rfl (fun _=>bY (vs:=#[.pointer (some ⟨A.hb,0,none⟩),.int .i64 (c),.int .i64 pt]) rfl rfl (by k_ne) rfl func121 rfl rfl (by kernel_rfl)) ?_
 rw [Lh]
 refine ring B du H2 K2 T2 c0 c1 cK fun w3 L3 gA H3 K3 T3=> ?_
 have zq:=aH b N h L3
 have hx:=hc w3 L3 gA H3 K3 T3
 clear hc H2 K2 T2
 generalize (oe S us c pt).2.2=ans at hx ⊢
 walk_nrm
 iterate 2 refine B.n ?_
 refine ay.ctl B zq gA rfl (fun _=>ma) ?_
 refine ay.ctl B zq gA rfl (fun _=>aZ rfl rfl func100 rfl) ?_
 exact hx
theorem C2 (B:eh p_ C b 0 ae Fin h) (hL:Lay C wl) (H:cQ A va vt S wl) (K:bN C A N0 h us L wl) (hT:aU A wl) {c:Int} (cK:Fq S us)
 (hc:Behind C b N N0 h A va vt ae Fin Post aI aS av aN ak aV cs (ou S us c)):
 ay p_ C b 0 ae Fin Post h (aY b N h L) wl (G ((base 100).at ⟨#[.pointer (some ⟨A.hb,0,none⟩),BM ⟨#[104,97,110,103]⟩ c 0]++F_ 35 I',[]⟩ [.code cd]) (aI.at aS (.inRegion av (aN::ak)::aV)::cs)):=by
 have hS:=aH b N h L
 refine sE B hL H K hT fun w2 g3 du H2 K2 T2 g0 g1 g2=> ?_
 generalize hX:[Item.inBlock 0,Item.code (az 2 cd)]=X0
 simp only [sR,ai,cd,f100,A_]
 iterate 16 refine B.n ?_
 refine B.o (.int .i64 (c)) (fun T d=> ?_) ?_
 ·have h1:=g1 T d
  go_simp
 walk_nrm
 refine ay.ctl B hS du rfl (fun _=>bY (vs:=#[.pointer (some ⟨A.hb,0,none⟩),.int .i64 (c)]) rfl rfl (by k_ne) rfl func122 rfl rfl (by kernel_rfl)) ?_
 rw [Lg]
 refine hang B du H2 K2 T2 cK fun w3 L3 gA H3 K3 T3=> ?_
 have zq:=aH b N h L3
 have hx:=hc w3 L3 gA H3 K3 T3
 clear hc H2 K2 T2
 generalize (ou S us c).2.2=ans at hx ⊢
 walk_nrm
 iterate 2 refine B.n ?_
 refine ay.ctl B zq gA rfl (fun _=>ma) ?_
 refine ay.ctl B zq gA rfl (fun _=>aZ rfl rfl func100 rfl) ?_
 exact hx
variable {i:Nat}
theorem yO (B:eh p_ C b 0 ae Fin h) (hL:Lay C wl) (H:cQ A va vt S wl) (K:bN C A N0 h us L wl) (hT:aU A wl) (hi:i<us.length) (cK:rC S)
 (hc:Behind C b N N0 h A va vt ae Fin Post aI aS av aN ak aV cs (og S us i)):
 ay p_ C b 0 ae Fin Post h (aY b N h L) wl (G ((base 100).at ⟨#[.pointer (some ⟨A.hb,0,none⟩),BM ⟨#[97,110,115,119,101,114]⟩ ((i+1:Nat):Int) 0]++F_ 35 I',[]⟩ [.code cd]) (aI.at aS (.inRegion av (aN::ak)::aV)::cs)):=by
 have hS:=aH b N h L
 refine sE B hL H K hT fun w2 g3 du H2 K2 T2 g0 g1 g2=> ?_
 generalize hX:[Item.inBlock 0,Item.code (az 2 cd)]=X0
 simp only [sR,ai,cd,f100,A_]
 iterate 22 refine B.n ?_
 refine B.o (.int .i64 (((i+1:Nat):Int))) (fun T d=> ?_) ?_
 ·have h1:=g1 T d
  go_simp
 walk_nrm
 refine ay.ctl B hS du rfl (fun _=>bY (vs:=#[.pointer (some ⟨A.hb,0,none⟩),.int .i64 (((i+1:Nat):Int))]) rfl rfl (by k_ne) rfl func123 rfl rfl (by kernel_rfl)) ?_
 rw [Lf]
 refine Qa B du H2 K2 T2 hi cK fun w3 L3 gA H3 K3 T3=> ?_
 have zq:=aH b N h L3
 have hx:=hc w3 L3 gA H3 K3 T3
 clear hc H2 K2 T2
 generalize (og S us i).2.2=ans at hx ⊢
 walk_nrm
 iterate 2 refine B.n ?_
 refine ay.ctl B zq gA rfl (fun _=>ma) ?_
 refine ay.ctl B zq gA rfl (fun _=>aZ rfl rfl func100 rfl) ?_
 exact hx
theorem C3 (B:eh p_ C b 0 ae Fin h) (hL:Lay C wl) (H:cQ A va vt S wl) (K:bN C A N0 h us L wl) (hT:aU A wl) (hi:i<us.length) (cK:Ft S)
 (hc:Behind C b N N0 h A va vt ae Fin Post aI aS av aN ak aV cs (lY S us i)):
 ay p_ C b 0 ae Fin Post h (aY b N h L) wl (G ((base 100).at ⟨#[.pointer (some ⟨A.hb,0,none⟩),BM ⟨#[114,101,116,117,114,110]⟩ ((i+1:Nat):Int) 0]++F_ 35 I',[]⟩ [.code cd]) (aI.at aS (.inRegion av (aN::ak)::aV)::cs)):=by
 have hS:=aH b N h L
 refine sE B hL H K hT fun w2 g3 du H2 K2 T2 g0 g1 g2=> ?_
 generalize hX:[Item.inBlock 0,Item.code (az 2 cd)]=X0
 simp only [sR,ai,cd,f100,A_]
 iterate 28 refine B.n ?_
 refine B.o (.int .i64 (((i+1:Nat):Int))) (fun T d=> ?_) ?_
 ·have h1:=g1 T d
  go_simp
 walk_nrm
 refine ay.ctl B hS du rfl (fun _=>bY (vs:=#[.pointer (some ⟨A.hb,0,none⟩),.int .i64 (((i+1:Nat):Int))]) rfl rfl (by k_ne) rfl func124 rfl rfl (by kernel_rfl)) ?_
 rw [Le]
 refine Ly B du H2 K2 T2 hi cK fun w3 L3 gA H3 K3 T3=> ?_
 have zq:=aH b N h L3
 have hx:=hc w3 L3 gA H3 K3 T3
 clear hc H2 K2 T2
 generalize (lY S us i).2.2=ans at hx ⊢
 walk_nrm
 iterate 2 refine B.n ?_
 refine ay.ctl B zq gA rfl (fun _=>ma) ?_
 refine ay.ctl B zq gA rfl (fun _=>aZ rfl rfl func100 rfl) ?_
 exact hx
theorem CZ (B:eh p_ C b 0 ae Fin h) (hL:Lay C wl) (H:cQ A va vt S wl) (K:bN C A N0 h us L wl) (hT:aU A wl) {n:Int} (cK:rC S) (n0:0<=n) (n1:n<=1000000) (k0:0<=S.clock) (k1:S.clock<=1000000)
 (hc:Behind C b N N0 h A va vt ae Fin Post aI aS av aN ak aV cs ((waited A.P S n).1,us,(waited A.P S n).2)):
 ay p_ C b 0 ae Fin Post h (aY b N h L) wl (G ((base 100).at ⟨#[.pointer (some ⟨A.hb,0,none⟩),BM ⟨#[119,97,105,116]⟩ n 0]++F_ 35 I',[]⟩ [.code cd]) (aI.at aS (.inRegion av (aN::ak)::aV)::cs)):=by
 have hS:=aH b N h L
 refine sE B hL H K hT fun w2 g3 du H2 K2 T2 g0 g1 g2=> ?_
 generalize hX:[Item.inBlock 0,Item.code (az 2 cd)]=X0
 simp only [sR,ai,cd,f100,A_]
 iterate 24 refine B.n ?_
 refine ay.ctl B hS du rfl (fun _=>stepG_skip) ?_
 subst hX
 refine ay.ctl B hS du rfl (fun _=>stepG_inBlock) ?_
 have e2:az 2 cd=.seq (ai 2 cd) .ret:=by kernel_rfl
 rw [e2]
 refine B.s ?_
 simp only [ai,cd,f100,A_]
 iterate 3 refine B.n ?_
 refine B.o (.int .i64 (n)) (fun T d=> ?_) ?_
 ·have h1:=g1 T d
  go_simp
 walk_nrm
 refine ay.ctl B hS du rfl (fun _=>bY (vs:=#[.pointer (some ⟨A.hb,0,none⟩),.int .i64 (n)]) rfl rfl (by k_ne) rfl func125 rfl rfl (by kernel_rfl)) ?_
 refine PD B du H2 K2 T2 cK n0 n1 k0 k1 fun w3 L3 gA H3 K3 T3=> ?_
 have zq:=aH b N h L3
 have hx:=hc w3 L3 gA H3 K3 T3
 clear hc H2 K2 T2
 generalize ((waited A.P S n).1,us,(waited A.P S n).2).2.2=ans at hx ⊢
 walk_nrm
 iterate 2 refine B.n ?_
 refine ay.ctl B zq gA rfl (fun _=>ma) ?_
 refine ay.ctl B zq gA rfl (fun _=>aZ rfl rfl func100 rfl) ?_
 exact hx
theorem A9 (B:eh p_ C b 0 ae Fin h) (hL:Lay C wl) (H:cQ A va vt S wl) (K:bN C A N0 h us L wl) (hT:aU A wl) {e:Ev} (he:e.ok us.length) (cK:BA S us)
 (hc:Behind C b N N0 h A va vt ae Fin Post aI aS av aN ak aV cs (gZ A.P S us e)):
 ay p_ C b 0 ae Fin Post h (aY b N h L) wl (G ((base 100).at ⟨#[.pointer (some ⟨A.hb,0,none⟩),e.val]++F_ 35 I',[]⟩ [.code cd]) (aI.at aS (.inRegion av (aN::ak)::aV)::cs)):=by
 cases e with
 |ring c pt=>exact C0 B hL H K hT he.1 he.2 cK.ring hc
 |hang c=>exact C2 B hL H K hT cK.hang hc
 |answer i=>exact yO B hL H K hT he cK.wait hc
 |back i=>exact C3 B hL H K hT he cK.call hc
 |wait n=>exact CZ B hL H K hT cK.wait he.1 he.2 cK.c0 cK.c1 hc
end
structure ik (lo:Nat) (C:cS) (A:Ha) (N0 h:Nat) (us:List Od) (L:Nat->Os) (w:J'):Prop where
 len:us.length=A.m
 small:A.m<=999
 Ip:∀j v,j≠0->(L j).od=some v->∃i,lo<=i/\i<us.length/\j=N0+i
 live:∀i (hi:i<us.length),lo<=i->L (N0+i)=.live us[i]
 n0:∀i,i<us.length->N0+i≠0/\N0+i≠h
 ap:Apart L
 fo:BB C L
 kM:∀j v,j≠0->(L j).od=some v->Ch w v.x/\v.x<A.B
 cells:∀i (hi:i<us.length),w.cell? ⟨A.ob,i,none⟩=some (.chan (some us[i].x))/\w.cell? ⟨us[i].bt,0,none⟩=some (.chan (some us[i].x))/\us[i].bt<A.B/\us[i].bt≠A.hb
section
variable {A:Ha} {S:Hs} {vw vb vr va vt:M'} {w w':J'} {C:cS} {N0 h lo:Nat} {us:List Od} {L:Nat->Os}
theorem bN.two (K:bN C A N0 h us L w):ik 0 C A N0 h us L w:=
 ⟨K.len,K.small.1,fun j v hj hv=>by obtain ⟨i,h1,h2⟩:=K.small.2 j v hj hv;exact ⟨i,Nat.zero_le _,h1,h2⟩,fun i hi _=>K.live i hi,K.n0,K.ap,K.fo,K.kM,K.cells⟩
theorem ik.zt (K:ik lo C A N0 h us L w) (H:aQ A S vw vb vr va vt w) (F:Im A w w'):ik lo C A N0 h us L w':=by
 refine ⟨K.len,K.small,K.Ip,K.live,K.n0,K.ap,K.fo,fun j v hj hv=> ?_,fun i hi=> ?_⟩
 ·obtain ⟨⟨kk,hk⟩,hb⟩:=K.kM j v hj hv
  have nm:∀es c,w.heap[v.x]?≠some (.map es c):=fun es c e=>by rw [hk] at e;cases e
  refine ⟨⟨kk, ?_⟩,hb⟩
  rw [F.block v.x hb (fun e=>by have:=H.box;rw [<-e,hk] at this;cases this) (dX H.on nm) (dX H.of nm) (dX H.rc nm)]
  exact hk
 ·obtain ⟨h1,h2,h3,h4⟩:=K.cells i hi
  have nm:∀{r o:Nat} {v:M'},w.cell? ⟨r,o,none⟩=some v->∀es c,w.heap[r]?≠some (.map es c):=fun {r o v} hr es c e=>by simp [World.cell?,e] at hr
  refine ⟨?_, ?_,h3,h4⟩
  ·rw [J_ (F.block A.ob H.ok.ob H.ok.d3.1 (dX H.on (nm h1)) (dX H.of (nm h1)) (dX H.rc (nm h1)))];exact h1
  ·rw [J_ (F.block _ h3 h4 (dX H.on (nm h2)) (dX H.of (nm h2)) (dX H.rc (nm h2)))];exact h2
theorem ik.pf (K:ik lo C A N0 h us L w) {x:Nat} (k:gN x w w') (hc:Ch w' x):ik lo C A N0 h us L w':=by
 refine ⟨K.len,K.small,K.Ip,K.live,K.n0,K.ap,K.fo,fun j v hj hv=> ?_,fun i hi=> ?_⟩
 ·obtain ⟨⟨kk,hk⟩,hb⟩:=K.kM j v hj hv
  refine ⟨?_,hb⟩
  by_cases e:v.x=x
  ·rw [e];exact hc
  ·exact ⟨kk,k.blk _ _ hk e⟩
 ·obtain ⟨h1,h2,h3,h4⟩:=K.cells i hi
  exact ⟨(k.cells _ _ h1).1,(k.cells _ _ h2).1,h3,h4⟩
variable {j i:Nat}
theorem rV {v:Od} (h:(upd L j .gone i).od=some v):i≠j/\(L i).od=some v:=by
 by_cases e:i=j
 ·subst e;rw [upd_same] at h;cases h
 ·rw [upd_ne _ _ e] at h;exact ⟨e,h⟩
variable {kk:Nat}
theorem ik.gone (K:ik lo C A N0 h us L w) (zp:lo<us.length) (gv:w.heap[us[lo].x]?=some (.chan 0 #[] false kk kk false)):ik (lo+1) C A N0 h us (upd L (N0+lo) .gone) (w.setChan us[lo].x 0 #[] true kk kk false):=by
 have k:=gN.chan gv rfl 0 #[] true kk kk false
 refine ⟨K.len,K.small,fun j v hj hv=> ?_,fun i hi hl=> ?_,K.n0,fun i j u v hi hj vG hu hv=>K.ap i j u v hi hj vG (rV hu).2 (rV hv).2,⟨K.fo.on,K.fo.no,fun j u hj hu=>K.fo.ks j u hj (rV hu).2⟩,fun j v hj hv=> ?_,fun i hi=> ?_⟩
 ·obtain ⟨h1,h2⟩:=rV hv
  obtain ⟨i,h3,h4,h5⟩:=K.Ip j v hj h2
  exact ⟨i,by omega,h4,h5⟩
 ·rw [upd_ne _ _ (by omega)];exact K.live i hi (by omega)
 ·obtain ⟨h1,h2⟩:=rV hv
  obtain ⟨⟨k2,hk⟩,hb⟩:=K.kM j v hj h2
  refine ⟨⟨k2,k.blk _ _ hk fun e=> ?_⟩,hb⟩
  exact K.ap j (N0+lo) v us[lo] hj (K.n0 lo zp).1 h1 h2 (by rw [K.live lo zp (Nat.le_refl _)];rfl) e
 ·obtain ⟨h1,h2,h3,h4⟩:=K.cells i hi
  exact ⟨(k.cells _ _ h1).1,(k.cells _ _ h2).1,h3,h4⟩
end
section
variable {C:cS} {b N N0 h lo:Nat} {L:Nat->Of.Os} {us:List Od} {A:Ha} {S:Hs} {vw vb vr va vt:M'} {ae Fin:O'->J'->Prop} {Post:M'->J'->Prop} {wl:J'} {g g':O'} {aI:Y'} {aS:Act} {av:Array Oper} {aN:Nat} {ak:List Nat} {aV:List x_} {cs:List Y'}
variable {i:Nat}
theorem VT (B:eh p_ C b 0 ae Fin h) (hL:Lay C wl) (H:aQ A S vw vb vr va vt wl) (K:ik lo C A N0 h us L wl) (hT:aU A wl) (hi:i<us.length) (zp:lo<=i) {call:Int}
 (hc:∀aK,Lay C aK->aQ A S vw vb vr va vt aK->ik lo C A N0 h us L aK->aU A aK->ay p_ C b 0 ae Fin Post h (aY b N h L) aK (G (aI.at (aS.put ((av[aN]?).bind (·.dst)) (.int .i64 us[i].k)) (.inRegion av ak::aV)) cs)):
 ay p_ C b 0 ae Fin Post h (aY b N h L) wl (G ((base 101).at ⟨#[.pointer (some ⟨A.hb,0,none⟩),.int .i64 ((i+1:Nat):Int),.int .i64 0,.int .i64 call]++F_ 21 I',[]⟩ [.code dv]) (aI.at aS (.inRegion av (aN::ak)::aV)::cs)):=by
 obtain ⟨h1,h2,h3,h4⟩:=K.cells i hi
 have hm:=K.len
 have hsm:=K.small
 refine ask B hL K.ap K.fo (fun j v hj hv=>(K.kM j v hj hv).1) (K.n0 i hi).1 (K.n0 i hi).2 (K.live i hi zp) (n:=A.m) (by omega) (by omega) H.c.2.2.2.1 h1 h2 fun aK fJ hk hch=> ?_
 have hx:=(K.kM (N0+i) us[i] (K.n0 i hi).1 (by rw [K.live i hi zp];rfl)).1
 have e0:((0:Int)=1)=False:=by simp
 simp only [e0,if_false]
 have eL:upd L (N0+i) (.live ⟨us[i].bt,us[i].x,us[i].k⟩)=L:=by
  funext j
  by_cases e:j=N0+i
  ·subst e;rw [upd_same,K.live i hi zp]
  ·rw [upd_ne _ _ e]
 rw [eL]
 exact hc aK fJ (H.pf hk hx) (K.pf hk hch) (hT.pf hk hx)
variable {j kk:Nat}
theorem PV (B:eh p_ C b 0 ae Fin h) (hL:Lay C wl) (hP:BB C L) (hD:Apart L) {u:Od} (hj:j≠0) (qI:j≠h) (hl:L j=.live u) (gv:wl.heap[u.x]?=some (.chan 0 #[] false kk kk false)) (hrun:g.status=.running)
 (hst:∀w,w.heap[u.x]?=some (.chan 0 #[] false kk kk false)->stepG p_ false g w=.go g' (w.setChan u.x 0 #[] true kk kk false) (closeEvents u.x)) (QP:mayWake p_ g=true) (xw:g'.status=.running)
 (hc:ay p_ C b 0 ae Fin Post h (aY b N h (upd L j .gone)) (wl.setChan u.x 0 #[] true kk kk false) g'):ay p_ C b 0 ae Fin Post h (aY b N h L) wl g:=by
 have hS:=hP.ks j u hj (by rw [hl];rfl)
 refine ay.closes B (aH b N h L) hL hP.on (c:=u.x) (kk:=kk) gv hrun hst QP xw (fun rel ρ n hR i p home hi CS hp hc=> ?_) (fun rel ρ n hR=> ?_) hc
 ·have cK:=hR.2 i hi CS
  rw [hp] at cK
  obtain ⟨u',OD,rfl,rfl⟩:=nJ cK
  have vG:i=j:=j_ fun hne=>hD i j u' u hi hj hne (by rw [OD];rfl) (by rw [hl];rfl) hc
  subst vG
  rw [hl] at OD
  cases OD
  exact ⟨_,_,rfl,fun bp w hh=>Jc hS hh⟩
 ·refine ⟨hR.1,fun i hi CS=> ?_⟩
  have lE:=hR.2 i hi CS
  by_cases e:i=j
  ·subst e
   rw [upd_same]
   show Os.ok b _ (bD u.x (ρ i))
   rw [hl] at lE
   rw [show ρ i=_ from lE]
   refine .inl ?_
   simp [bD,Port.chan,aX.leaving]
  ·rw [upd_ne _ _ e]
   have:bD u.x (ρ i)=ρ i:=vM fun p home hp hc=>by
    rw [hp] at lE
    obtain ⟨u',OD,rfl,_⟩:=nJ lE
    exact hD i j u' u hi hj e (by rw [OD];rfl) (by rw [hl];rfl) hc
   show Os.ok b _ (bD u.x (ρ i))
   rw [this];exact lE
end
noncomputable def eV:Code:=f72.body.getD .skip
noncomputable def qx:Code:=match ai 0 eV with| .seq _ (.block _ (.loop c))=>c|_=>.skip
noncomputable def pK:Code:=match az 1 eV with| .seq _ (.block _ (.loop c))=>c|_=>.skip
noncomputable def X7:Code->Array Oper
 | .region _ ops _=>ops
 |_=>#[]
noncomputable def Sb:Code:=match az 2 qx with| .seq (.block _ (.seq _ r)) _=>r|_=>.skip
noncomputable def Sa:Code:=match az 2 pK with| .seq (.block _ (.seq _ (.seq r _))) _=>r|_=>.skip
structure Fl (c bl ap st:Nat) (pc pa:List Nat) (D:Array Bool) (ph:Nat):Prop where
 fc:D.getD c false=decide (1<=ph)
 fb:D.getD bl false=decide (2<=ph)
 fa:D.getD ap false=decide (3<=ph)
 fs:D.getD st false=decide (4<=ph)
 pc:1<=ph->∀j∈pc,D.getD j false=true
 pa:3<=ph->∀j∈pa,D.getD j false=true
variable {i j:Nat}
theorem iV {D:Array Bool} (h:D.getD j false=true):(D.setIfInBounds i true).getD j false=true:=by
 rw [bq];split<;>first|rfl|exact h
section
variable {c bl ap st:Nat} {pc pa:List Nat} {D:Array Bool} {ph:Nat}
theorem Fl.keep (h:Fl c bl ap st pc pa D ph) (h1:i≠c) (h2:i≠bl) (h3:i≠ap) (h4:i≠st):Fl c bl ap st pc pa (D.setIfInBounds i true) ph:=
 ⟨by rw [bq,if_neg (fun e=>h1 e.1)];exact h.fc,by rw [bq,if_neg (fun e=>h2 e.1)];exact h.fb,by rw [bq,if_neg (fun e=>h3 e.1)];exact h.fa,by rw [bq,if_neg (fun e=>h4 e.1)];exact h.fs,fun h0 j hj=>iV (h.pc h0 j hj),fun h0 j hj=>iV (h.pa h0 j hj)⟩
theorem Fl.calls (h:Fl c bl ap st pc pa D 0) (hs:c<D.size) (h2:c≠bl) (h3:c≠ap) (h4:c≠st) (hp:∀j∈pc,D.getD j false=true):Fl c bl ap st pc pa (D.setIfInBounds c true) 1:=
 ⟨by rw [bq,if_pos ⟨rfl,hs⟩];rfl,by rw [bq,if_neg (fun e=>h2 e.1)];exact h.fb,by rw [bq,if_neg (fun e=>h3 e.1)];exact h.fa,by rw [bq,if_neg (fun e=>h4 e.1)];exact h.fs,fun _ j hj=>iV (hp j hj),fun h0=>absurd h0 (by omega)⟩
theorem Fl.builds (h:Fl c bl ap st pc pa D 1) (hs:bl<D.size) (h1:bl≠c) (h3:bl≠ap) (h4:bl≠st):Fl c bl ap st pc pa (D.setIfInBounds bl true) 2:=
 ⟨by rw [bq,if_neg (fun e=>h1 e.1)];exact h.fc,by rw [bq,if_pos ⟨rfl,hs⟩];rfl,by rw [bq,if_neg (fun e=>h3 e.1)];exact h.fa,by rw [bq,if_neg (fun e=>h4 e.1)];exact h.fs,fun _ j hj=>iV (h.pc (by omega) j hj),fun h0=>absurd h0 (by omega)⟩
theorem Fl.apps (h:Fl c bl ap st pc pa D 2) (hs:ap<D.size) (h1:ap≠c) (h3:ap≠bl) (h4:ap≠st) (hp:∀j∈pa,D.getD j false=true):Fl c bl ap st pc pa (D.setIfInBounds ap true) 3:=
 ⟨by rw [bq,if_neg (fun e=>h1 e.1)];exact h.fc,by rw [bq,if_neg (fun e=>h3 e.1)];exact h.fb,by rw [bq,if_pos ⟨rfl,hs⟩];rfl,by rw [bq,if_neg (fun e=>h4 e.1)];exact h.fs,fun _ j hj=>iV (h.pc (by omega) j hj),fun _ j hj=>iV (hp j hj)⟩
theorem Fl.stores (h:Fl c bl ap st pc pa D 3) (hs:st<D.size) (h1:st≠c) (h3:st≠bl) (h4:st≠ap):Fl c bl ap st pc pa (D.setIfInBounds st true) 4:=
 ⟨by rw [bq,if_neg (fun e=>h1 e.1)];exact h.fc,by rw [bq,if_neg (fun e=>h3 e.1)];exact h.fb,by rw [bq,if_neg (fun e=>h4 e.1)];exact h.fa,by rw [bq,if_pos ⟨rfl,hs⟩];rfl,fun _ j hj=>iV (h.pc (by omega) j hj),fun _ j hj=>iV (h.pa (by omega) j hj)⟩
end
section
variable {A:Ha} {S:Hs} {vw vb vr va vt:M'} {w w':J'}
theorem aQ.ML (h:aQ A S vw vb vr va vt w) {v:M'} {s:Bs} (hg:w.grownBy w' va.ownBlock) (ho:w'.ownsRow A.B 9 1 v (S.log.length+1) ((S.log.map fun s=>Value.string ⟨s.toArray⟩)++[.string ⟨s.toArray⟩])):
 aQ A {S with log:=S.log++[s]} vw vb vr v vt (w'.setCell ⟨A.hb,12,none⟩ v)/\Fr A w (w'.setCell ⟨A.hb,12,none⟩ v):=
 h.grown hg (fun g e=>pU h.log g e) (k:=12) (v:=v) (S':={S with log:=S.log++[s]}) rfl rfl rfl rfl rfl (bU h.wait h.log (by decide) hg) (bU h.back h.log (by decide) hg) (bU h.recs h.log (by decide) hg) (by rw [List.length_append,List.map_append];exact ho) (bU h.cg h.log (by decide) hg) h.apart
theorem aQ.Jv (h:aQ A S vw vb vr va vt w) {v:M'} {c:Int} (hg:w.grownBy w' vt.ownBlock) (ho:w'.ownsRow A.B 3 1 v (S.cg.length+1) (S.cg.map (Value.int .i64)++[.int .i64 c])) (hv:v.ownBlock=vt.ownBlock\/v.ownBlock=some w.heap.size):
 aQ A {S with cg:=S.cg++[c]} vw vb vr va v (w'.setCell ⟨A.hb,13,none⟩ v)/\Fr A w (w'.setCell ⟨A.hb,13,none⟩ v):=by
 have Gp:vb.ownBlock=none\/vb.ownBlock≠v.ownBlock:=by
  rcases hv with e|e
  ·rw [e];exact h.apart
  ·refine .inr fun e1=> ?_
   have:=(h.back.lt _ (e1.trans e)).2
   omega
 exact h.grown hg (fun g e=>pU h.cg g e) (k:=13) (v:=v) (S':={S with cg:=S.cg++[c]}) rfl rfl rfl rfl rfl (bU h.wait h.cg (by decide) hg) (h.back.kept hg h.apart) (bU h.recs h.cg (by decide) hg) (bU h.log h.cg (by decide) hg) (by rw [List.length_append,List.map_append];exact ho) Gp
end
structure Rx where
 L:Nat->Os
 ph:Nat
 g:Nat
 v:M'
theorem Oy:(Tryz.prog.info? 9).map (fun i=>(i.zero,i.size,i.bytes))=some (some (.string ⟨#[]⟩),1,16):=by kernel_rfl
def FA (A:Ha) (e:Ev) (va:M') (ans:Bs) (x:Rx):Nat->M'
 |0=>.pointer (some ⟨A.hb,0,none⟩)
 |1=>.pointer (some ⟨A.hb,0,none⟩)
 |2=>.pointer (some ⟨A.hb,0,none⟩)
 |3=>.pointer (some ⟨A.hb,12,none⟩)
 |4=>va
 |5=>.pointer (some ⟨A.hb,0,none⟩)
 |6=>BM e.kind e.who e.word
 |7=>.string ⟨ans.toArray⟩
 |8=>.slice (some ⟨x.g,0,none⟩) 1 1
 |9=>x.v
 |10=>.pointer (some ⟨A.hb,0,none⟩)
 |11=>.pointer (some ⟨A.hb,12,none⟩)
 |_=>I'
def Ph3 (ge:Nat) (C:cS) (N0 h:Nat) (A:Ha) (S S1:Hs) (us wG:List Od) (va vt:M') (A:Ha) (e:Ev) (va:M') (ans:Bs) (x:Rx) (w:J'):Prop:=
 match x.ph with
 |0=>cQ A va vt S w/\bN C A N0 h us x.L w/\aU A w/\w.heap[ge]?=some (.cells #[.string e.kind,.int .i64 e.who,.int .i64 e.word] 55 (0,0))
 |1=>cQ A va vt S1 w/\bN C A N0 h wG x.L w/\aU A w
 |2=>cQ A va vt S1 w/\bN C A N0 h wG x.L w/\aU A w/\w.heap[x.g]?=some (.cells #[.string ⟨ans.toArray⟩] 9 (0,0))
 |3=>(∃w1,cQ A va vt S1 w1/\bN C A N0 h wG x.L w1/\aU A w1/\gD w1 w va.ownBlock/\w.ownsRow A.B 9 1 x.v (S1.log.length+1) ((S1.log.map fun s=>Value.string ⟨s.toArray⟩)++[.string ⟨ans.toArray⟩])/\(x.v.ownBlock=va.ownBlock\/x.v.ownBlock=some w1.heap.size))
 |_=>cQ A x.v vt {S1 with log:=S1.log++[ans]} w/\bN C A N0 h wG x.L w/\aU A w
structure Wd3 (ge:Nat) (C:cS) (N0 h:Nat) (A:Ha) (S S1:Hs) (us wG:List Od) (va vt:M') (A:Ha) (e:Ev) (va:M') (ans:Bs) (D:Array Bool) (x:Rx) (w:J'):Prop where
 lay:Lay C w
 le:x.ph<=4
 fl:Fl 7 8 9 12 [5,6] [4,8] D x.ph
 at_:Ph3 ge C N0 h A S S1 us wG va vt A e va ans x w
section
variable {C:cS} {b N N0 h:Nat} {L:Nat->Of.Os} {us:List Od} {A:Ha} {S:Hs} {va vt:M'} {ae Fin:O'->J'->Prop} {Post:M'->J'->Prop} {wl:J'} {aI:Y'} {aS:Act} {av:Array Oper} {aN:Nat} {ak:List Nat} {aV:List x_} {cs:List Y'}
variable {S1:Hs} {wG:List Od} {K0:List x_} {z1 z2 z3 z4 z7 z8 z9 dB cZ de dn dm dk dj dA dz dD dC dM dQ dK dP dO dV ey ew eu eK eJ eI eH eQ eN en:M'}
theorem ME (B:eh p_ C b 0 ae Fin h) (hL:Lay C wl) (H:cQ A va vt S wl) (K:bN C A N0 h us L wl) (hT:aU A wl) {e:Ev} (he:e.ok us.length) (cK:BA S us) {ge:Nat} (vI:wl.heap[ge]?=some (.cells #[.string e.kind,.int .i64 e.who,.int .i64 e.word] 55 (0,0))) {ans:Bs} (Ma:S1.log.length<=1000) (Vt:S1=(gZ A.P S us e).1) (Qu:wG=(gZ A.P S us e).2.1) (xI:ans=(gZ A.P S us e).2.2) {z6 z12 z20 z21 z22 z23 z24 z25 z26 z28 z31 z37 z40 z46 z49 z51:M'}
 (hc:∀w' L' v' (u14 u15 u16 u17 u18 u19 u20 u21 u22 u23 u24 u25:M'),Lay C w'->cQ A v' vt {S1 with log:=S1.log++[ans]} w'->bN C A N0 h wG L' w'->aU A w'->ay p_ C b 0 ae Fin Post h (aY b N h L') w' (G ((base 72).at ⟨#[.pointer (some ⟨A.hb,0,none⟩),z1,z2,z3,z4,.pointer (some ⟨ge,0,none⟩),z6,z7,z8,z9,dB,cZ,z12,de,u14,u15,u16,u17,u18,u19,u20,u21,u22,u23,u24,u25,z26,dD,z28,dC,dM,z31,dQ,dK,dP,dO,dV,z37,ey,ew,z40,eu,eK,eJ,eI,eH,z46,eQ,eN,z49,en,z51],[]⟩ K0) cs)):
 ay p_ C b 0 ae Fin Post h (aY b N h L) wl (G ((base 72).at ⟨#[.pointer (some ⟨A.hb,0,none⟩),z1,z2,z3,z4,.pointer (some ⟨ge,0,none⟩),z6,z7,z8,z9,dB,cZ,z12,de,dn,dm,dk,dj,dA,dz,z20,z21,z22,z23,z24,z25,z26,dD,z28,dC,dM,z31,dQ,dK,dP,dO,dV,z37,ey,ew,z40,eu,eK,eJ,eI,eH,z46,eQ,eN,z49,en,z51],[]⟩ (.code Sb::K0)) cs):=by
 generalize cn:(#[.pointer (some ⟨A.hb,0,none⟩),z1,z2,z3,z4,.pointer (some ⟨ge,0,none⟩),z6,z7,z8,z9,dB,cZ,z12,de,dn,dm,dk,dj,dA,dz,z20,z21,z22,z23,z24,z25,z26,dD,z28,dC,dM,z31,dQ,dK,dP,dO,dV,z37,ey,ew,z40,eu,eK,eJ,eI,eH,z46,eQ,eN,z49,en,z51]:Array M')=bs
 have oq:bs.size=52:=by rw [<-cn];rfl
 have HI:∀t,bs.getD t I'=(#[.pointer (some ⟨A.hb,0,none⟩),z1,z2,z3,z4,.pointer (some ⟨ge,0,none⟩),z6,z7,z8,z9,dB,cZ,z12,de,dn,dm,dk,dj,dA,dz,z20,z21,z22,z23,z24,z25,z26,dD,z28,dC,dM,z31,dQ,dK,dP,dO,dV,z37,ey,ew,z40,eu,eK,eJ,eI,eH,z46,eQ,eN,z49,en,z51]:Array M').getD t I':=fun t=>by rw [cn]
 simp only [Sb,qx,pK,ai,az,eV,f72,A_]
 refine ay.any (by kernel_rfl) B (Rs:=fun x:Rx=>aY b N h x.L) (kP:=⟨L,0,0,I'⟩) (fun x=>aH b N h x.L) (base:=bs) (by rw [oq];kernel_rfl) (by kernel_rfl) (fun x=>FA A e va ans x) (Wd3 ge C N0 h A S S1 us wG va vt A e va ans) (fun _ _ _ h=>h.lay)
  ⟨hL,Nat.zero_le _,⟨rfl,rfl,rfl,rfl,fun h0=>absurd h0 (Nat.not_succ_le_zero _),fun h0=>absurd h0 (Nat.not_succ_le_zero _)⟩, ?_⟩ ?_ ?_
 ·exact ⟨H,K,hT,vI⟩
 ·intro i o' ho D x w a rest hD bc hw hn aD k
  have hS:=aH b N h x.L
  have hlt:i<13:=(cI ho)
  have dJ:=hw.fl
  have jI:=hw.lay
  have Gl:∀t,t<52->t<bs.size:=fun t ht=>by rw [oq];exact ht
  have aA:=aa k
  clear k
  obtain rfl|rfl|rfl|rfl|rfl|rfl|rfl|rfl|rfl|rfl|rfl|rfl|rfl:i=0\/i=1\/i=2\/i=3\/i=4\/i=5\/i=6\/i=7\/i=8\/i=9\/i=10\/i=11\/i=12:=by omega
  ·obtain rfl:=so ho rfl
   obtain ⟨v0,w0⟩:=bc.oo (.pointer (some ⟨A.hb,0,none⟩)) 0
   clear aD ho
   refine ay.dY (ok:=il) B hS jI (v:=.pointer (some ⟨A.hb,0,none⟩)) rfl rfl (by k_ne) (by kernel_rfl) (fun T d=> ?_) (aA.out x w (fun _ _=>rfl) ⟨jI,hw.le,dJ.keep (by decide) (by decide) (by decide) (by decide),hw.at_⟩)
   clear bc hw aA hn
   go_simp
  ·obtain rfl:=so ho rfl
   obtain ⟨v0,w0⟩:=bc.oo (.pointer (some ⟨A.hb,0,none⟩)) 0
   clear aD ho
   refine ay.dY (ok:=il) B hS jI (v:=.pointer (some ⟨A.hb,0,none⟩)) rfl rfl (by k_ne) (by kernel_rfl) (fun T d=> ?_) (aA.out x w (fun _ _=>rfl) ⟨jI,hw.le,dJ.keep (by decide) (by decide) (by decide) (by decide),hw.at_⟩)
   clear bc hw aA hn
   go_simp
  ·obtain rfl:=so ho rfl
   obtain ⟨v15,N2⟩:=bc.vv (.pointer (some ⟨A.hb,0,none⟩)) 15 1 (dq aD 1)
   clear aD ho
   refine ay.dY (ok:=il) B hS jI (v:=.pointer (some ⟨A.hb,0,none⟩)) rfl rfl (by k_ne) (by kernel_rfl) (fun T d=> ?_) (aA.out x w (fun _ _=>rfl) ⟨jI,hw.le,dJ.keep (by decide) (by decide) (by decide) (by decide),hw.at_⟩)
   clear bc hw aA hn
   go_simp
  ·obtain rfl:=so ho rfl
   obtain ⟨v16,Mq⟩:=bc.vv (.pointer (some ⟨A.hb,0,none⟩)) 16 2 (dq aD 2)
   clear aD ho
   refine ay.dY (ok:=il) B hS jI (v:=.pointer (some ⟨A.hb,12,none⟩)) rfl rfl (by k_ne) (by kernel_rfl) (fun T d=> ?_) (aA.out x w (fun _ _=>rfl) ⟨jI,hw.le,dJ.keep (by decide) (by decide) (by decide) (by decide),hw.at_⟩)
   clear bc hw aA hn
   go_simp
  ·obtain rfl:=so ho rfl
   have d3:=dq aD 3
   obtain ⟨v17,N1⟩:=bc.vv (.pointer (some ⟨A.hb,12,none⟩)) 17 3 d3
   clear aD ho
   refine ay.dY (ok:=il) B hS jI (v:=va) rfl rfl (by k_ne) (by kernel_rfl) (fun T d=> ?_) (aA.out x w (fun _ _=>rfl) ⟨jI,hw.le,dJ.keep (by decide) (by decide) (by decide) (by decide),hw.at_⟩)
   have h0:(w.re T d).cell? ⟨A.hb,12,none⟩=some va:=by
    obtain ⟨L1,gT,g1,v1⟩:=x
    have hle:gT<=2:=by
     refine j_ fun hx=> ?_
     have:=dJ.pa (by simp only;omega) 4 (by simp)
     rw [hn] at this;cases this
    obtain rfl|rfl|rfl:gT=0\/gT=1\/gT=2:=by omega
    ·obtain ⟨⟨vw,vb,vr,H1⟩,_⟩:=hw.at_;exact H1.c.2.2.2.2.2.2.2.2.2.1
    ·obtain ⟨⟨vw,vb,vr,H1⟩,_⟩:=hw.at_;exact H1.c.2.2.2.2.2.2.2.2.2.1
    ·obtain ⟨⟨vw,vb,vr,H1⟩,_⟩:=hw.at_;exact H1.c.2.2.2.2.2.2.2.2.2.1
   clear bc hw aA hn
   go_simp
  ·obtain rfl:=so ho rfl
   obtain ⟨v0,w0⟩:=bc.oo (.pointer (some ⟨A.hb,0,none⟩)) 0
   clear aD ho
   refine ay.dY (ok:=il) B hS jI (v:=.pointer (some ⟨A.hb,0,none⟩)) rfl rfl (by k_ne) (by kernel_rfl) (fun T d=> ?_) (aA.out x w (fun _ _=>rfl) ⟨jI,hw.le,dJ.keep (by decide) (by decide) (by decide) (by decide),hw.at_⟩)
   clear bc hw aA hn
   go_simp
  ·obtain rfl:=so ho rfl
   obtain ⟨v5,w5⟩:=bc.oo (.pointer (some ⟨ge,0,none⟩)) 5
   clear aD ho
   refine ay.dY (ok:=il) B hS jI (v:=BM e.kind e.who e.word) rfl rfl (by k_ne) (by kernel_rfl) (fun T d=> ?_) (aA.out x w (fun _ _=>rfl) ⟨jI,hw.le,dJ.keep (by decide) (by decide) (by decide) (by decide),hw.at_⟩)
   have vI:w.heap[ge]?=some (.cells #[.string e.kind,.int .i64 e.who,.int .i64 e.word] 55 (0,0)):=by
    obtain ⟨L1,gT,g1,v1⟩:=x
    have hle:gT=0:=by
     refine j_ fun hx=> ?_
     have:=dJ.pc (by simp only;omega) 6 (by simp)
     rw [hn] at this;cases this
    subst hle
    exact hw.at_.2.2.2
   have h0:(w.re T d).cell? ⟨ge,0,none⟩=some (.string e.kind):=by show w.cell? _=_;rw [aB vI];rfl
   have h1:(w.re T d).cell? ⟨ge,1,none⟩=some (.int .i64 e.who):=by show w.cell? _=_;rw [aB vI];rfl
   have h2:(w.re T d).cell? ⟨ge,2,none⟩=some (.int .i64 e.word):=by show w.cell? _=_;rw [aB vI];rfl
   unfold BM
   clear bc hw aA hn
   go_simp
  ·obtain rfl:=so ho rfl
   have d5:=dq aD 5
   have d6:=dq aD 6
   obtain ⟨v19,w19⟩:=bc.vv (.pointer (some ⟨A.hb,0,none⟩)) 19 5 d5
   obtain ⟨v20,w20⟩:=bc.vv (BM e.kind e.who e.word) 20 6 d6
   clear aD ho
   have jH:x.ph=0:=by
    have e2:=dJ.fc
    rw [hn] at e2
    have:=of_decide_eq_false e2.symm
    omega
   obtain ⟨L1,gT,g1,v1⟩:=x
   simp only at jH
   subst jH
   obtain ⟨H1,K1,T1,vI⟩:=hw.at_
   refine ay.ctl B hS jI rfl (fun _=>bY (vs:=#[.pointer (some ⟨A.hb,0,none⟩),BM e.kind e.who e.word]) rfl rfl (by k_ne) rfl func100 rfl rfl (by simp only [List.map_toArray,S_,List.map_nil,v19,v20])) ?_
   rw [Li]
   refine A9 B jI H1 K1 T1 he cK fun w3 L3 gA H3 K3 T3=> ?_
   rw [<-xI]
   exact aA.out ⟨L3,1,g1,v1⟩ w3 (fun _ _=>rfl) ⟨gA,Z_ rfl,dJ.calls (by rw [hD];decide) (by decide) (by decide) (by decide) (by intro j hj;simp at hj;rcases hj with rfl|rfl<;>assumption),⟨by rw [Vt];exact H3,by rw [Qu];exact K3,T3⟩⟩
  ·obtain rfl:=so ho rfl
   have d7:=dq aD 7
   obtain ⟨v21,w21⟩:=bc.vv (.string ⟨ans.toArray⟩) 21 7 d7
   clear aD ho
   have jH:x.ph=1:=by
    have e1:=dJ.fc
    have e2:=dJ.fb
    rw [d7] at e1
    rw [hn] at e2
    have:=of_decide_eq_true e1.symm
    have:=of_decide_eq_false e2.symm
    omega
   obtain ⟨L1,gT,g1,v1⟩:=x
   simp only at jH
   subst jH
   obtain ⟨⟨vw,vb,vr,H1⟩,K1,T1⟩:=hw.at_
   refine ay.op (ok:=il) B hS jI rfl rfl (by k_ne) (by kernel_rfl) fun T d=>⟨.slice (some ⟨w.heap.size,0,none⟩) 1 1,(w.alloc (.cells #[.string ⟨ans.toArray⟩] 9)).re T d, ?_,fun hcut=>ay.re ?_ T d⟩
   ·clear bc hw aA hn H1 K1 T1
    go_simp
    exact ⟨rfl,rfl⟩
   ·have du:Lay C (w.alloc (.cells #[.string ⟨ans.toArray⟩] 9)):=⟨Cut.j8 hcut,jI.no⟩
    have F2:Im A w (w.alloc (.cells #[.string ⟨ans.toArray⟩] 9)):=⟨(Fr.alloc (w:=w) H1.big _).size,(Fr.alloc (w:=w) H1.big _).block⟩
    exact aA.out ⟨L1,2,w.heap.size,v1⟩ _ (fun j hj=>by
     have hne:j≠8:=fun e=>by rw [e,hn] at hj;cases hj
     unfold FA;split<;>first|rfl|exact absurd rfl hne) ⟨du,Z_ rfl,dJ.builds (by rw [hD];decide) (by decide) (by decide) (by decide),⟨⟨_,_,_,H1.alloc _⟩,K1.zt H1 F2,aU.zt T1 H1 F2,Z' w _⟩⟩
  ·obtain rfl:=so ho rfl
   have d4:=dq aD 4
   have d8:=dq aD 8
   obtain ⟨v18,w18⟩:=bc.vv va 18 4 d4
   obtain ⟨v22,w22⟩:=bc.vv (.slice (some ⟨x.g,0,none⟩) 1 1) 22 8 d8
   clear aD ho
   have jH:x.ph=2:=by
    have e1:=dJ.fb
    have e2:=dJ.fa
    rw [d8] at e1
    rw [hn] at e2
    have:=of_decide_eq_true e1.symm
    have:=of_decide_eq_false e2.symm
    omega
   obtain ⟨L1,gT,g1,v1⟩:=x
   simp only at jH
   subst jH
   obtain ⟨⟨vw,vb,vr,H1⟩,K1,T1,BI⟩:=hw.at_
   obtain ⟨i9,A5,nR,nQ,nP⟩:=info_parts Oy
   have hrun:∀T d,∃g cap w6,(Builtin.append_ #[51,51] 51 #[va,.slice (some ⟨g1,0,none⟩) 1 1]).run p_ (w.re T d)=.ok (.slice (some ⟨g,0,none⟩) (S1.log.length+1) cap) w6/\w6.ownsRow A.B 9 1 (.slice (some ⟨g,0,none⟩) (S1.log.length+1) cap) (S1.log.length+1) ((S1.log.map fun s=>Value.string ⟨s.toArray⟩)++[.string ⟨ans.toArray⟩])/\(w.re T d).grownBy w6 va.ownBlock/\(va.ownBlock=some g\/g=w.heap.size)/\g<w6.heap.size:=fun T d=>
    run_append_lies (P:=p_) (w.re T d) 51 51 A.B 9 i9 _ 1 16 Tryz.underlying51 A5 nR nQ nP rfl (by decide) va S1.log.length _ H1.log ⟨g1,0,none⟩ 1 1 [.string ⟨ans.toArray⟩] rfl (World.news_of_block (w:=w.re T d) BI) (by intro u hu;simp at hu;subst hu;rfl) (by decide) (by unfold maxLen;omega) (by omega) H1.big _ rfl
   have fz:∀g,va.ownBlock=some g->A.B<=g/\g<w.heap.size:=fun g e=>H1.log.lt g e
   refine ay.op (ok:=il) B hS jI rfl rfl (by k_ne) (by kernel_rfl) fun T d=> ?_
   obtain ⟨g,cap,w6,hr,yI,pZ,iP,mR⟩:=hrun T d
   refine ⟨.slice (some ⟨g,0,none⟩) (S1.log.length+1) cap,w6, ?_,fun hcut=> ?_⟩
   ·clear bc hw aA hn K1 T1 hrun
    simp only [List.getElem_toArray,List.getElem_cons_succ,List.getElem_cons_zero,execOp,resolve,invoke,builtin,Sem.run_bind,Sem.run_pure,Result.andThen_ok,List.map_toArray,S_,List.map_nil,v18,v22,hr]
   ·have NB:gD w w6 va.ownBlock:=⟨pZ.os,pZ.output,pZ.size,pZ.block⟩
    exact aA.out ⟨L1,3,g1,.slice (some ⟨g,0,none⟩) (S1.log.length+1) cap⟩ w6 (fun j hj=>by
     have hne:j≠9:=fun e=>by rw [e,hn] at hj;cases hj
     unfold FA;split<;>first|rfl|exact absurd rfl hne) ⟨⟨hcut,jI.no⟩,Z_ rfl,dJ.apps (by rw [hD];decide) (by decide) (by decide) (by decide) (by intro j hj;simp at hj;rcases hj with rfl|rfl<;>assumption),⟨w,⟨_,_,_,H1⟩,K1,T1,NB,yI,iP.imp (fun e=>e.symm) (fun e=>by rw [e];rfl)⟩⟩
  ·obtain rfl:=so ho rfl
   obtain ⟨v14,Mr⟩:=bc.vv (.pointer (some ⟨A.hb,0,none⟩)) 14 0 (dq aD 0)
   clear aD ho
   refine ay.dY (ok:=il) B hS jI (v:=.pointer (some ⟨A.hb,0,none⟩)) rfl rfl (by k_ne) (by kernel_rfl) (fun T d=> ?_) (aA.out x w (fun _ _=>rfl) ⟨jI,hw.le,dJ.keep (by decide) (by decide) (by decide) (by decide),hw.at_⟩)
   clear bc hw aA hn
   go_simp
  ·obtain rfl:=so ho rfl
   obtain ⟨v24,w24⟩:=bc.vv (.pointer (some ⟨A.hb,0,none⟩)) 24 10 (dq aD 10)
   clear aD ho
   refine ay.dY (ok:=il) B hS jI (v:=.pointer (some ⟨A.hb,12,none⟩)) rfl rfl (by k_ne) (by kernel_rfl) (fun T d=> ?_) (aA.out x w (fun _ _=>rfl) ⟨jI,hw.le,dJ.keep (by decide) (by decide) (by decide) (by decide),hw.at_⟩)
   clear bc hw aA hn
   go_simp
  ·obtain rfl:=so ho rfl
   have d11:=dq aD 11
   have d9:=dq aD 9
   obtain ⟨v25,w25⟩:=bc.vv (.pointer (some ⟨A.hb,12,none⟩)) 25 11 d11
   obtain ⟨v23,XY⟩:=bc.vv (x.v) 23 9 d9
   clear aD ho
   have jH:x.ph=3:=by
    have e1:=dJ.fa
    have e2:=dJ.fs
    rw [d9] at e1
    rw [hn] at e2
    have:=of_decide_eq_true e1.symm
    have:=of_decide_eq_false e2.symm
    omega
   obtain ⟨L1,gT,g1,v1⟩:=x
   simp only at jH
   subst jH
   obtain ⟨w1,⟨vw,vb,vr,H1⟩,K1,T1,wu,Gd,Vm⟩:=hw.at_
   have fz:∀g,va.ownBlock=some g->A.B<=g/\g<w1.heap.size:=fun g e=>H1.log.lt g e
   have hp:=H1.ML (s:=ans) (w':=w.re w1.tape w.drawn) (v:=v1) wu.W6 Gd
   have F6:Im A w1 (w.setCell ⟨A.hb,12,none⟩ v1):=⟨hp.2.size,fun i h1 h2 h3 h4 h5=>hp.2.block i h1 h2 h3 h4 h5⟩
   have sD:w.heap[A.hb]?=w1.heap[A.hb]?:=wu.block A.hb (Nat.lt_of_lt_of_le H1.ok.hb H1.big) (fun e=>by have:=(fz _ e.symm).1;have:=H1.ok.hb;omega)
   have c7:∀T d,(w.re T d).cell? ⟨A.hb,12,none⟩=some va:=fun _ _=>(J_ sD).trans H1.c.2.2.2.2.2.2.2.2.2.1
   have z7:∀T d,(w.re T d).frozen? ⟨A.hb,12,none⟩=false:=fun _ _=>(m_ sD).trans (H1.z 12)
   obtain ⟨a5,q5,zA⟩:=aE Gd
   refine ay.Wh (ok:=il) B hS jI rfl rfl (by k_ne) (by kernel_rfl) fun T d=>⟨(w.setCell ⟨A.hb,12,none⟩ v1).re T d, ?_,fun hcut=>ay.re ?_ T d⟩
   ·have h7:=c7 T d
    have f7:=z7 T d
    clear bc hw aA hn K1 T1 hp F6 c7 z7
    simp only at XY zA
    rw [zA] at XY
    rw [zA]
    go_simp
    exact nE _ _ _ _ _
   ·exact aA.out ⟨L1,4,g1,v1⟩ _ (fun _ _=>rfl) ⟨⟨Cut.j8 hcut,jI.no⟩,Z_ rfl,dJ.stores (by rw [hD];decide) (by decide) (by decide) (by decide),⟨⟨_,_,_,hp.1.heap rfl⟩,K1.zt H1 F6,aU.zt T1 H1 F6⟩⟩
 ·intro D x w hd hw
  obtain ⟨L1,gT,g1,v1⟩:=x
  have jH:gT=4:=by
   have e1:=hw.fl.fs
   rw [hd 12 (by decide)] at e1
   have:=of_decide_eq_true e1.symm
   have:=hw.le
   simp only at *
   omega
  subst jH
  obtain ⟨H1,K1,T1⟩:=hw.at_
  have:=hc w L1 v1 (.pointer (some ⟨A.hb,0,none⟩)) (.pointer (some ⟨A.hb,0,none⟩)) (.pointer (some ⟨A.hb,0,none⟩)) (.pointer (some ⟨A.hb,12,none⟩)) (va) (.pointer (some ⟨A.hb,0,none⟩)) (BM e.kind e.who e.word) (.string ⟨ans.toArray⟩) (.slice (some ⟨g1,0,none⟩) 1 1) (v1) (.pointer (some ⟨A.hb,0,none⟩)) (.pointer (some ⟨A.hb,12,none⟩)) hw.lay H1 K1 T1
  generalize bc:slotsOf _ bs (FA A e va ans ⟨L1,4,g1,v1⟩)=sl
  have eS:sl=#[.pointer (some ⟨A.hb,0,none⟩),z1,z2,z3,z4,.pointer (some ⟨ge,0,none⟩),z6,z7,z8,z9,dB,cZ,z12,de,.pointer (some ⟨A.hb,0,none⟩),.pointer (some ⟨A.hb,0,none⟩),.pointer (some ⟨A.hb,0,none⟩),.pointer (some ⟨A.hb,12,none⟩),va,.pointer (some ⟨A.hb,0,none⟩),BM e.kind e.who e.word,.string ⟨ans.toArray⟩,.slice (some ⟨g1,0,none⟩) 1 1,v1,.pointer (some ⟨A.hb,0,none⟩),.pointer (some ⟨A.hb,12,none⟩),z26,dD,z28,dC,dM,z31,dQ,dK,dP,dO,dV,z37,ey,ew,z40,eu,eK,eJ,eI,eH,z46,eQ,eN,z49,en,z51]:=by rw [<-bc,<-cn];kernel_rfl
  rw [eS]
  exact this
end
def Fy (A:Ha) (i8:Nat) (vt:M') (ki:Int) (x:Rx):Nat->M'
 |0=>.pointer (some ⟨A.hb,0,none⟩)
 |1=>.pointer (some ⟨A.hb,0,none⟩)
 |2=>.pointer (some ⟨A.hb,0,none⟩)
 |3=>.pointer (some ⟨A.hb,13,none⟩)
 |4=>vt
 |5=>.pointer (some ⟨A.hb,0,none⟩)
 |6=>.int .i64 (i8:Nat)
 |7=>.int .i64 ((i8+1:Nat):Int)
 |8=>.int .i64 ki
 |9=>.slice (some ⟨x.g,0,none⟩) 1 1
 |10=>x.v
 |11=>.pointer (some ⟨A.hb,0,none⟩)
 |12=>.pointer (some ⟨A.hb,13,none⟩)
 |_=>I'
def Ph8 (lo:Nat) (C:cS) (N0 h:Nat) (A:Ha) (S S1:Hs) (us wG:List Od) (va vt:M') (A:Ha) (i8:Nat) (vt:M') (ki:Int) (x:Rx) (w:J'):Prop:=
 match x.ph with
 |0=>cQ A va vt S w/\ik lo C A N0 h us x.L w/\aU A w
 |1=>cQ A va vt S1 w/\ik lo C A N0 h wG x.L w/\aU A w
 |2=>cQ A va vt S1 w/\ik lo C A N0 h wG x.L w/\aU A w/\w.heap[x.g]?=some (.cells #[.int .i64 ki] 3 (0,0))
 |3=>(∃w1,cQ A va vt S1 w1/\ik lo C A N0 h wG x.L w1/\aU A w1/\gD w1 w vt.ownBlock/\w.ownsRow A.B 3 1 x.v (S1.cg.length+1) ((S1.cg.map (Value.int .i64))++[.int .i64 ki])/\(x.v.ownBlock=vt.ownBlock\/x.v.ownBlock=some w1.heap.size))
 |_=>cQ A va x.v {S1 with cg:=S1.cg++[ki]} w/\ik lo C A N0 h wG x.L w/\aU A w
structure Wd8 (lo:Nat) (C:cS) (N0 h:Nat) (A:Ha) (S S1:Hs) (us wG:List Od) (va vt:M') (A:Ha) (i8:Nat) (vt:M') (ki:Int) (D:Array Bool) (x:Rx) (w:J'):Prop where
 lay:Lay C w
 le:x.ph<=4
 fl:Fl 8 9 10 13 [5,7] [4,9] D x.ph
 at_:Ph8 lo C N0 h A S S1 us wG va vt A i8 vt ki x w
section
variable {C:cS} {b N N0 h lo:Nat} {L:Nat->Of.Os} {us:List Od} {A:Ha} {S:Hs} {va vt:M'} {ae Fin:O'->J'->Prop} {Post:M'->J'->Prop} {wl:J'} {aI:Y'} {aS:Act} {av:Array Oper} {aN:Nat} {ak:List Nat} {aV:List x_} {cs:List Y'}
variable {S1:Hs} {wG:List Od} {K0:List x_} {z1 z2 z3 z4 z7 z8 z9 dB cZ de dn dm dk dj dA dz dD dC dM dQ dK dP dO dV ey ew eu eK eJ eI eH eQ eN en:M'}
theorem MD (B:eh p_ C b 0 ae Fin h) (hL:Lay C wl) (H:cQ A va vt S wl) (K:ik lo C A N0 h us L wl) (hT:aU A wl) {i8:Nat} (hi:i8<us.length) (hi2:i8<1000) (zp:lo<=i8) {ki:Int} (hki:ki=us[i8].k) (Ma:S1.cg.length<=1000) (Vt:S1=S) (Qu:wG=us) {z5 z12 z20 z21 z22 z23 z24 z25 z26 z28 z31 z37 z40 z46 z49 z51:M'}
 (hc:∀w' L' v' (u37 u38 u39 u40 u41 u42 u43 u44 u45 u46 u47 u48 u49:M'),Lay C w'->cQ A va v' {S1 with cg:=S1.cg++[ki]} w'->ik lo C A N0 h wG L' w'->aU A w'->ay p_ C b 0 ae Fin Post h (aY b N h L') w' (G ((base 72).at ⟨#[.pointer (some ⟨A.hb,0,none⟩),z1,z2,z3,z4,z5,.int .i64 (i8:Nat),z7,z8,z9,dB,cZ,z12,de,dn,dm,dk,dj,dA,dz,z20,z21,z22,z23,z24,z25,z26,dD,z28,dC,dM,z31,dQ,dK,dP,dO,dV,u37,u38,u39,u40,u41,u42,u43,u44,u45,u46,u47,u48,u49,en,z51],[]⟩ K0) cs)):
 ay p_ C b 0 ae Fin Post h (aY b N h L) wl (G ((base 72).at ⟨#[.pointer (some ⟨A.hb,0,none⟩),z1,z2,z3,z4,z5,.int .i64 (i8:Nat),z7,z8,z9,dB,cZ,z12,de,dn,dm,dk,dj,dA,dz,z20,z21,z22,z23,z24,z25,z26,dD,z28,dC,dM,z31,dQ,dK,dP,dO,dV,z37,ey,ew,z40,eu,eK,eJ,eI,eH,z46,eQ,eN,z49,en,z51],[]⟩ (.code Sa::K0)) cs):=by
 generalize cn:(#[.pointer (some ⟨A.hb,0,none⟩),z1,z2,z3,z4,z5,.int .i64 (i8:Nat),z7,z8,z9,dB,cZ,z12,de,dn,dm,dk,dj,dA,dz,z20,z21,z22,z23,z24,z25,z26,dD,z28,dC,dM,z31,dQ,dK,dP,dO,dV,z37,ey,ew,z40,eu,eK,eJ,eI,eH,z46,eQ,eN,z49,en,z51]:Array M')=bs
 have oq:bs.size=52:=by rw [<-cn];rfl
 have HI:∀t,bs.getD t I'=(#[.pointer (some ⟨A.hb,0,none⟩),z1,z2,z3,z4,z5,.int .i64 (i8:Nat),z7,z8,z9,dB,cZ,z12,de,dn,dm,dk,dj,dA,dz,z20,z21,z22,z23,z24,z25,z26,dD,z28,dC,dM,z31,dQ,dK,dP,dO,dV,z37,ey,ew,z40,eu,eK,eJ,eI,eH,z46,eQ,eN,z49,en,z51]:Array M').getD t I':=fun t=>by rw [cn]
 simp only [Sa,qx,pK,ai,az,eV,f72,A_]
 refine ay.any (by kernel_rfl) B (Rs:=fun x:Rx=>aY b N h x.L) (kP:=⟨L,0,0,I'⟩) (fun x=>aH b N h x.L) (base:=bs) (by rw [oq];kernel_rfl) (by kernel_rfl) (fun x=>Fy A i8 vt ki x) (Wd8 lo C N0 h A S S1 us wG va vt A i8 vt ki) (fun _ _ _ h=>h.lay)
  ⟨hL,Nat.zero_le _,⟨rfl,rfl,rfl,rfl,fun h0=>absurd h0 (Nat.not_succ_le_zero _),fun h0=>absurd h0 (Nat.not_succ_le_zero _)⟩, ?_⟩ ?_ ?_
 ·exact ⟨H,K,hT⟩
 ·intro i o' ho D x w a rest hD bc hw hn aD k
  have hS:=aH b N h x.L
  have oJ:IntKind.i64.wrap ((i8:Int)+1)=((i8+1:Nat):Int):=by rw [IntWalk.i64_in _ (by omega)];rfl
  have hlt:i<14:=(cI ho)
  have dJ:=hw.fl
  have jI:=hw.lay
  have Gl:∀t,t<52->t<bs.size:=fun t ht=>by rw [oq];exact ht
  have aA:=aa k
  clear k
  obtain rfl|rfl|rfl|rfl|rfl|rfl|rfl|rfl|rfl|rfl|rfl|rfl|rfl|rfl:i=0\/i=1\/i=2\/i=3\/i=4\/i=5\/i=6\/i=7\/i=8\/i=9\/i=10\/i=11\/i=12\/i=13:=by omega
  ·obtain rfl:=so ho rfl
   obtain ⟨v0,w0⟩:=bc.oo (.pointer (some ⟨A.hb,0,none⟩)) 0
   clear aD ho
   refine ay.dY (ok:=il) B hS jI (v:=.pointer (some ⟨A.hb,0,none⟩)) rfl rfl (by k_ne) (by kernel_rfl) (fun T d=> ?_) (aA.out x w (fun _ _=>rfl) ⟨jI,hw.le,dJ.keep (by decide) (by decide) (by decide) (by decide),hw.at_⟩)
   clear bc hw aA hn
   go_simp
  ·obtain rfl:=so ho rfl
   obtain ⟨v0,w0⟩:=bc.oo (.pointer (some ⟨A.hb,0,none⟩)) 0
   clear aD ho
   refine ay.dY (ok:=il) B hS jI (v:=.pointer (some ⟨A.hb,0,none⟩)) rfl rfl (by k_ne) (by kernel_rfl) (fun T d=> ?_) (aA.out x w (fun _ _=>rfl) ⟨jI,hw.le,dJ.keep (by decide) (by decide) (by decide) (by decide),hw.at_⟩)
   clear bc hw aA hn
   go_simp
  ·obtain rfl:=so ho rfl
   obtain ⟨v38,XX⟩:=bc.vv (.pointer (some ⟨A.hb,0,none⟩)) 38 1 (dq aD 1)
   clear aD ho
   refine ay.dY (ok:=il) B hS jI (v:=.pointer (some ⟨A.hb,0,none⟩)) rfl rfl (by k_ne) (by kernel_rfl) (fun T d=> ?_) (aA.out x w (fun _ _=>rfl) ⟨jI,hw.le,dJ.keep (by decide) (by decide) (by decide) (by decide),hw.at_⟩)
   clear bc hw aA hn
   go_simp
  ·obtain rfl:=so ho rfl
   obtain ⟨v39,w39⟩:=bc.vv (.pointer (some ⟨A.hb,0,none⟩)) 39 2 (dq aD 2)
   clear aD ho
   refine ay.dY (ok:=il) B hS jI (v:=.pointer (some ⟨A.hb,13,none⟩)) rfl rfl (by k_ne) (by kernel_rfl) (fun T d=> ?_) (aA.out x w (fun _ _=>rfl) ⟨jI,hw.le,dJ.keep (by decide) (by decide) (by decide) (by decide),hw.at_⟩)
   clear bc hw aA hn
   go_simp
  ·obtain rfl:=so ho rfl
   have d3:=dq aD 3
   obtain ⟨v40,XW⟩:=bc.vv (.pointer (some ⟨A.hb,13,none⟩)) 40 3 d3
   clear aD ho
   refine ay.dY (ok:=il) B hS jI (v:=vt) rfl rfl (by k_ne) (by kernel_rfl) (fun T d=> ?_) (aA.out x w (fun _ _=>rfl) ⟨jI,hw.le,dJ.keep (by decide) (by decide) (by decide) (by decide),hw.at_⟩)
   have h0:(w.re T d).cell? ⟨A.hb,13,none⟩=some vt:=by
    obtain ⟨L1,gT,g1,v1⟩:=x
    have hle:gT<=2:=by
     refine j_ fun hx=> ?_
     have:=dJ.pa (by simp only;omega) 4 (by simp)
     rw [hn] at this;cases this
    obtain rfl|rfl|rfl:gT=0\/gT=1\/gT=2:=by omega
    ·obtain ⟨⟨vw,vb,vr,H1⟩,_⟩:=hw.at_;exact H1.c.2.2.2.2.2.2.2.2.2.2
    ·obtain ⟨⟨vw,vb,vr,H1⟩,_⟩:=hw.at_;exact H1.c.2.2.2.2.2.2.2.2.2.2
    ·obtain ⟨⟨vw,vb,vr,H1⟩,_⟩:=hw.at_;exact H1.c.2.2.2.2.2.2.2.2.2.2
   clear bc hw aA hn
   go_simp
  ·obtain rfl:=so ho rfl
   obtain ⟨v0,w0⟩:=bc.oo (.pointer (some ⟨A.hb,0,none⟩)) 0
   clear aD ho
   refine ay.dY (ok:=il) B hS jI (v:=.pointer (some ⟨A.hb,0,none⟩)) rfl rfl (by k_ne) (by kernel_rfl) (fun T d=> ?_) (aA.out x w (fun _ _=>rfl) ⟨jI,hw.le,dJ.keep (by decide) (by decide) (by decide) (by decide),hw.at_⟩)
   clear bc hw aA hn
   go_simp
  ·obtain rfl:=so ho rfl
   obtain ⟨v6,w6⟩:=bc.oo (.int .i64 (i8:Nat)) 6
   clear aD ho
   refine ay.dY (ok:=il) B hS jI (v:=.int .i64 (i8:Nat)) rfl rfl (by k_ne) (by kernel_rfl) (fun T d=> ?_) (aA.out x w (fun _ _=>rfl) ⟨jI,hw.le,dJ.keep (by decide) (by decide) (by decide) (by decide),hw.at_⟩)
   clear bc hw aA hn
   go_simp
  ·obtain rfl:=so ho rfl
   obtain ⟨v43,XT⟩:=bc.vv (.int .i64 (i8:Nat)) 43 6 (dq aD 6)
   clear aD ho
   refine ay.dY (ok:=il) B hS jI (v:=.int .i64 ((i8+1:Nat):Int)) rfl rfl (by k_ne) (by kernel_rfl) (fun T d=> ?_) (aA.out x w (fun _ _=>rfl) ⟨jI,hw.le,dJ.keep (by decide) (by decide) (by decide) (by decide),hw.at_⟩)
   clear bc hw aA hn
   go_simp
  ·obtain rfl:=so ho rfl
   have d5:=dq aD 5
   have d7:=dq aD 7
   obtain ⟨v42,XU⟩:=bc.vv (.pointer (some ⟨A.hb,0,none⟩)) 42 5 d5
   obtain ⟨v44,XS⟩:=bc.vv (.int .i64 ((i8+1:Nat):Int)) 44 7 d7
   clear aD ho
   have jH:x.ph=0:=by
    have e2:=dJ.fc
    rw [hn] at e2
    have:=of_decide_eq_false e2.symm
    omega
   obtain ⟨L1,gT,g1,v1⟩:=x
   simp only at jH
   subst jH
   obtain ⟨⟨vw,vb,vr,H1⟩,K1,T1⟩:=hw.at_
   refine ay.ctl B hS jI rfl (fun _=>bY (vs:=#[.pointer (some ⟨A.hb,0,none⟩),.int .i64 ((i8+1:Nat):Int),.int .i64 0,.int .i64 0]) rfl rfl (by k_ne) rfl func101 rfl rfl (by simp only [List.map_toArray,S_,List.map_nil,v42,v44];rfl)) ?_
   rw [pB]
   refine VT B jI H1 K1 T1 hi zp fun w3 gA H3 K3 T3=> ?_
   rw [<-hki]
   exact aA.out ⟨L1,1,g1,v1⟩ w3 (fun _ _=>rfl) ⟨gA,Z_ rfl,dJ.calls (by rw [hD];decide) (by decide) (by decide) (by decide) (by intro j hj;simp at hj;rcases hj with rfl|rfl<;>assumption),⟨⟨_,_,_,by rw [Vt];exact H3⟩,by rw [Qu];exact K3,T3⟩⟩
  ·obtain rfl:=so ho rfl
   have d8:=dq aD 8
   obtain ⟨v45,XR⟩:=bc.vv (.int .i64 ki) 45 8 d8
   clear aD ho
   have jH:x.ph=1:=by
    have e1:=dJ.fc
    have e2:=dJ.fb
    rw [d8] at e1
    rw [hn] at e2
    have:=of_decide_eq_true e1.symm
    have:=of_decide_eq_false e2.symm
    omega
   obtain ⟨L1,gT,g1,v1⟩:=x
   simp only at jH
   subst jH
   obtain ⟨⟨vw,vb,vr,H1⟩,K1,T1⟩:=hw.at_
   refine ay.op (ok:=il) B hS jI rfl rfl (by k_ne) (by kernel_rfl) fun T d=>⟨.slice (some ⟨w.heap.size,0,none⟩) 1 1,(w.alloc (.cells #[.int .i64 ki] 3)).re T d, ?_,fun hcut=>ay.re ?_ T d⟩
   ·clear bc hw aA hn H1 K1 T1
    go_simp
    exact ⟨rfl,rfl⟩
   ·have du:Lay C (w.alloc (.cells #[.int .i64 ki] 3)):=⟨Cut.j8 hcut,jI.no⟩
    have F2:Im A w (w.alloc (.cells #[.int .i64 ki] 3)):=⟨(Fr.alloc (w:=w) H1.big _).size,(Fr.alloc (w:=w) H1.big _).block⟩
    exact aA.out ⟨L1,2,w.heap.size,v1⟩ _ (fun j hj=>by
     have hne:j≠9:=fun e=>by rw [e,hn] at hj;cases hj
     unfold Fy;split<;>first|rfl|exact absurd rfl hne) ⟨du,Z_ rfl,dJ.builds (by rw [hD];decide) (by decide) (by decide) (by decide),⟨⟨_,_,_,H1.alloc _⟩,K1.zt H1 F2,aU.zt T1 H1 F2,Z' w _⟩⟩
  ·obtain rfl:=so ho rfl
   have d4:=dq aD 4
   have d9:=dq aD 9
   obtain ⟨v41,XV⟩:=bc.vv vt 41 4 d4
   obtain ⟨v46,XQ⟩:=bc.vv (.slice (some ⟨x.g,0,none⟩) 1 1) 46 9 d9
   clear aD ho
   have jH:x.ph=2:=by
    have e1:=dJ.fb
    have e2:=dJ.fa
    rw [d9] at e1
    rw [hn] at e2
    have:=of_decide_eq_true e1.symm
    have:=of_decide_eq_false e2.symm
    omega
   obtain ⟨L1,gT,g1,v1⟩:=x
   simp only at jH
   subst jH
   obtain ⟨⟨vw,vb,vr,H1⟩,K1,T1,BI⟩:=hw.at_
   obtain ⟨i9,A5,nR,nQ,nP⟩:=info_parts CF
   have hrun:∀T d,∃g cap w6,(Builtin.append_ #[26,26] 26 #[vt,.slice (some ⟨g1,0,none⟩) 1 1]).run p_ (w.re T d)=.ok (.slice (some ⟨g,0,none⟩) (S1.cg.length+1) cap) w6/\w6.ownsRow A.B 3 1 (.slice (some ⟨g,0,none⟩) (S1.cg.length+1) cap) (S1.cg.length+1) ((S1.cg.map (Value.int .i64))++[.int .i64 ki])/\(w.re T d).grownBy w6 vt.ownBlock/\(vt.ownBlock=some g\/g=w.heap.size)/\g<w6.heap.size:=fun T d=>
    run_append_lies (P:=p_) (w.re T d) 26 26 A.B 3 i9 _ 1 8 Tryz.underlying26 A5 nR nQ nP rfl (by decide) vt S1.cg.length _ H1.cg ⟨g1,0,none⟩ 1 1 [.int .i64 ki] rfl (World.news_of_block (w:=w.re T d) BI) (by intro u hu;simp at hu;subst hu;rfl) (by decide) (by unfold maxLen;omega) (by omega) H1.big _ rfl
   have fz:∀g,vt.ownBlock=some g->A.B<=g/\g<w.heap.size:=fun g e=>H1.cg.lt g e
   refine ay.op (ok:=il) B hS jI rfl rfl (by k_ne) (by kernel_rfl) fun T d=> ?_
   obtain ⟨g,cap,w6,hr,yI,pZ,iP,mR⟩:=hrun T d
   refine ⟨.slice (some ⟨g,0,none⟩) (S1.cg.length+1) cap,w6, ?_,fun hcut=> ?_⟩
   ·clear bc hw aA hn K1 T1 hrun
    simp only [List.getElem_toArray,List.getElem_cons_succ,List.getElem_cons_zero,execOp,resolve,invoke,builtin,Sem.run_bind,Sem.run_pure,Result.andThen_ok,List.map_toArray,S_,List.map_nil,v41,v46,hr]
   ·have NB:gD w w6 vt.ownBlock:=⟨pZ.os,pZ.output,pZ.size,pZ.block⟩
    exact aA.out ⟨L1,3,g1,.slice (some ⟨g,0,none⟩) (S1.cg.length+1) cap⟩ w6 (fun j hj=>by
     have hne:j≠10:=fun e=>by rw [e,hn] at hj;cases hj
     unfold Fy;split<;>first|rfl|exact absurd rfl hne) ⟨⟨hcut,jI.no⟩,Z_ rfl,dJ.apps (by rw [hD];decide) (by decide) (by decide) (by decide) (by intro j hj;simp at hj;rcases hj with rfl|rfl<;>assumption),⟨w,⟨_,_,_,H1⟩,K1,T1,NB,yI,iP.imp (fun e=>e.symm) (fun e=>by rw [e];rfl)⟩⟩
  ·obtain rfl:=so ho rfl
   obtain ⟨v37,w37⟩:=bc.vv (.pointer (some ⟨A.hb,0,none⟩)) 37 0 (dq aD 0)
   clear aD ho
   refine ay.dY (ok:=il) B hS jI (v:=.pointer (some ⟨A.hb,0,none⟩)) rfl rfl (by k_ne) (by kernel_rfl) (fun T d=> ?_) (aA.out x w (fun _ _=>rfl) ⟨jI,hw.le,dJ.keep (by decide) (by decide) (by decide) (by decide),hw.at_⟩)
   clear bc hw aA hn
   go_simp
  ·obtain rfl:=so ho rfl
   obtain ⟨v48,Wb⟩:=bc.vv (.pointer (some ⟨A.hb,0,none⟩)) 48 11 (dq aD 11)
   clear aD ho
   refine ay.dY (ok:=il) B hS jI (v:=.pointer (some ⟨A.hb,13,none⟩)) rfl rfl (by k_ne) (by kernel_rfl) (fun T d=> ?_) (aA.out x w (fun _ _=>rfl) ⟨jI,hw.le,dJ.keep (by decide) (by decide) (by decide) (by decide),hw.at_⟩)
   clear bc hw aA hn
   go_simp
  ·obtain rfl:=so ho rfl
   have d12:=dq aD 12
   have d10:=dq aD 10
   obtain ⟨v49,Wa⟩:=bc.vv (.pointer (some ⟨A.hb,13,none⟩)) 49 12 d12
   obtain ⟨v47,LS⟩:=bc.vv (x.v) 47 10 d10
   clear aD ho
   have jH:x.ph=3:=by
    have e1:=dJ.fa
    have e2:=dJ.fs
    rw [d10] at e1
    rw [hn] at e2
    have:=of_decide_eq_true e1.symm
    have:=of_decide_eq_false e2.symm
    omega
   obtain ⟨L1,gT,g1,v1⟩:=x
   simp only at jH
   subst jH
   obtain ⟨w1,⟨vw,vb,vr,H1⟩,K1,T1,wu,Gd,Vm⟩:=hw.at_
   have fz:∀g,vt.ownBlock=some g->A.B<=g/\g<w1.heap.size:=fun g e=>H1.cg.lt g e
   have hp:=H1.Jv (c:=ki) (w':=w.re w1.tape w.drawn) (v:=v1) wu.W6 Gd Vm
   have F6:Im A w1 (w.setCell ⟨A.hb,13,none⟩ v1):=⟨hp.2.size,fun i h1 h2 h3 h4 h5=>hp.2.block i h1 h2 h3 h4 h5⟩
   have sD:w.heap[A.hb]?=w1.heap[A.hb]?:=wu.block A.hb (Nat.lt_of_lt_of_le H1.ok.hb H1.big) (fun e=>by have:=(fz _ e.symm).1;have:=H1.ok.hb;omega)
   have c7:∀T d,(w.re T d).cell? ⟨A.hb,13,none⟩=some vt:=fun _ _=>(J_ sD).trans H1.c.2.2.2.2.2.2.2.2.2.2
   have z7:∀T d,(w.re T d).frozen? ⟨A.hb,13,none⟩=false:=fun _ _=>(m_ sD).trans (H1.z 13)
   obtain ⟨a5,q5,zA⟩:=aE Gd
   refine ay.Wh (ok:=il) B hS jI rfl rfl (by k_ne) (by kernel_rfl) fun T d=>⟨(w.setCell ⟨A.hb,13,none⟩ v1).re T d, ?_,fun hcut=>ay.re ?_ T d⟩
   ·have h7:=c7 T d
    have f7:=z7 T d
    clear bc hw aA hn K1 T1 hp F6 c7 z7
    simp only at LS zA
    rw [zA] at LS
    rw [zA]
    go_simp
    exact nE _ _ _ _ _
   ·exact aA.out ⟨L1,4,g1,v1⟩ _ (fun _ _=>rfl) ⟨⟨Cut.j8 hcut,jI.no⟩,Z_ rfl,dJ.stores (by rw [hD];decide) (by decide) (by decide) (by decide),⟨⟨_,_,_,hp.1.heap rfl⟩,K1.zt H1 F6,aU.zt T1 H1 F6⟩⟩
 ·intro D x w hd hw
  obtain ⟨L1,gT,g1,v1⟩:=x
  have jH:gT=4:=by
   have e1:=hw.fl.fs
   rw [hd 13 (by decide)] at e1
   have:=of_decide_eq_true e1.symm
   have:=hw.le
   simp only at *
   omega
  subst jH
  obtain ⟨H1,K1,T1⟩:=hw.at_
  have:=hc w L1 v1 (.pointer (some ⟨A.hb,0,none⟩)) (.pointer (some ⟨A.hb,0,none⟩)) (.pointer (some ⟨A.hb,0,none⟩)) (.pointer (some ⟨A.hb,13,none⟩)) (vt) (.pointer (some ⟨A.hb,0,none⟩)) (.int .i64 (i8:Nat)) (.int .i64 ((i8+1:Nat):Int)) (.int .i64 ki) (.slice (some ⟨g1,0,none⟩) 1 1) (v1) (.pointer (some ⟨A.hb,0,none⟩)) (.pointer (some ⟨A.hb,13,none⟩)) hw.lay H1 K1 T1
  generalize bc:slotsOf _ bs (Fy A i8 vt ki ⟨L1,4,g1,v1⟩)=sl
  have eS:sl=#[.pointer (some ⟨A.hb,0,none⟩),z1,z2,z3,z4,z5,.int .i64 (i8:Nat),z7,z8,z9,dB,cZ,z12,de,dn,dm,dk,dj,dA,dz,z20,z21,z22,z23,z24,z25,z26,dD,z28,dC,dM,z31,dQ,dK,dP,dO,dV,.pointer (some ⟨A.hb,0,none⟩),.pointer (some ⟨A.hb,0,none⟩),.pointer (some ⟨A.hb,0,none⟩),.pointer (some ⟨A.hb,13,none⟩),vt,.pointer (some ⟨A.hb,0,none⟩),.int .i64 (i8:Nat),.int .i64 ((i8+1:Nat):Int),.int .i64 ki,.slice (some ⟨g1,0,none⟩) 1 1,v1,.pointer (some ⟨A.hb,0,none⟩),.pointer (some ⟨A.hb,13,none⟩),en,z51]:=by rw [<-bc,<-cn];kernel_rfl
  rw [eS]
  exact this
end
end
end Go.aC.Of
