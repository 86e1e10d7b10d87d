/-
  runHall: the hall works; goroutine 0 waits for it.
-/
import Derived.Test.YtnjkbffmmgckeaaGreatDoorPaa
import Derived.Test.YtnjkbffmmgckeaaGreatDoorPag
import Derived.Test.YtnjkbffmmgckeaaGreatDoorPaq
set_option linter.all false
set_option maxRecDepth 100000
set_option maxHeartbeats 32000000
open Option renaming getD_some->A_
open List renaming getElem?_eq_getElem->G_
open Option.some renaming inj->M_,injEq->n_
open Bool renaming and_eq_true->T_
open Go.Proofs.Tryz renaming prog->p_
namespace Go.aC.Of
section
open Go Go.Conc Go.Conc.Lib Go.ConcR Go.ConcR.Gen Go.aC Go.Proofs
open Go.RowKit hiding Hid
open Go.ConcN (upd upd_ne upd_same)
noncomputable def JA:Array Oper:=match ai 8 bz with| .region _ ops _=>ops|_=>#[]
noncomputable def j9:Array Oper:=match ai 9 bz with| .region _ ops _=>ops|_=>#[]
section
variable {C:cS} {bw N0:Nat} {Post:Value->World->Prop} {L:Nat->Os} {us:List Od} {A:Ha} {S:Hs} {va vt:Value} {wl:World} {aI:Frame} {aS:Act} {av:Array Oper} {aN:Nat} {ak:List Nat} {aV:List Item} {cs:List Frame} {g1 g2 hv Bd:Nat}
theorem MA (hL:Lay C wl) (H:cQ A va vt S wl) (K:bN C A N0 (N0+us.length) us L wl) (hT:aU A wl) (hN0:0<N0) (Z7:N0+us.length+1<=Bd) (SI:Bd<2000000000)
 {evs:List Ev} {ea:Option Addr} {ec:Nat} (BG:A.h0[hv]?=some (.cells #[.pointer (some ⟨A.hb,0,none⟩)] 68 (0,0))) (mP:hv<A.n0) (hvn:hv≠A.hb) (ev0:A.h0[g2]?=some (.cells #[.slice ea evs.length ec] 30 (0,0))) (WV:g2<A.n0) (evn:g2≠A.hb) (uO:Dt A ea evs) (hn:evs.length<=1000) (cK:Dr A.P (S,us) evs) (hm:(eC A.P (S,us) evs).2.length<=999) (J7:(eC A.P (S,us) evs).1.cg=[]) {z0 z1 z4 z5 z6 z9 dB cZ z12 de dn dm dk dj dA dz z20 z21 z22 z23 z24 z25 z26 dD z28 dC dM z31 dQ dK dP dO dV z37 ey ew z40 eu eK eJ eI eH z46 eQ eN z49 en z51 iu z53 iF iE iD iC iB z59 nv nu np nk sW sV rH rG rF uu z70 yb z72:Value}
 (hc:∀aK IX Io,Lay C aK->cQ A IX Io {(eC A.P (S,us) evs).1 with cg:=(eC A.P (S,us) evs).2.map (·.k)} aK->aU A aK->Can p_ C bw 0 Post 0 (db Bd) aK (G (aI.at (aS.put ((av[aN]?).bind (·.dst)) (.pointer (some ⟨A.hb,0,none⟩))) (.inRegion av ak::aV)) cs)):
 Can p_ C bw 0 Post 0 (pI bw (N0+us.length) L) wl (G ((base 45).at ⟨#[z0,z1,.pointer (some ⟨g1,0,none⟩),.pointer (some ⟨g2,0,none⟩),z4,z5,z6,.pointer (some ⟨hv,0,none⟩),.pointer (some ⟨bw,0,none⟩),z9,dB,cZ,z12,de,dn,dm,dk,dj,dA,dz,z20,z21,z22,z23,z24,z25,z26,dD,z28,dC,dM,z31,dQ,dK,dP,dO,dV,z37,ey,ew,z40,eu,eK,eJ,eI,eH,z46,eQ,eN,z49,en,z51,iu,z53,iF,iE,iD,iC,iB,z59,nv,nu,np,nk,sW,sV,rH,rG,rF,uu,z70,yb,z72],[]⟩ [.code (az 7 bz)]) (aI.at aS (.inRegion av (aN::ak)::aV)::cs)):=by
 have hS:=iS bw (N0+us.length) L
 have b9:=K.fo.on
 have e1:az 7 bz=.seq (ai 7 bz) (.seq (ai 8 bz) (.seq (.region 24 j9 false) (az 10 bz))):=by kernel_rfl
 rw [e1]
 refine hS.steady.s hL ?_
 generalize hX:[Item.code (Code.seq (ai 8 bz) (.seq (.region 24 j9 false) (az 10 bz)))]=X0
 simp only [ai,bz,Tryz.f45,A_]
 refine Can.ctl hS.steady hL rfl (fun _=>zb) ?_
 refine Can.ctl hS.steady hL rfl (fun _=>I2 (p:=.pointer (some ⟨bw,0,none⟩)) (q:=.int .i64 1) Tryz.oN rfl rfl (by k_ne) rfl (by kernel_rfl)) ?_
 refine Can.VU Tryz.oN hS hL b9 (fun rel ρ n hR=>by have:=hR.1;omega) ?_
 walk_nrm
 refine Can.ctl hS.steady hL rfl (fun _=>stepG_region_end) ?_
 subst hX
 refine hS.steady.s hL ?_
 generalize hX:[Item.code (Code.seq (.region 24 j9 false) (az 10 bz))]=X0
 simp only [ai,bz,Tryz.f45,A_]
 refine Can.ctl hS.steady hL rfl (fun _=>zb) ?_
 refine Can.op (ok:=il) hS.steady hL rfl rfl (by k_ne) (by kernel_rfl) (fun T d=>⟨.func (.func 71) #[] #[.pointer (some ⟨bw,0,none⟩),.pointer (some ⟨hv,0,none⟩),.pointer (some ⟨g2,0,none⟩)],wl.re T d, ?_,fun _=>Can.re ?_ T d⟩)
 ·go_simp
 walk_nrm
 obtain ⟨NG,U1⟩:∃NG,NG=aI.at aS (.inRegion av (aN::ak)::aV):=⟨_,rfl⟩
 rw [<-U1]
 obtain ⟨aW,ZU⟩:∃aW:Act,aW=⟨#[z0,z1,.pointer (some ⟨g1,0,none⟩),.pointer (some ⟨g2,0,none⟩),z4,z5,z6,.pointer (some ⟨hv,0,none⟩),.pointer (some ⟨bw,0,none⟩),z9,dB,cZ,z12,de,dn,dm,dk,dj,dA,dz,z20,z21,z22,z23,z24,z25,z26,dD,z28,dC,dM,z31,dQ,dK,dP,dO,dV,z37,ey,ew,z40,eu,eK,eJ,eI,eH,z46,eQ,eN,z49,en,z51,iu,z53,iF,iE,iD,iC,iB,z59,nv,nu,np,nk,sW,sV,rH,rG,rF,.tuple #[],.func (.func 71) #[] #[.pointer (some ⟨bw,0,none⟩),.pointer (some ⟨hv,0,none⟩),.pointer (some ⟨g2,0,none⟩)],yb,z72],[]⟩:=⟨_,rfl⟩
 have B:eh p_ C bw 0 (ya Tryz.link bw 0 ((base 45).at aW (.inRegion j9 [0]::[.code (az 10 bz)])) (NG::cs)) (Fs p_ C (G ((base 45).at (aW.put ((j9[0]?).bind (·.dst)) (.tuple #[])) (.inRegion j9 []::[.code (az 10 bz)])) (NG::cs))) (N0+us.length):=
  ⟨by omega,fun g w h=>yT g w h,fun g w h=>waitRound Tryz.oN b9 bw 0 g w h⟩
 refine Can.leads (zM:=aY bw (N0+us.length+1) (N0+us.length) L) (ae:=ya Tryz.link bw 0 ((base 45).at aW (.inRegion j9 [0]::[.code (az 10 bz)])) (NG::cs)) (Fin:=Fs p_ C (G ((base 45).at (aW.put ((j9[0]?).bind (·.dst)) (.tuple #[])) (.inRegion j9 []::[.code (az 10 bz)])) (NG::cs))) (N:=N0+us.length) (child:=born p_ (call71 bw hv g2)) (g':=G ((base 45).at aW (.inRegion JA []::X0)) (NG::cs)) hS hL (fun rel ρ n hR=>hR.1) rfl (fun w=> ?_) b9 (fun w Ni=> ?_) (fun rel ρ n hR=> ?_) ?_
 ·rw [stepG_spawn (d:=call71 bw hv g2) rfl rfl (by k_ne) (w':=w) (by go_simp;rfl) rfl,listed_nil (by simp [go_sem]),ZU]
  rfl
 ·have W:=XI b9 bw 0
  have key:∃n,∀w,Live bw 0 w->Goes p_ true (RB C bw 0 0) (DW bw 0) (AtKd p_ C bw 0 (ya Tryz.link bw 0 ((base 45).at aW (.inRegion j9 [0]::[.code (az 10 bz)])) (NG::cs))) n (G ((base 45).at aW (.inRegion JA []::X0)) (NG::cs)) w:=by
   rw [<-hX]
   refine W.ctl rfl (fun _=>stepG_region_end) ?_
   refine W.ctl rfl (fun _=>stepG_seq) ?_
   refine W.ctl rfl (fun _=>stepG_region) ?_
   have er:List.range j9.size=[0]:=by kernel_rfl
   rw [er]
   refine W.ctl rfl (fun _=>Mx (p:=.pointer (some ⟨bw,0,none⟩)) Tryz.oN rfl rfl (by k_ne) rfl (by rw [ZU];kernel_rfl)) ?_
   exact waitStart Tryz.oN b9 bw 0
  obtain ⟨n,hn⟩:=key
  exact ⟨n,hn w Ni⟩
 ·obtain ⟨rfl,h0,h1⟩:=hR
  refine ⟨rfl,fun j hj qI=> ?_⟩
  rw [upd_ne _ _ qI,upd_ne _ _ hj];exact h1 j hj
 ·have wv:wl.cell? ⟨hv,0,none⟩=some (.pointer (some ⟨A.hb,0,none⟩)):=by rw [aB (hT.2.2 hv _ _ _ mP hvn BG)];rfl
  have we:wl.cell? ⟨g2,0,none⟩=some (.slice ea evs.length ec):=by rw [aB (hT.2.2 g2 _ _ _ WV evn ev0)];rfl
  refine Fc B hL H K hT wv we uO hn cK hm J7 (B₁:=Bd) Z7 fun w2 Sl SY du H2 T2=> ?_
  have KP:=cT Bd
  rw [ZU]
  have ep:(⟨#[z0,z1,.pointer (some ⟨g1,0,none⟩),.pointer (some ⟨g2,0,none⟩),z4,z5,z6,.pointer (some ⟨hv,0,none⟩),.pointer (some ⟨bw,0,none⟩),z9,dB,cZ,z12,de,dn,dm,dk,dj,dA,dz,z20,z21,z22,z23,z24,z25,z26,dD,z28,dC,dM,z31,dQ,dK,dP,dO,dV,z37,ey,ew,z40,eu,eK,eJ,eI,eH,z46,eQ,eN,z49,en,z51,iu,z53,iF,iE,iD,iC,iB,z59,nv,nu,np,nk,sW,sV,rH,rG,rF,.tuple #[],.func (.func 71) #[] #[.pointer (some ⟨bw,0,none⟩),.pointer (some ⟨hv,0,none⟩),.pointer (some ⟨g2,0,none⟩)],yb,z72],[]⟩:Act).put ((j9[0]?).bind (·.dst)) (.tuple #[])=⟨#[z0,z1,.pointer (some ⟨g1,0,none⟩),.pointer (some ⟨g2,0,none⟩),z4,z5,z6,.pointer (some ⟨hv,0,none⟩),.pointer (some ⟨bw,0,none⟩),z9,dB,cZ,z12,de,dn,dm,dk,dj,dA,dz,z20,z21,z22,z23,z24,z25,z26,dD,z28,dC,dM,z31,dQ,dK,dP,dO,dV,z37,ey,ew,z40,eu,eK,eJ,eI,eH,z46,eQ,eN,z49,en,z51,iu,z53,iF,iE,iD,iC,iB,z59,nv,nu,np,nk,sW,sV,rH,rG,rF,.tuple #[],.func (.func 71) #[] #[.pointer (some ⟨bw,0,none⟩),.pointer (some ⟨hv,0,none⟩),.pointer (some ⟨g2,0,none⟩)],.tuple #[],z72],[]⟩:=by kernel_rfl
  rw [ep]
  refine Can.ctl KP du rfl (fun _=>stepG_region_end) ?_
  refine Can.cY pA KP du (aF (by kernel_rfl) rfl rfl ⟨_,Tryz.func45⟩) ?_
  intro T d W hW Bh hB
  have q1:W.cell? ⟨hv,0,none⟩=some (.pointer (some ⟨A.hb,0,none⟩)):=by
   rw [hW.out,show (w2.re T d).cell? _=w2.cell? ⟨hv,0,none⟩ from rfl,aB (T2.2.2 hv _ _ _ mP hvn BG)];rfl
  have ir:=aa hc
  have H2H:=aa H2
  have T2H:=aa T2
  clear hc H2 T2 H K hT
  simp only [az,bz,Tryz.f45,A_]
  go_wp2_with fail
  have hB:=hB.out
  subst hB
  intro hcut todo
  have gA:Lay C W:=⟨hcut,du.no⟩
  rw [U1]
  refine Can.ctl KP gA rfl (fun _=>aZ rfl rfl Tryz.func45 rfl) ?_
  obtain ⟨x1,x2,x3,x4⟩:=H2H.out
  exact ir.out W Sl SY gA (by rw [hW.out];exact ⟨x1,x2,x3,x4.heap rfl⟩) (by rw [hW.out];exact T2H.out)
end
def Ev.good (m:Nat):Ev->Prop
 | .ring c pt=>(1<=c/\c<=99)/\0<=pt/\pt<=9
 | .hang c=>1<=c/\c<=99
 | .answer i=>i<m
 | .back i=>i<m
 | .wait n=>1<=n/\n<=60
variable {m:Int}
theorem IV {r:Raw} (h:bu r m=true):∃e:Ev,e.raw=r/\e.good m.toNat:=by
 obtain ⟨k,who,word⟩:=r
 unfold bu at h
 split at h
 ·cases h
 split at h
 ·cases h
 split at h
 ·cases h
 simp only at *
 split at h
 ·rename_i hk
  subst hk
  simp only [T_,decide_eq_true_eq] at h
  exact ⟨.ring who word,rfl,⟨by omega,by omega⟩,by omega,by omega⟩
 split at h
 ·rename_i hk
  subst hk
  simp only [T_,decide_eq_true_eq,beq_iff_eq] at h
  obtain ⟨h1,rfl⟩:=h
  exact ⟨.hang who,rfl,by omega,by omega⟩
 split at h
 ·rename_i hk
  simp only [T_,decide_eq_true_eq,beq_iff_eq] at h
  obtain ⟨h1,rfl⟩:=h
  have he:(((who - 1).toNat+1:Nat):Int)=who:=by omega
  rcases hk with rfl|rfl
  ·exact ⟨.answer (who - 1).toNat,by show (⟨_,_,_⟩:Raw)=_;rw [show Ev.who (.answer (who - 1).toNat)=_ from he];rfl,by show _<_;omega⟩
  ·exact ⟨.back (who - 1).toNat,by show (⟨_,_,_⟩:Raw)=_;rw [show Ev.who (.back (who - 1).toNat)=_ from he];rfl,by show _<_;omega⟩
 split at h
 ·rename_i hk
  subst hk
  simp only [T_,decide_eq_true_eq,beq_iff_eq] at h
  obtain ⟨h1,rfl⟩:=h
  exact ⟨.wait who,rfl,by omega,by omega⟩
 ·cases h
theorem s8 {rs:List Raw} (h:rs.all (fun r=>bu r m)=true):∃evs:List Ev,rs=evs.map Ev.raw/\∀e∈evs,e.good m.toNat:=by
 induction rs with
 |nil=>exact ⟨[],rfl,fun e he=>by cases he⟩
 |cons r rs ih=>
  rw [List.all_cons,T_] at h
  obtain ⟨e,h1,h2⟩:=IV h.1
  obtain ⟨evs,h3,h4⟩:=ih h.2
  exact ⟨e::evs,by rw [List.map_cons,h1,<-h3],fun x hx=>by
   rcases List.mem_cons.1 hx with rfl|hx
   ·exact h2
   ·exact h4 x hx⟩
theorem NJ {p q:Value}:Frame.enter p_ 45 #[p,q] .normal=(base 45).at ⟨#[p,q]++Array.replicate 71 undef,[]⟩ [.code bz]:=by kernel_rfl
def Bf (P:Int) (ls:List Nat) (us:List Od) (evs:List Ev):Hs:={(eC P (LK ls,us) evs).1 with cg:=(eC P (LK ls,us) evs).2.map (·.k)}
def SQ (w w':World):Prop:=∀(g:Nat) (cs:Array Value) (e:TypeId) (f:Nat × Nat),w.heap[g]?=some (Obj.cells cs e f)->w'.heap[g]?=some (Obj.cells cs e f)
def GG (P:Int) (ls:List Nat) (us:List Od) (evs:List Ev):Prop:=Dr P (LK ls,us) evs/\(eC P (LK ls,us) evs).2.length<=999/\(eC P (LK ls,us) evs).1.cg=[]
section
variable {oa:cS} {b o:Nat} {Post:Value->World->Prop} {Bd:Nat} {wl:World} {aI:Frame} {aS:Act} {av:Array Oper} {aN:Nat} {ak:List Nat} {aV:List Item} {cs:List Frame} {fG O P:Int} {ea:Option Addr} {ec:Nat} {rs:List Raw}
theorem FE (hL:Lay oa wl) (hlen:rs.length<=1048576) (bR:fF wl ea rs) (sr:qO wl) (SI:Bd<1000000000)
 (oF:(dw fG O P&&decide (rs.length<=60)&&rs.all (fun r=>bu r O))=false->∀aK,Lay oa aK->dI wl aK->Can p_ oa b o Post 0 (db Bd) aK (G (aI.at (aS.put ((av[aN]?).bind (·.dst)) (.pointer none)) (.inRegion av ak::aV)) cs))
 (pr:∀evs ls us,rs=evs.map Ev.raw->dw fG O P=true->evs.length<=60->(∀e∈evs,e.good O.toNat)->ls.Nodup->(ls.length:Int)=fG->(us.length:Int)=O->(∀u∈us,Od.k u=0)->GG P ls us evs/\
  ∀C' bw A va vt aK,Lay C' aK->cQ A va vt (Bf P ls us evs) aK->SQ wl aK->wl.heap.size<=A.hb->wl.heap.size<=aK.heap.size->Can p_ C' bw 0 Post 0 (db (Bd+5)) aK (G (aI.at (aS.put ((av[aN]?).bind (·.dst)) (.pointer (some ⟨A.hb,0,none⟩))) (.inRegion av ak::aV)) cs)):
 Can p_ oa b o Post 0 (db Bd) wl (G (Frame.enter p_ 45 #[.agg #[.int .i64 fG,.int .i64 O,.int .i64 P],.slice ea rs.length ec] .normal) (aI.at aS (.inRegion av (aN::ak)::aV)::cs)):=by
 rw [NJ]
 refine P1 hL hlen (fun hb aK fJ k=>oF (by rw [hb];rfl) aK fJ k) fun cK OZ w1 g1 g2 z0 z1 z2 z3 z4 z5 z6 z7 nU k1 x1 x2 l1 l2 l3=> ?_
 refine PZ nU OZ (bR.keep k1) x1 x2 (fun hb aK fJ k=>oF (by rw [hb,Bool.and_false]) aK fJ (k1.trans k)) fun eU w2 z0 z1 z2 z3 z4 z5 z6 z7 z8 z9 dB cZ z12 de dn dm dk dj dA dz z20 du k2=> ?_
 have ho:(1<=fG/\fG<=6)/\(1<=O/\O<=4)/\1<=P/\P<=60:=by
  simp only [dw,T_,decide_eq_true_eq] at cK
  obtain ⟨⟨h1,h2⟩,h3⟩:=cK
  omega
 obtain ⟨⟨p1,p2⟩,⟨p3,p4⟩,p5⟩:=ho
 have kk:=k1.trans k2
 have y1:=k2.blk _ _ x1
 have y2:=k2.blk _ _ x2
 refine Jk du y1 p1 p2 fun w3 X ls vl bw z0 z1 z2 z3 z4 z5 z6 z7 z8 z9 dB cZ z12 de dn dm dk dj dA dz z20 z21 z22 z23 z24 z25 z26 dD z28 dC dM z31 dQ dK dP dO dV z37 ey ew z40 eu eL eO eP gA b3 Ma CV lbw sbw=> ?_
 have sz3:w3.heap.size=(oH w3 bw #[] 108).heap.size:=by simp [oH]
 refine Can.NH (b':=bw) (o':=0) (Rn:=fun N=>pI bw N (fun _=>.gone)) gA ⟨(cell_of_block CV rfl).1,(cell_of_block CV rfl).1,(cell_of_block CV rfl).2,(cell_of_block CV rfl).2⟩ (fun w hw=>IL CV (cs:=#[]) (by simp) (fun k hk=>by simp at hk) hw) (fun tC U hn₀ hs=>⟨by simp only [oH,Array.size_setIfInBounds];exact hs.size,fun b o hb ho=>hs.obj b o hb (by rw [Bm (by omega)] at ho;exact ho)⟩) (fun N rel ρ h0 _ hA su=>Ax h0 hA su) ?_
 intro N hN Z7
 have qv:=JP (N:=N) CV gA
 have b4:jz w2 X ls [] vl (.slice none 0 0) (oH w3 bw #[] 108):=b3.turn (fun k hk=>Bm hk) sz3.symm rfl rfl lbw CV (by decide) (by decide) (by decide) (by simp [Value.ownBlock])
 have K4:LL (oa.anew N (Mo bw 0) True ⟨bw,0,none⟩) N [] (fun _=>.gone) (.slice none 0 0) w2 (oH w3 bw #[] 108):=
  ⟨fun i hi=>absurd hi (Nat.not_lt_zero _),(fun j v _ hv=>by cases hv),(fun i j u v _ _ _ hu=>by cases hu),⟨trivial,(fun g l h=>h),(fun j u _ hu=>by cases hu)⟩,fun i hi=>absurd hi (Nat.not_lt_zero _),fun i hi=>absurd hi (Nat.not_lt_zero _),fun i hi=>absurd hi (Nat.not_lt_zero _)⟩
 generalize oH w3 bw #[] 108=w4 at *
 generalize oa.anew N (Mo bw 0) True ⟨bw,0,none⟩=C4 at *
 have hS:=iS bw N (fun _=>.gone)
 have e1:az 6 bz=.seq (.seq (ai 0 (ai 6 bz)) (.block 4 (.loop oI))) (az 7 bz):=by kernel_rfl
 rw [e1]
 refine hS.steady.s qv ?_
 refine hS.steady.s qv ?_
 have cO:w4.cell? ⟨g1,1,none⟩=some (.int .i64 O):=by
  have hlt:=(cI y1)
  rw [World.cell?_of_block (b4.old.block g1 hlt (by simp)),aB y1];rfl
 generalize hX:[Item.code (Code.block 4 (.loop oI)),Item.code (az 7 bz)]=X0
 simp only [ai,bz,Tryz.f45,A_]
 refine Can.ctl hS.steady qv rfl (fun _=>zb) ?_
 refine Can.op (ok:=il) hS.steady qv rfl rfl (by k_ne) (by kernel_rfl) (fun T d=>⟨.pointer (some ⟨g1,1,none⟩),w4.re T d, ?_,fun _=>Can.re ?_ T d⟩)
 ·go_simp
 walk_nrm
 refine Can.op (ok:=il) hS.steady qv rfl rfl (by k_ne) (by kernel_rfl) (fun T d=>⟨.int .i64 O,w4.re T d, ?_,fun _=>Can.re ?_ T d⟩)
 ·have h0:(w4.re T d).cell? ⟨g1,1,none⟩=some (.int .i64 O):=cO
  go_simp
 walk_nrm
 refine Can.op (ok:=il) hS.steady qv rfl rfl (by k_ne) (by kernel_rfl) (fun T d=>⟨.int .i64 ((0:Nat):Int),w4.re T d, ?_,fun _=>Can.re ?_ T d⟩)
 ·go_simp
 walk_nrm
 refine Can.ctl hS.steady qv rfl (fun _=>stepG_region_end) ?_
 subst hX
 refine Can.ctl hS.steady qv rfl (fun _=>stepG_block) ?_
 refine Can.ctl hS.steady qv rfl (fun _=>stepG_loop) ?_
 refine P0 (N0:=N) (W0:=w2) (X:=X) (ls:=ls) (vl:=vl) (wl:=w4) p3 p4 hN (by omega) (fun _=>trivial) ?_ O.toNat 0 (by omega) (by omega) C4 [] (fun _=>.gone) w4 _ _ _ _ _ _ _ _ _ _ _ _ _ _ _ _ _ _ _ _ _ _ _ _ _ _ _ _ _ _ _ _ _ _ _ _ _ _ _ _ _ _ _ _ _ _ _ _ _ _ _ _ _ _ _ _ _ _ _ _ _ _ _ _ _ _ _ (.slice none 0 0) rfl qv b4 K4
 intro C5 w5 L5 us vo z0 z1 z2 z3 z4 z5 z6 z7 z8 z9 dB cZ z12 de dn dm dk dj dA dz z20 z21 z22 z23 z24 z25 z26 dD z28 dC dM z31 dQ dK dP dO dV z37 ey ew z40 eu eK eJ eI eH z46 eQ eN z49 en z51 iu z53 iF iE iD iC iB z59 nv nu np nk sW sV rH rG rF hus qu b5 K5
 obtain ⟨evs,EP,Q4⟩:=s8 eU
 have UC:evs.length=rs.length:=by rw [EP,List.length_map]
 have hkz:∀u∈us,Od.k u=0:=fun u hu=>by
  obtain ⟨i,hi,rfl⟩:=List.getElem_of_mem hu
  exact K5.kz i hi
 obtain ⟨⟨hrun,wi,hrt⟩,lI⟩:=pr evs ls us EP cK (by omega) Q4 b5.nd Ma hus hkz
 have T9:qO w2:=by
  obtain ⟨g,cs',e,f,t1,t2,t3⟩:=sr
  exact ⟨g,cs',e,f,t1,kk.blk _ _ t2,t3⟩
 obtain ⟨A,a1,a2,a3,a4,a5,a6,a7,a8,H5,C5',T5⟩:=LB b5 K5 (by omega) (by omega) (by omega) hN T9
 have old:∀(r:Nat) (ob:Obj),w2.heap[r]?=some ob->w5.heap[r]?=some ob:=fun r ob hr=>by
  rw [b5.old.block r (cI hr) (by simp)];exact hr
 have Ow:w2.heap.size<=A.hb:=by rw [a1];exact b5.low.1
 have uJ:fF w2 ea (evs.map Ev.raw):=by rw [<-EP];exact bR.keep kk
 have OC:=b5.hv
 rw [<-a1] at OC
 have YN:X.hv≠A.hb:=fun e=>by rw [e,a1,b5.box] at OC;simp at OC
 have g2l:=(cI y2)
 have y5:=old _ _ y2
 rw [<-UC] at y5
 have aP:A.P=P:=a4.trans eP
 refine MA (Bd:=Bd+5) (A:=A) (us:=us) (L:=L5) (hv:=X.hv) (evs:=evs) (ea:=ea) (ec:=ec) qu H5 C5' T5 hN (by omega) (by omega) (by rw [a6];exact OC) (by rw [a5];exact (cI OC)) YN (by rw [a6];exact y5) (by rw [a5];exact (cI y5)) (by omega) (La a5 a6 Ow old uJ) (by omega) (by rw [aP];exact hrun) (by rw [aP];exact wi) (by rw [aP];exact hrt) fun w6 va6 vt6 Iz H6 T6=> ?_
 rw [aP] at H6
 refine lI C5 bw A va6 vt6 w6 Iz H6 (fun g cs' e f hg=> ?_) (Nat.le_trans kk.size Ow) ?_
 ·have h2:=kk.blk _ _ hg
  have h5:=old _ _ h2
  exact T6.2.2 g _ _ _ (by rw [a5];exact (cI h5)) (by have:=(cI h2);omega) (by rw [a6];exact h5)
 ·obtain ⟨_,_,_,H6'⟩:=H6
  have:=H6'.big
  rw [a7] at this
  have h1:=b5.old.size
  have h2:=kk.size
  omega
end
end
section
open Go
structure Rm where
 recs:List Rec
 wait:List (Int × Int)
 back:List (Int × Int)
 clock:Int
 log:List Bs
def isOpen (r:Rec):Bool:=decide (r.fin=eR)
def dE (rs:List Rec) (c:Int):Option Nat:=rs.findIdx? fun r=>decide (r.call=c)&&isOpen r
def ez (rs:List Rec) (op:Int):Int:=match rs.find? (fun r=>decide (r.op=op)&&isOpen r) with|some r=>r.call|none=>0
def lM (rs:List Rec) (l:Int):Bool:=rs.any fun r=>decide (r.line=l)&&isOpen r
def bT (nl:Nat) (rs:List Rec):List Int:=((List.range nl).map fun i=>((i+1:Nat):Int)).filter fun l=> !lM rs l
def jJ (m:Rm) (i:Nat) (e:Bs):Rm:=match m.recs[i]? with
 |none=>m
 |some r=>{m with recs:=m.recs.set i {r with wI:=m.clock,fin:=e},wait:=aJ m.wait r.call}
def im (m:Rm) (c:Int):Bool:=m.back.any fun p=>decide (p.1=c)
def kS (nl:Nat) (m:Rm) (c pt:Int):Rm × Bs:=
 if (dE m.recs c).isSome||im m c then (m,tT) else match bT nl m.recs with
  |[]=>({m with back:=m.back++[(c,pt)]},qN)
  |l::_=>({m with recs:=m.recs++[⟨c,l,0,m.clock, -1, -1,eR⟩],wait:=gY m.wait (placeOf m.wait pt) (c,pt)},jj++Lib.itoa l)
def hZ (m:Rm) (op:Int):Rm × Bs:=
 if ez m.recs op>0 then (m,l8) else match m.wait with
  |[]=>(m,qB)
  |p::_=>match dE m.recs p.1 with
   |none=>(m,[])
   |some i=>match m.recs[i]? with
    |none=>(m,[])
    |some r=>({m with recs:=m.recs.set i {r with op:=op,heard:=m.clock},wait:=aJ m.wait p.1},dL++Lib.itoa p.1)
def lD (nl:Nat) (m:Rm) (op:Int):Rm × Bs:=
 if ez m.recs op>0 then (m,l8) else match m.back with
  |[]=>(m,qB)
  |p::_=>match bT nl m.recs with
   |[]=>(m,qN)
   |l::_=>({m with back:=aJ m.back p.1,recs:=m.recs++[⟨p.1,l,op,m.clock,m.clock, -1,eR⟩]},dL++Lib.itoa p.1)
def lv (m:Rm) (c:Int):Rm × Bs:=
 match dE m.recs c with
 |some i=>match m.recs[i]? with
  |none=>(m,[])
  |some r=>if r.op>0 then (jJ m i iy,iy) else (jJ m i ie,ie)
 |none=>if im m c then ({m with back:=aJ m.back c},JC) else (m,Da)
def fB (P:Int) (q:Rm × Bs) (p:Int × Int):Rm × Bs:=match dE q.1.recs p.1 with
 |none=>q
 |some i=>match q.1.recs[i]? with
  |none=>q
  |some r=>if q.1.clock - r.jy>=P then ({jJ q.1 i eT with back:=q.1.back++[p]},q.2++(32::Lib.itoa p.1)) else q
def mB (P:Int) (m:Rm) (n:Int):Rm × Bs:=m.wait.foldl (fB P) ({m with clock:=m.clock+n},rI++Lib.itoa (m.clock+n))
def qy (nl:Nat) (P:Int) (m:Rm):Ev->Rm × Bs
 | .ring c pt=>kS nl m c pt
 | .hang c=>lv m c
 | .answer i=>hZ m ((i+1:Nat):Int)
 | .back i=>lD nl m ((i+1:Nat):Int)
 | .wait n=>mB P m n
def Ca (nl:Nat) (P:Int) (m:Rm) (e:Ev):Rm:={(qy nl P m e).1 with log:=(qy nl P m e).1.log++[(qy nl P m e).2]}
def ja (nl:Nat) (P:Int) (evs:List Ev):Rm:=evs.foldl (Ca nl P) ⟨[],[],[],0,[]⟩
def iA (rs:List Rec) (i:Nat) (r:Rec):Prop:=rs[i]?=some r/\r.fin=eR
variable {rs:List Rec} {i j:Nat} {r':Rec}
theorem iA.set {r0:Rec} (h:rs[i]?=some r0) {s:Rec}:iA (rs.set i r') j s↔(j=i/\s=r'/\s.fin=eR)\/(j≠i/\iA rs j s):=by
 have hlt:=(List.getElem?_eq_some_iff.1 h).1
 unfold iA
 rw [List.getElem?_set]
 by_cases e:i=j
 ·subst e
  simp only [if_true,hlt,n_,ne_eq,not_true_eq_false,false_and,or_false,true_and]
  constructor
  ·rintro ⟨rfl,h⟩;exact ⟨rfl,h⟩
  ·rintro ⟨rfl,h⟩;exact ⟨rfl,h⟩
 ·have e':¬j=i:=fun h=>e h.symm
  simp only [e,if_false,e',false_and,ne_eq,not_false_eq_true,true_and,false_or]
theorem iA.app {s:Rec}:iA (rs++[r']) j s↔iA rs j s\/(j=rs.length/\s=r'/\s.fin=eR):=by
 unfold iA
 rw [List.getElem?_append]
 by_cases e:j<rs.length
 ·rw [if_pos e]
  constructor
  ·exact .inl
  ·rintro (h|⟨rfl,_⟩)
   ·exact h
   ·exact absurd e (Nat.lt_irrefl _)
 ·rw [if_neg e]
  have hn:rs[j]?=none:=List.getElem?_eq_none (by omega)
  rw [hn]
  by_cases e2:j=rs.length
  ·subst e2
   simp only [Nat.sub_self,List.getElem?_cons_zero,n_,true_and]
   constructor
   ·rintro ⟨rfl,h⟩;exact .inr ⟨rfl,h⟩
   ·rintro (⟨h,_⟩|⟨rfl,h⟩)
    ·cases h
    ·exact ⟨rfl,h⟩
  ·have:([r']:List Rec)[j - rs.length]?=none:=List.getElem?_eq_none (by simp;omega)
   rw [this]
   constructor
   ·rintro ⟨h,_⟩;cases h
   ·rintro (⟨h,_⟩|⟨h,_⟩)
    ·cases h
    ·exact absurd h e2
structure LP (nl no:Nat) (rs:List Rec):Prop where
 qM:∀(i j:Nat) (r s:Rec),iA rs i r->iA rs j s->r.call=s.call->i=j
 FK:∀(i j:Nat) (r s:Rec),iA rs i r->iA rs j s->r.line=s.line->i=j
 TG:∀(i j:Nat) (r s:Rec),iA rs i r->iA rs j s->r.op=s.op->r.op≠0->i=j
 G8:∀(i:Nat) (r:Rec),rs[i]?=some r->(1<=r.line/\r.line<=(nl:Int))/\(0<=r.op/\r.op<=(no:Int))/\1<=r.call/\r.call<=99
variable {nl no:Nat}
theorem kX (g:LP nl no rs) {c:Int} {r:Rec} (h:iA rs i r) (hc:r.call=c):dE rs c=some i:=by
 unfold dE
 rw [List.findIdx?_eq_some_iff_getElem]
 obtain ⟨hlt,e⟩:=List.getElem?_eq_some_iff.1 h.1
 refine ⟨hlt,by rw [e];simp [isOpen,hc,h.2],fun j hj hp=> ?_⟩
 simp only [T_,decide_eq_true_eq,isOpen] at hp
 have:=g.qM j i rs[j] r ⟨G_ _,hp.2⟩ h (by rw [hp.1,hc])
 omega
theorem wT {c:Int} (h:dE rs c=some i):∃r,iA rs i r/\r.call=c:=by
 unfold dE at h
 obtain ⟨hlt,hp,_⟩:=List.findIdx?_eq_some_iff_getElem.1 h
 simp only [T_,decide_eq_true_eq,isOpen] at hp
 exact ⟨rs[i],⟨G_ _,hp.2⟩,hp.1⟩
theorem Ej {c:Int} (h:dE rs c=none):∀i r,iA rs i r->r.call≠c:=by
 intro i r hr hc
 unfold dE at h
 rw [List.findIdx?_eq_none_iff] at h
 have:=h r (List.mem_iff_getElem?.2 ⟨i,hr.1⟩)
 simp [isOpen,hc,hr.2] at this
theorem uy {c:Int} (h:∀i r,iA rs i r->r.call≠c):dE rs c=none:=by
 cases hx:dE rs c with
 |none=>rfl
 |some i=>obtain ⟨r,h1,h2⟩:=wT hx;exact absurd h2 (h i r h1)
theorem BV (g:LP nl no rs) {op:Int} (h0:op≠0) {r:Rec} (h:iA rs i r) (ho:r.op=op):ez rs op=r.call:=by
 unfold ez
 have:rs.find? (fun r=>decide (r.op=op)&&isOpen r)=some r:=by
  rw [List.find?_eq_some_iff_getElem]
  obtain ⟨hlt,e⟩:=List.getElem?_eq_some_iff.1 h.1
  refine ⟨by simp [isOpen,ho,h.2],i,hlt,e,fun j hj=> ?_⟩
  cases hp:(decide ((rs[j]).op=op)&&isOpen rs[j]) with
  |false=>rfl
  |true=>
   simp only [T_,decide_eq_true_eq,isOpen] at hp
   have:=g.TG j i rs[j] r ⟨G_ _,hp.2⟩ h (by rw [hp.1,ho]) (by rw [hp.1];exact h0)
   omega
 rw [this]
theorem BW {op:Int} (h:∀i r,iA rs i r->r.op≠op):ez rs op=0:=by
 unfold ez
 have:rs.find? (fun r=>decide (r.op=op)&&isOpen r)=none:=by
  rw [List.find?_eq_none]
  intro r hr hp
  simp only [T_,decide_eq_true_eq,isOpen] at hp
  obtain ⟨i,hi⟩:=List.mem_iff_getElem?.1 hr
  exact h i r ⟨hi,hp.2⟩ hp.1
 rw [this]
theorem GR {l:Int}:lM rs l=true↔∃i r,iA rs i r/\r.line=l:=by
 unfold lM
 rw [List.any_eq_true]
 constructor
 ·rintro ⟨r,hr,hp⟩
  simp only [T_,decide_eq_true_eq,isOpen] at hp
  obtain ⟨i,hi⟩:=List.mem_iff_getElem?.1 hr
  exact ⟨i,r,⟨hi,hp.2⟩,hp.1⟩
 ·rintro ⟨i,r,h,hl⟩
  exact ⟨r,List.mem_iff_getElem?.2 ⟨i,h.1⟩,by simp [isOpen,hl,h.2]⟩
structure Rel (nl no n:Nat) (S:Hs) (us:List Od) (m:Rm):Prop where
 good:LP nl no m.recs
 recs:S.recs=m.recs
 clock:S.clock=m.clock
 wait:S.wait=m.wait
 back:S.back=m.back.map (·.1)
 log:S.log=m.log
 cg:S.cg=[]
 ll:S.lines.length=nl
 nd:S.lines.Nodup
 ul:us.length=no
 JE:∀c x,S.of c=some x->∃i r,iA m.recs i r/\r.call=c/\S.lines[(r.line - 1).toNat]?=some x/\S.rc c=some i
 MQ:∀i r,iA m.recs i r->∃x,S.of r.call=some x
 Oq:∀x c,S.on x=some c->∃i r,iA m.recs i r/\r.call=c/\S.lines[(r.line - 1).toNat]?=some x
 MN:∀i r x,iA m.recs i r->S.lines[(r.line - 1).toNat]?=some x->S.on x=some r.call
 LY:∀q u i r,us[q]?=some u->iA m.recs i r->r.op=((q+1:Nat):Int)->u.k=r.call
 MV:∀q u,us[q]?=some u->u.k≠0->∃i r,iA m.recs i r/\r.op=((q+1:Nat):Int)
 w0:(m.wait.map (·.1)).Nodup
 w1:∀p,p∈m.wait->∃i r,iA m.recs i r/\r.call=p.1/\r.op=0
 w2:∀i r,iA m.recs i r->r.op=0->r.call∈m.wait.map (·.1)
 b0:(m.back.map (·.1)).Nodup
 b1:∀p,p∈m.back->∀i r,iA m.recs i r->r.call≠p.1
 b2:∀p,p∈m.back->1<=p.1/\p.1<=99
 jy:∀(i:Nat) (r:Rec),m.recs[i]?=some r->0<=r.jy/\r.jy<=m.clock
 cl:0<=m.clock
 n1:m.recs.length<=n
 n2:m.wait.length+m.back.length<=n
 n4:m.clock<=60 * (n:Int)
theorem iA.one {r s:Rec} (h:iA rs i r) (k:iA rs i s):r=s:=M_ (h.1.symm.trans k.1)
section
variable {n:Nat} {S:Hs} {us yW:List Od} {m:Rm} {w' b':List (Int × Int)}
theorem Rel.close (R:Rel nl no n S us m) {r:Rec} (h:iA m.recs i r) {q:Bs} (hq:q≠eR) {x:Nat} (hx:S.lines[(r.line - 1).toNat]?=some x)
 (hu:yW.length=us.length) (hk:∀(k:Nat) (u:Od),yW[k]?=some u->(r.op=((k+1:Nat):Int)/\u.k=0)\/(r.op≠((k+1:Nat):Int)/\us[k]?=some u))
 (w0:(w'.map (·.1)).Nodup) (w1:∀p,p∈w'->p∈m.wait/\p.1≠r.call) (w2:∀p,p∈m.wait->p.1≠r.call->p∈w')
 (b0:(b'.map (·.1)).Nodup) (b1:∀p,p∈b'->p∈m.back\/p.1=r.call) (nn:w'.length+b'.length<=n):
 Rel nl no n {uk S r.call x i r q with wait:=w',back:=b'.map (·.1)} yW {m with recs:=m.recs.set i {r with wI:=m.clock,fin:=q},wait:=w',back:=b'}:=by
 have ho:∀{j:Nat} {s:Rec},iA (m.recs.set i {r with wI:=m.clock,fin:=q}) j s↔j≠i/\iA m.recs j s:=by
  intro j s
  rw [iA.set h.1]
  constructor
  ·rintro (⟨_,rfl,h3⟩|h)
   ·exact absurd h3 hq
   ·exact h
  ·exact .inr
 have Nr:∀{j:Nat} {s:Rec},(m.recs.set i {r with wI:=m.clock,fin:=q})[j]?=some s->(s={r with wI:=m.clock,fin:=q})\/m.recs[j]?=some s:=by
  intro j s hs
  rw [List.getElem?_set] at hs
  split at hs
  ·split at hs
   ·exact .inl (M_ hs).symm
   ·cases hs
  ·exact .inr hs
 have QV:=R.good.G8 i r h.1
 refine ⟨⟨?_, ?_, ?_, ?_⟩, ?_,R.clock,rfl,rfl,R.log,R.cg,R.ll,R.nd,hu.trans R.ul, ?_, ?_, ?_, ?_, ?_, ?_,w0, ?_, ?_,b0, ?_, ?_, ?_,R.cl, ?_,nn,R.n4⟩
 ·intro a b s t hs ht;exact R.good.qM a b s t (ho.1 hs).2 (ho.1 ht).2
 ·intro a b s t hs ht;exact R.good.FK a b s t (ho.1 hs).2 (ho.1 ht).2
 ·intro a b s t hs ht;exact R.good.TG a b s t (ho.1 hs).2 (ho.1 ht).2
 ·intro a s hs
  rcases Nr hs with rfl|hs
  ·exact QV
  ·exact R.good.G8 a s hs
 ·show S.recs.set i {r with wI:=S.clock,fin:=q}=_
  rw [R.recs,R.clock]
 ·intro c y hy
  have pg:(if c=r.call then none else S.of c)=some y:=hy
  split at pg
  ·cases pg
  ·rename_i hne
   obtain ⟨j,s,h1,h2,h3,h4⟩:=R.JE c y pg
   refine ⟨j,s,ho.2 ⟨fun e=> ?_,h1⟩,h2,h3,h4⟩
   subst e
   exact hne (by rw [<-h2,iA.one h h1])
 ·intro j s hs
  obtain ⟨y,hy⟩:=R.MQ j s (ho.1 hs).2
  refine ⟨y, ?_⟩
  show (if s.call=r.call then none else S.of s.call)=some y
  rw [if_neg fun e=>(ho.1 hs).1 (R.good.qM j i s r (ho.1 hs).2 h e)]
  exact hy
 ·intro y c hy
  have pg:(if y=x then none else S.on y)=some c:=hy
  split at pg
  ·cases pg
  ·rename_i hne
   obtain ⟨j,s,h1,h2,h3⟩:=R.Oq y c pg
   refine ⟨j,s,ho.2 ⟨fun e=> ?_,h1⟩,h2,h3⟩
   subst e
   obtain rfl:=iA.one h h1
   rw [hx] at h3
   exact hne (M_ h3).symm
 ·intro j s y hs hy
  have pg:S.lines[(s.line - 1).toNat]?=some y:=hy
  show (if y=x then none else S.on y)=some s.call
  have hne:y≠x:=fun e=>by
   subst e
   have h1:=R.good.G8 j s (ho.1 hs).2.1
   have e2:=(List.getElem?_inj (List.getElem?_eq_some_iff.1 hx).1 R.nd).1 (hx.trans pg.symm)
   exact (ho.1 hs).1 (R.good.FK j i s r (ho.1 hs).2 h (by omega))
  rw [if_neg hne]
  exact R.MN j s y (ho.1 hs).2 pg
 ·intro k u j s HE hs hop
  rcases hk k u HE with ⟨h1,_⟩|⟨_,h2⟩
  ·exact absurd (R.good.TG j i s r (ho.1 hs).2 h (by rw [hop,h1]) (by rw [hop];omega)) (ho.1 hs).1
  ·exact R.LY k u j s h2 (ho.1 hs).2 hop
 ·intro k u HE h0
  rcases hk k u HE with ⟨_,h1⟩|⟨h1,h2⟩
  ·exact absurd h1 h0
  ·obtain ⟨j,s,h3,h4⟩:=R.MV k u h2 h0
   refine ⟨j,s,ho.2 ⟨fun e=> ?_,h3⟩,h4⟩
   subst e
   obtain rfl:=iA.one h h3
   exact h1 h4
 ·intro p hp
  obtain ⟨h1,h2⟩:=w1 p hp
  obtain ⟨j,s,h3,h4,h5⟩:=R.w1 p h1
  refine ⟨j,s,ho.2 ⟨fun e=> ?_,h3⟩,h4,h5⟩
  subst e
  exact h2 (by rw [<-h4,iA.one h h3])
 ·intro j s hs h0
  obtain ⟨p,hp,e⟩:=List.mem_map.1 (R.w2 j s (ho.1 hs).2 h0)
  exact List.mem_map.2 ⟨p,w2 p hp (fun e2=>(ho.1 hs).1 (R.good.qM j i s r (ho.1 hs).2 h (e.symm.trans e2))),e⟩
 ·intro p hp j s hs
  rcases b1 p hp with h1|h1
  ·exact R.b1 p h1 j s (ho.1 hs).2
  ·exact fun e=>(ho.1 hs).1 (R.good.qM j i s r (ho.1 hs).2 h (e.trans h1))
 ·intro p hp
  rcases b1 p hp with h1|h1
  ·exact R.b2 p h1
  ·rw [h1];exact QV.2.2
 ·intro j s hs
  rcases Nr hs with rfl|hs
  ·exact R.jy i r h.1
  ·exact R.jy j s hs
 ·show (m.recs.set i _).length<=n
  rw [List.length_set];exact R.n1
variable {hd:Int}
theorem Rel.add (R:Rel nl no n S us m) {c:Int} {l:Nat} (hl:l<S.lines.length) (hf:S.on S.lines[l]=none) (hc:∀i r,iA m.recs i r->r.call≠c) (c0:1<=c) (c1:c<=99)
 {o:Int} (hop:o=0\/((1<=o/\o<=(no:Int))/\∀i r,iA m.recs i r->r.op≠o))
 (hu:yW.length=us.length) (hk:∀(k:Nat) (u:Od),yW[k]?=some u->(o=((k+1:Nat):Int)/\u.k=c)\/(o≠((k+1:Nat):Int)/\us[k]?=some u))
 (w0:(w'.map (·.1)).Nodup) (w1:∀p,p∈w'->p∈m.wait\/(p.1=c/\o=0)) (w2:∀p,p∈m.wait->p∈w') (w3:o=0->c∈w'.map (·.1))
 (b0:(b'.map (·.1)).Nodup) (b1:∀p,p∈b'->p∈m.back/\p.1≠c) (nn:w'.length+b'.length<=n+1):
 Rel nl no (n+1) {S with on:=fun y=>if y=S.lines[l] then some c else S.on y,of:=fun y=>if y=c then some S.lines[l] else S.of y,rc:=fun y=>if y=c then some S.recs.length else S.rc y,recs:=S.recs++[⟨c,(l:Int)+1,o,S.clock,hd, -1,eR⟩],wait:=w',back:=b'.map (·.1)} yW
  {m with recs:=m.recs++[⟨c,((l+1:Nat):Int),o,m.clock,hd, -1,eR⟩],wait:=w',back:=b'}:=by
 have ho:∀{j:Nat} {s:Rec},iA (m.recs++[⟨c,((l+1:Nat):Int),o,m.clock,hd, -1,eR⟩]) j s↔iA m.recs j s\/(j=m.recs.length/\s=⟨c,((l+1:Nat):Int),o,m.clock,hd, -1,eR⟩):=by
  intro j s
  rw [iA.app]
  constructor
  ·rintro (h|⟨h1,h2,_⟩)
   ·exact .inl h
   ·exact .inr ⟨h1,h2⟩
  ·rintro (h|⟨h1,h2⟩)
   ·exact .inl h
   ·exact .inr ⟨h1,h2,by rw [h2]⟩
 have Nr:∀{j:Nat} {s:Rec},(m.recs++[⟨c,((l+1:Nat):Int),o,m.clock,hd, -1,eR⟩])[j]?=some s->s=⟨c,((l+1:Nat):Int),o,m.clock,hd, -1,eR⟩\/m.recs[j]?=some s:=by
  intro j s hs
  have:=List.mem_iff_getElem?.2 ⟨j,hs⟩
  rw [List.getElem?_append] at hs
  split at hs
  ·exact .inr hs
  ·left
   obtain ⟨k,hk⟩:∃k,k=j - m.recs.length:=⟨_,rfl⟩
   rw [<-hk] at hs
   cases k with
   |zero=>exact (M_ hs).symm
   |succ k=>cases hs
 have hlt:∀{j:Nat} {s:Rec},iA m.recs j s->j<m.recs.length:=fun h=>(List.getElem?_eq_some_iff.1 h.1).1
 have UB:∀j s,iA m.recs j s->s.line≠((l+1:Nat):Int):=by
  intro j s hs e
  have:=R.MN j s S.lines[l] hs (by rw [e,show ((((l+1:Nat):Int)) - 1).toNat=l by omega];exact G_ _)
  rw [hf] at this;cases this
 have Ma:=R.ll
 refine ⟨⟨?_, ?_, ?_, ?_⟩, ?_,R.clock,rfl,rfl,R.log,R.cg,R.ll,R.nd,hu.trans R.ul, ?_, ?_, ?_, ?_, ?_, ?_,w0, ?_, ?_,b0, ?_, ?_, ?_,R.cl, ?_,nn, ?_⟩
 ·intro a b s t hs ht e
  rcases ho.1 hs with hs|⟨rfl,rfl⟩<;>rcases ho.1 ht with ht|⟨rfl,rfl⟩
  ·exact R.good.qM a b s t hs ht e
  ·exact absurd e (hc a s hs)
  ·exact absurd e.symm (hc b t ht)
  ·rfl
 ·intro a b s t hs ht e
  rcases ho.1 hs with hs|⟨rfl,rfl⟩<;>rcases ho.1 ht with ht|⟨rfl,rfl⟩
  ·exact R.good.FK a b s t hs ht e
  ·exact absurd e (UB a s hs)
  ·exact absurd e.symm (UB b t ht)
  ·rfl
 ·intro a b s t hs ht e e0
  rcases ho.1 hs with hs|⟨rfl,rfl⟩<;>rcases ho.1 ht with ht|⟨rfl,rfl⟩
  ·exact R.good.TG a b s t hs ht e e0
  ·rcases hop with h0|h0
   ·exact absurd (e.trans h0) e0
   ·exact absurd e (h0.2 a s hs)
  ·rcases hop with h0|h0
   ·exact absurd h0 e0
   ·exact absurd e.symm (h0.2 b t ht)
  ·rfl
 ·intro a s hs
  rcases Nr hs with rfl|hs
  ·refine ⟨⟨?_, ?_⟩,⟨?_, ?_⟩,c0,c1⟩
   ·show (1:Int)<=((l+1:Nat):Int);omega
   ·show ((l+1:Nat):Int)<=(nl:Int);omega
   ·show (0:Int)<=o;omega
   ·show o<=(no:Int);omega
  ·exact R.good.G8 a s hs
 ·show S.recs++[(⟨c,(l:Int)+1,o,S.clock,hd, -1,eR⟩:Rec)]=_
  rw [R.recs,R.clock]
  rfl
 ·intro d y hy
  have pg:(if d=c then some S.lines[l] else S.of d)=some y:=hy
  split at pg
  ·rename_i he
   subst he
   refine ⟨m.recs.length,_,ho.2 (.inr ⟨rfl,rfl⟩),rfl, ?_, ?_⟩
   ·show S.lines[(((l+1:Nat):Int) - 1).toNat]?=some y
    rw [<-pg,show ((((l+1:Nat):Int)) - 1).toNat=l by omega]
    exact G_ _
   ·show (if d=d then some S.recs.length else S.rc d)=_
    rw [if_pos rfl,R.recs]
  ·rename_i hne
   obtain ⟨j,s,h1,h2,h3,h4⟩:=R.JE d y pg
   refine ⟨j,s,ho.2 (.inl h1),h2,h3, ?_⟩
   show (if d=c then some S.recs.length else S.rc d)=_
   rw [if_neg hne];exact h4
 ·intro j s hs
  show ∃x,(if s.call=c then some S.lines[l] else S.of s.call)=some x
  rcases ho.1 hs with hs|⟨rfl,rfl⟩
  ·rw [if_neg (hc j s hs)];exact R.MQ j s hs
  ·rw [if_pos rfl];exact ⟨_,rfl⟩
 ·intro y d hy
  have pg:(if y=S.lines[l] then some c else S.on y)=some d:=hy
  split at pg
  ·rename_i he
   obtain rfl:=M_ pg
   refine ⟨m.recs.length,_,ho.2 (.inr ⟨rfl,rfl⟩),rfl, ?_⟩
   show S.lines[(((l+1:Nat):Int) - 1).toNat]?=some y
   rw [he,show ((((l+1:Nat):Int)) - 1).toNat=l by omega]
   exact G_ _
  ·obtain ⟨j,s,h1,h2,h3⟩:=R.Oq y d pg
   exact ⟨j,s,ho.2 (.inl h1),h2,h3⟩
 ·intro j s y hs hy
  have pg:S.lines[(s.line - 1).toNat]?=some y:=hy
  show (if y=S.lines[l] then some c else S.on y)=some s.call
  rcases ho.1 hs with hs|⟨rfl,rfl⟩
  ·have h2:=R.MN j s y hs pg
   rw [if_neg fun e=>by rw [e,hf] at h2;cases h2]
   exact h2
  ·have Qo:S.lines[(((l+1:Nat):Int) - 1).toNat]?=some y:=pg
   rw [show ((((l+1:Nat):Int)) - 1).toNat=l by omega,G_ hl] at Qo
   rw [if_pos (M_ Qo).symm]
 ·intro k u j s HE hs he
  rcases hk k u HE with ⟨h1,h2⟩|⟨h1,h2⟩
  ·rcases ho.1 hs with hs|⟨rfl,rfl⟩
   ·rcases hop with h0|h0
    ·omega
    ·exact absurd (he.trans h1.symm) (h0.2 j s hs)
   ·exact h2
  ·rcases ho.1 hs with hs|⟨rfl,rfl⟩
   ·exact R.LY k u j s h2 hs he
   ·exact absurd he h1
 ·intro k u HE h0
  rcases hk k u HE with ⟨h1,h2⟩|⟨h1,h2⟩
  ·exact ⟨m.recs.length,_,ho.2 (.inr ⟨rfl,rfl⟩),h1⟩
  ·obtain ⟨j,s,h3,h4⟩:=R.MV k u h2 h0
   exact ⟨j,s,ho.2 (.inl h3),h4⟩
 ·intro p hp
  rcases w1 p hp with h1|⟨h1,h2⟩
  ·obtain ⟨j,s,h3,h4,h5⟩:=R.w1 p h1
   exact ⟨j,s,ho.2 (.inl h3),h4,h5⟩
  ·exact ⟨m.recs.length,_,ho.2 (.inr ⟨rfl,rfl⟩),h1.symm,h2⟩
 ·intro j s hs h0
  rcases ho.1 hs with hs|⟨rfl,rfl⟩
  ·obtain ⟨p,hp,e⟩:=List.mem_map.1 (R.w2 j s hs h0)
   exact List.mem_map.2 ⟨p,w2 p hp,e⟩
  ·exact w3 h0
 ·intro p hp j s hs
  rcases ho.1 hs with hs|⟨rfl,rfl⟩
  ·exact R.b1 p (b1 p hp).1 j s hs
  ·exact fun e=>(b1 p hp).2 e.symm
 ·intro p hp;exact R.b2 p (b1 p hp).1
 ·intro j s hs
  rcases Nr hs with rfl|hs
  ·exact ⟨R.cl,Int.le_refl _⟩
  ·exact R.jy j s hs
 ·show (m.recs++_).length<=n+1
  rw [List.length_append];have:=R.n1;show m.recs.length+1<=n+1;omega
 ·have:=R.n4;show m.clock<=60 * ((n+1:Nat):Int);omega
theorem Rel.S6 (R:Rel nl no n S us m) {r:Rec} (h:iA m.recs i r) {o:Int} (h1:1<=o) (h2:o<=(no:Int)) (hno:∀i r,iA m.recs i r->r.op≠o) (h0:r.op=0)
 (hu:yW.length=us.length) (hk:∀(k:Nat) (u:Od),yW[k]?=some u->(o=((k+1:Nat):Int)/\u.k=r.call)\/(o≠((k+1:Nat):Int)/\us[k]?=some u))
 (w0:(w'.map (·.1)).Nodup) (w1:∀p,p∈w'->p∈m.wait/\p.1≠r.call) (w2:∀p,p∈m.wait->p.1≠r.call->p∈w') (nn:w'.length<=m.wait.length):
 Rel nl no n {S with recs:=S.recs.set i {r with op:=o,heard:=hd},wait:=w'} yW {m with recs:=m.recs.set i {r with op:=o,heard:=hd},wait:=w'}:=by
 have ho:∀{j:Nat} {s:Rec},iA (m.recs.set i {r with op:=o,heard:=hd}) j s↔(j=i/\s={r with op:=o,heard:=hd})\/(j≠i/\iA m.recs j s):=by
  intro j s
  rw [iA.set h.1]
  constructor
  ·rintro (⟨h3,h4,_⟩|h)
   ·exact .inl ⟨h3,h4⟩
   ·exact .inr h
  ·rintro (⟨h3,h4⟩|h')
   ·exact .inl ⟨h3,h4,by rw [h4];exact h.2⟩
   ·exact .inr h'
 have Nr:∀{j:Nat} {s:Rec},(m.recs.set i {r with op:=o,heard:=hd})[j]?=some s->(s={r with op:=o,heard:=hd})\/m.recs[j]?=some s:=by
  intro j s hs
  rw [List.getElem?_set] at hs
  split at hs
  ·split at hs
   ·exact .inl (M_ hs).symm
   ·cases hs
  ·exact .inr hs
 have QV:=R.good.G8 i r h.1
 have OM:∀{j:Nat} {s:Rec},iA m.recs j s->∃s',iA (m.recs.set i {r with op:=o,heard:=hd}) j s'/\s'.call=s.call/\s'.line=s.line/\(j≠i->s'=s):=by
  intro j s hs
  by_cases e:j=i
  ·subst e
   obtain rfl:=M_ (h.1.symm.trans hs.1)
   exact ⟨_,ho.2 (.inl ⟨rfl,rfl⟩),rfl,rfl,fun x=>absurd rfl x⟩
  ·exact ⟨s,ho.2 (.inr ⟨e,hs⟩),rfl,rfl,fun _=>rfl⟩
 have hold:∀{j:Nat} {s':Rec},iA (m.recs.set i {r with op:=o,heard:=hd}) j s'->∃s,iA m.recs j s/\s'.call=s.call/\s'.line=s.line/\(j≠i->s'=s)/\(j=i->s'.op=o):=by
  intro j s' hs
  rcases ho.1 hs with ⟨rfl,rfl⟩|⟨h3,h4⟩
  ·exact ⟨r,h,rfl,rfl,fun x=>absurd rfl x,fun _=>rfl⟩
  ·exact ⟨s',h4,rfl,rfl,fun _=>rfl,fun x=>absurd x h3⟩
 refine ⟨⟨?_, ?_, ?_, ?_⟩, ?_,R.clock,rfl,R.back,R.log,R.cg,R.ll,R.nd,hu.trans R.ul, ?_, ?_, ?_, ?_, ?_, ?_,w0, ?_, ?_,R.b0, ?_,R.b2, ?_,R.cl, ?_, ?_,R.n4⟩
 ·intro a b s t hs ht e
  obtain ⟨s0,a1,a2,_⟩:=hold hs;obtain ⟨t0,b1,b2,_⟩:=hold ht
  exact R.good.qM a b s0 t0 a1 b1 (by rw [<-a2,<-b2,e])
 ·intro a b s t hs ht e
  obtain ⟨s0,a1,_,a2,_⟩:=hold hs;obtain ⟨t0,b1,_,b2,_⟩:=hold ht
  exact R.good.FK a b s0 t0 a1 b1 (by rw [<-a2,<-b2,e])
 ·intro a b s t hs ht e e0
  rcases ho.1 hs with ⟨rfl,rfl⟩|⟨h3,h4⟩<;>rcases ho.1 ht with ⟨rfl,rfl⟩|⟨h5,h6⟩
  ·rfl
  ·exact absurd e.symm (hno b t h6)
  ·exact absurd e (hno a s h4)
  ·exact R.good.TG a b s t h4 h6 e e0
 ·intro a s hs
  rcases Nr hs with rfl|hs
  ·refine ⟨QV.1,⟨?_,h2⟩,QV.2.2⟩
   show (0:Int)<=o;omega
  ·exact R.good.G8 a s hs
 ·show S.recs.set i _=_
  rw [R.recs]
 ·intro c y hy
  obtain ⟨j,s,h3,h4,h5,h6⟩:=R.JE c y hy
  obtain ⟨s',a1,a2,a3,_⟩:=OM h3
  exact ⟨j,s',a1,a2.trans h4,by rw [a3];exact h5,h6⟩
 ·intro j s hs
  obtain ⟨s0,a1,a2,_⟩:=hold hs
  rw [a2];exact R.MQ j s0 a1
 ·intro y c hy
  obtain ⟨j,s,h3,h4,h5⟩:=R.Oq y c hy
  obtain ⟨s',a1,a2,a3,_⟩:=OM h3
  exact ⟨j,s',a1,a2.trans h4,by rw [a3];exact h5⟩
 ·intro j s y hs hy
  obtain ⟨s0,a1,a2,a3,_⟩:=hold hs
  rw [a2];exact R.MN j s0 y a1 (by rw [<-a3];exact hy)
 ·intro k u j s HE hs he
  rcases hk k u HE with ⟨h3,h4⟩|⟨h3,h4⟩
  ·rcases ho.1 hs with ⟨rfl,rfl⟩|⟨h5,h6⟩
   ·exact h4
   ·exact absurd (he.trans h3.symm) (hno j s h6)
  ·rcases ho.1 hs with ⟨rfl,rfl⟩|⟨h5,h6⟩
   ·exact absurd he h3
   ·exact R.LY k u j s h4 h6 he
 ·intro k u HE hz
  rcases hk k u HE with ⟨h3,h4⟩|⟨h3,h4⟩
  ·exact ⟨i,_,ho.2 (.inl ⟨rfl,rfl⟩),h3⟩
  ·obtain ⟨j,s,h5,h6⟩:=R.MV k u h4 hz
   refine ⟨j,s,ho.2 (.inr ⟨fun e=> ?_,h5⟩),h6⟩
   subst e
   obtain rfl:=M_ (h.1.symm.trans h5.1)
   rw [h0] at h6;omega
 ·intro p hp
  obtain ⟨a1,a2⟩:=w1 p hp
  obtain ⟨j,s,h3,h4,h5⟩:=R.w1 p a1
  refine ⟨j,s,ho.2 (.inr ⟨fun e=> ?_,h3⟩),h4,h5⟩
  subst e
  obtain rfl:=M_ (h.1.symm.trans h3.1)
  exact a2 h4.symm
 ·intro j s hs hz
  rcases ho.1 hs with ⟨rfl,rfl⟩|⟨h5,h6⟩
  ·have:o=0:=hz
   omega
  ·obtain ⟨p,hp,e⟩:=List.mem_map.1 (R.w2 j s h6 hz)
   exact List.mem_map.2 ⟨p,w2 p hp (fun e2=>h5 (R.good.qM j i s r h6 h (e.symm.trans e2))),e⟩
 ·intro p hp j s hs
  obtain ⟨s0,a1,a2,_⟩:=hold hs
  rw [a2];exact R.b1 p hp j s0 a1
 ·intro j s hs
  rcases Nr hs with rfl|hs
  ·exact R.jy i r h.1
  ·exact R.jy j s hs
 ·show (m.recs.set i _).length<=n
  rw [List.length_set];exact R.n1
 ·have:=R.n2;show w'.length+m.back.length<=n;omega
theorem Rel.Gx (R:Rel nl no n S us m) (b0:(b'.map (·.1)).Nodup) (b1:∀p,p∈b'->p∈m.back\/((1<=p.1/\p.1<=99)/\∀i r,iA m.recs i r->r.call≠p.1)) (nn:m.wait.length+b'.length<=n+1):
 Rel nl no (n+1) {S with back:=b'.map (·.1)} us {m with back:=b'}:=by
 refine ⟨R.good,R.recs,R.clock,R.wait,rfl,R.log,R.cg,R.ll,R.nd,R.ul,R.JE,R.MQ,R.Oq,R.MN,R.LY,R.MV,R.w0,R.w1,R.w2,b0, ?_, ?_,R.jy,R.cl,Nat.le_succ_of_le R.n1,nn, ?_⟩
 ·intro p hp
  rcases b1 p hp with h|h
  ·exact R.b1 p h
  ·exact h.2
 ·intro p hp
  rcases b1 p hp with h|h
  ·exact R.b2 p h
  ·exact h.1
 ·have:=R.n4;show m.clock<=60 * ((n+1:Nat):Int);omega
theorem Rel.tick (R:Rel nl no n S us m) {d:Int} (h0:0<=d) (h1:d<=60):Rel nl no (n+1) {S with clock:=S.clock+d} us {m with clock:=m.clock+d}:=by
 refine ⟨R.good,R.recs,by rw [R.clock],R.wait,R.back,R.log,R.cg,R.ll,R.nd,R.ul,R.JE,R.MQ,R.Oq,R.MN,R.LY,R.MV,R.w0,R.w1,R.w2,R.b0,R.b1,R.b2, ?_, ?_,Nat.le_succ_of_le R.n1,Nat.le_succ_of_le R.n2, ?_⟩
 ·intro i r hr
  have:=R.jy i r hr
  exact ⟨this.1,by show r.jy<=m.clock+d;omega⟩
 ·have:=R.cl;show 0<=m.clock+d;omega
 ·have:=R.n4;show m.clock+d<=60 * ((n+1:Nat):Int);omega
theorem Rel.mono (R:Rel nl no n S us m):Rel nl no (n+1) S us m:=
 ⟨R.good,R.recs,R.clock,R.wait,R.back,R.log,R.cg,R.ll,R.nd,R.ul,R.JE,R.MQ,R.Oq,R.MN,R.LY,R.MV,R.w0,R.w1,R.w2,R.b0,R.b1,R.b2,R.jy,R.cl,Nat.le_succ_of_le R.n1,Nat.le_succ_of_le R.n2,by have:=R.n4;show m.clock<=60 * ((n+1:Nat):Int);omega⟩
end
end
end Go.aC.Of
