/-
  connectCall.
-/
import Derived.Deep.RegionLaw
import Derived.Shelf.Strconv.Itoa0
import Derived.Shelf.Strconv.Itoa1
import Derived.Shelf.LaysM
import Derived.Shelf.Strconv.Itoa2
import Derived.Shelf.Strconv.Itoa3
import Derived.Shelf.Slices.Turned
import Derived.Ground.Names2Prog
import Derived.Shelf.Slices.Delete
import Derived.Shelf.Slices.Cells
import Derived.Shelf.Slices.Empties
import Derived.Ground.SlgnProg
import Derived.Shelf.SlicesE.Delete
import Derived.Test.YtnjkbffmmgckeaaGreatDoorProg
import Derived.Laws.IdiomCopy
import Derived.Lib.SliceRun
import Derived.Test.YtnjkbffmmgckeaaGreatDoorPaa
import Derived.Test.YtnjkbffmmgckeaaGreatDoorPag
import Derived.Test.YtnjkbffmmgckeaaGreatDoorPai
set_option linter.all false
set_option maxRecDepth 100000
set_option maxHeartbeats 32000000
open Go renaming World->J',Value->M',TypeId->Q',heap_setCell_other->a_,Calls->d_
open Go.RowKit renaming Hid->f_
open Nat renaming le_refl->C_,le_trans->D_,lt_of_lt_of_le->E_
open List renaming getElem?_eq_getElem->G_,length_append->K_,length_take->Q_
open Go.World renaming cell?_of_block->J_,grownBy_alloc->N_,frozen?_of_block->m_
open Option.some renaming injEq->n_
open Go.Proofs.Tryz renaming prog->p_
open Go.Proofs.Tryz
namespace Go.aC.Of
section
open Go Go.Conc Go.Conc.Lib Go.ConcR Go.ConcR.Gen Go.aC Go.Proofs
open Go.RowKit hiding Hid
open Go.ConcN (upd upd_ne upd_same)
def eR:Bs:=[111,112,101,110]
def kT (S:Hs) (c:Int) (l:Nat):Rec:=⟨c,(l:Int)+1,0,S.clock, -1, -1,eR⟩
def conn (S:Hs) (c:Int) (l x:Nat):Hs:={S with on:=fun y=>if y=x then some c else S.on y,of:=fun y=>if y=c then some x else S.of y,rc:=fun y=>if y=c then some S.recs.length else S.rc y,recs:=S.recs++[kT S c l]}
theorem EA:(Tryz.prog.info? 44).map (fun i=>(i.zero,i.size,i.bytes))=some (some (.agg #[.int .i64 0,.int .i64 0,.int .i64 0,.int .i64 0,.int .i64 0,.int .i64 0,.string ⟨#[]⟩]),7,64):=by kernel_rfl
theorem nG (a b:List Rec):cj (a++b)=cj a++cj b:=by simp [cj]
section
variable {A:Ha} {S:Hs} {vw vb vr va vt:M'} {w:J'}
variable {B sz:Nat} {xs:List M'}
theorem aE {e n:Nat} {v:M'} (h:w.ownsRow B e sz v n xs):∃a cap,v=.slice a n cap:=by
 rcases h.2 with ⟨h0,h1⟩|⟨g,cap,cur,h1,_⟩
 ·exact ⟨none,0,by rw [h0,h1]⟩
 ·exact ⟨_,_,h1⟩
theorem pU {e n:Nat} {v:M'} (h:w.ownsRow B e sz v n xs) (g:Nat) (hg:v.ownBlock=some g):B<=g:=(h.lt g hg).1
variable {w':J'} {n':Nat} {v':M'}
theorem bU {B' e e' s s' n:Nat} {v:M'} {Sk:List M'} (h:w.ownsRow B e s v n xs) (h':w.ownsRow B' e' s' v' n' Sk) (hne:e≠e') (hg:w.grownBy w' v'.ownBlock):w'.ownsRow B e s v n xs:=h.kept hg (gF h h' hne)
theorem aQ.push (h:aQ A S vw vb vr va vt w) {rs:List Rec} (hg:w.grownBy w' vr.ownBlock) (ho:w'.ownsRow A.B 44 7 v' rs.length (cj rs)):
 aQ A {S with recs:=rs} vw vb v' va vt (w'.setCell ⟨A.hb,9,none⟩ v')/\Fr A w (w'.setCell ⟨A.hb,9,none⟩ v'):=
 h.grown hg (fun g e=>pU h.recs g e) (k:=9) (v:=v') (S':={S with recs:=rs}) rfl rfl rfl rfl rfl (bU h.wait h.recs (by decide) hg) (bU h.back h.recs (by decide) hg) ho (bU h.log h.recs (by decide) hg) (bU h.cg h.recs (by decide) hg) h.apart
theorem aQ.TF (h:aQ A S vw vb vr va vt w) {r:Rec} (hg:w.grownBy w' vr.ownBlock) (ho:w'.ownsRow A.B 44 7 v' (S.recs.length+1) (cj S.recs++r.cells)):
 aQ A {S with recs:=S.recs++[r]} vw vb v' va vt (w'.setCell ⟨A.hb,9,none⟩ v')/\Fr A w (w'.setCell ⟨A.hb,9,none⟩ v'):=
 h.push hg (by rw [K_,nG];simpa [cj] using ho)
theorem aQ.alloc (h:aQ A S vw vb vr va vt w) (o:Obj):aQ A S vw vb vr va vt (w.alloc o):=by
 have hs:∀i,i<w.heap.size->(w.alloc o).heap[i]?=w.heap[i]?:=fun i hi=>(N_ w o none).block i hi (by simp)
 have lt:∀{i},i<A.B->i<w.heap.size:=fun hi=>E_ hi h.big
 exact ⟨h.ok,D_ h.big (N_ w o none).size,by rw [hs _ (lt h.ok.hb)];exact h.box,fun i hi=>(J_ (hs _ (lt h.ok.lb))).trans (h.lines i hi),h.on.block (hs _ (lt h.ok.m1)),h.of.block (hs _ (lt h.ok.m2)),h.rc.block (hs _ (lt h.ok.m3)),h.wait.alloc o,h.back.alloc o,h.recs.alloc o,h.log.alloc o,h.cg.alloc o,h.apart⟩
theorem Fr.alloc (hB:A.B<=w.heap.size) (o:Obj):Fr A w (w.alloc o):=⟨rfl,rfl,rfl,(N_ w o none).size,fun i hi _ _ _ _=>(N_ w o none).block i (E_ hi hB) (by simp)⟩
theorem bJ {cs:Array M'} {e:Q'} {j:Nat} {v:M'} (h:cs[j]?=some v):(w.alloc (.cells cs e)).cell? ⟨w.heap.size,j,none⟩=some v:=by
 unfold World.cell?
 simp only [World.alloc,Array.getElem?_push_size]
 simpa using h
theorem fY (w:J') (cs:Array M') (e:Q') (h:cs.toList=xs):∀j u,xs[j]?=some u->(w.alloc (.cells cs e)).cell? ((⟨w.heap.size,0,none⟩:Addr).add j)=some u:=by
 intro j u hu
 have:cs[j]?=some u:=by rw [<-hu,<-h];simp
 have h2:=bJ (w:=w) (e:=e) this
 by_cases h0:j=0
 ·subst h0;simpa [Addr.add] using h2
 ·simpa [Addr.add,h0] using h2
theorem Fr.drew:Fr A w w.drew:=Fr.of_heap rfl rfl rfl rfl
variable {W0:J'}
theorem oy (h:aQ A S vw vb vr va vt w) {c:Int} {l:Nat} (hl:l<S.lines.length) (hn:S.lines.length<=1000) (hr:S.recs.length<=100000) (hc: -1000000<=c) (BJ:c<=1000000) (hW:Fr A W0 w):
 d_ p_ 129 #[.pointer (some ⟨A.hb,0,none⟩),.int .i64 c,.int .i64 (l:Nat)] w fun e w'=>e=.returned (.tuple #[])/\(∃qb,aQ A (conn S c l S.lines[l]) vw vb qb va vt w')/\Fr A W0 w':=by
 obtain ⟨c3,_,_,_,_,_,_,_,_,_,_⟩:=h.c
 have hcell:=h.lines l hl
 have Iv:(l:Int)<(S.lines.length:Int):=by omega
 have hl3:(l:Int)<=1000:=by omega
 have c4:=h.c.2.1
 generalize hx:S.lines[l]=x at hcell ⊢
 have b9:=h.on
 have H:=aa h
 have HW:=aa hW
 clear h hW
 go_enter func129,ntmps129
 go_wp2_with (first
  |(at_mapUpdate;refine kn _ rfl _ _ _ 71 rfl zo Tryz.underlying71 A.m1 rfl b9 x rfl (.int .i64 c) rfl ?_;intro o1 Nh;have H1:=aa (H.out.N9 (f:=fun y=>if y=x then some c else S.on y) (cast (congrArg _ (funext fun y=>by by_cases e:y=x<;>simp [e])) Nh));have F1:=aa (HW.out.trans (Fr.bK (A:=A) (w:=w) (m:=A.m1) (o:=o1) (.inl rfl)));clear Nh H HW c3 c4 hcell b9;generalize World.bK w A.m1 o1=w1 at H1 F1 ⊢;have c5:=H1.out.c.2.2.1;have kE:=H1.out.of)
  |(at_mapUpdate;refine kn _ rfl _ _ _ 72 rfl pe Tryz.underlying72 A.m2 rfl kE c rfl (.chan (some x)) rfl ?_;intro o2 Uv;have H2:=aa (H1.out.setOf (f:=fun y=>if y=c then some x else S.of y) (cast (congrArg _ (funext fun y=>by by_cases e:y=c<;>simp [e])) Uv));have F2:=aa (F1.out.trans (Fr.bK (A:=A) (w:=w1) (m:=A.m2) (o:=o2) (.inr (.inl rfl))));clear Uv H1 F1 c5 kE;generalize World.bK w1 A.m2 o2=w2 at H2 F2 ⊢))
 obtain ⟨a,cap,ev⟩:=aE H2.out.recs
 obtain ⟨o3,Uc,hm3⟩:=(H2.out.rc.heap (w':=w2.drew) rfl).update pe Tryz.underlying75 c (.int .i64 (S.recs.length:Nat))
 have H3:=aa ((H2.out.heap (w':=w2.drew) rfl).Tb (f:=fun y=>if y=c then some S.recs.length else S.rc y) (cast (congrArg _ (funext fun y=>by by_cases e:y=c<;>simp [e])) hm3))
 have F3:=aa (F2.out.trans (Fr.drew.trans (Fr.bK (A:=A) (w:=w2.drew) (m:=A.m3) (o:=o3) (.inr (.inr rfl)))))
 have W5:=H2.out.c.2.2.2.2.2.2.2.1
 have c9:=H2.out.c.2.2.2.2.2.2.1
 rw [ev] at c9
 replace ev:=aa ev
 clear hm3 H2 F2
 go_region
 clear Uc W5 c9
 generalize World.bK w2.drew A.m3 o3=w3 at H3 F3 ⊢
 have c9:=H3.out.c.2.2.2.2.2.2.1
 rw [ev.out] at c9
 have Ig:=H3.out.c.2.2.2.2.2.2.2.2.1
 have f9:=H3.out.z 9
 simp only at Ig
 have hcB:=H3.out.big
 obtain ⟨S01,S02⟩:w3.drew.cell? ⟨A.hb,9,none⟩=some (.slice a S.recs.length cap)/\w3.drew.cell? ⟨A.hb,11,none⟩=some (.int .i64 S.clock):=⟨c9,Ig⟩
 have S1:∀o,(w3.drew.alloc o).cell? ⟨A.hb,9,none⟩=some (.slice a S.recs.length cap)/\(w3.drew.alloc o).cell? ⟨A.hb,11,none⟩=some (.int .i64 S.clock):=fun o=>⟨(N_ w3.drew o none).cell (a:=⟨A.hb,9,none⟩) c9 (by simp),(N_ w3.drew o none).cell (a:=⟨A.hb,11,none⟩) Ig (by simp)⟩
 have S11:=fun o=>(S1 o).1
 have S12:=fun o=>(S1 o).2
 have S13:∀o,(w3.alloc o).drew.cell? ⟨A.hb,9,none⟩=some (.slice a S.recs.length cap):=S11
 have S14:∀o,(w3.alloc o).drew.cell? ⟨A.hb,11,none⟩=some (.int .i64 S.clock):=S12
 have S15:∀o,(w3.alloc o).cell? ⟨A.hb,9,none⟩=some (.slice a S.recs.length cap):=S11
 have iw:∀o,(w3.drew.alloc o).ownsRow A.B 44 7 (.slice a S.recs.length cap) S.recs.length (cj S.recs):=fun o=>(ev.out▸(H3.out.heap (w':=w3.drew) rfl).recs).alloc o
 have hne:some A.hb≠(Value.slice a S.recs.length cap).ownBlock:=fun e=>by
  have h1:=(ev.out▸H3.out.recs.lt) A.hb e.symm
  have h2:=H3.out.ok.hb
  omega
 have S2f:∀o w5,(w3.drew.alloc o).grownBy w5 (Value.slice a S.recs.length cap).ownBlock->(w5.cell? ⟨A.hb,9,none⟩=some (.slice a S.recs.length cap)/\w5.cell? ⟨A.hb,11,none⟩=some (.int .i64 S.clock)):=fun o w5 hg=>⟨hg.cell (S1 o).1 hne,hg.cell (S1 o).2 hne⟩
 have F2f:∀o w5,(w3.drew.alloc o).grownBy w5 (Value.slice a S.recs.length cap).ownBlock->w5.frozen? ⟨A.hb,9,none⟩=false:=fun o w5 hg=>by
  have h2:=H3.out.ok.hb
  rw [m_ (hg.block A.hb (by rw [World.size_alloc];show A.hb<w3.heap.size+1;omega) hne),m_ ((N_ w3.drew o none).block A.hb (by show A.hb<w3.heap.size;omega) (by simp))]
  exact f9
 have ub:∀o,A.B<=(w3.drew.alloc o).heap.size:=fun o=>D_ hcB (N_ w3.drew o none).size
 obtain ⟨i0,hi,tX,rm,uF⟩:=info_parts EA
 have oJ:=aa (show IntKind.i64.wrap ((l:Int)+1)=(l:Int)+1 from IntWalk.i64_in _ (by omega))
 go_wp2
 go_region_law
  ((refine step_append_lies _ (by rfl) _ _ _ (by rfl) A.B 44 i0 _ 7 64 Tryz.underlying37 hi tX rm uF rfl (by decide) _ S.recs.length _ (by rfl) (iw _) ⟨w3.heap.size,0,none⟩ 1 1 (kT S c l).cells (by rfl) (by rfl) (fY w3.drew _ _ (by rw [oJ.out];rfl)) (by intro u hu;simp [Rec.cells,kT] at hu;rcases hu with rfl|rfl|rfl|rfl|rfl|rfl|rfl<;>rfl) (by omega) (by unfold maxLen;omega) (by omega) (ub _) (w3.heap.size+1) (World.size_alloc ..) ?_;intro gg cap5 w5 jl kh iP mR;obtain ⟨S2,S3⟩:=S2f _ _ kh;have f5:=F2f _ _ kh))
 all_goals
  go_end0
  have hp:=((H3.out.heap (w':=w3.drew) rfl).alloc _).TF (r:=kT S c l) (ev.out▸kh) jl
  exact ⟨rfl,⟨_,hp.1⟩,F3.out.trans (Fr.drew.trans ((Fr.alloc (w:=w3.drew) hcB _).trans hp.2))⟩
end
variable {α β:Type}
theorem sK (f:α->List β) (m:Nat) (hm:∀x,(f x).length=m):∀(xs:List α) (i k:Nat) (hi:i<xs.length) (hk:k<m) (v:β) (x':α),f x'=(f xs[i]).set k v->(xs.set i x').flatMap f=(xs.flatMap f).set (i * m+k) v:=by
 intro xs
 induction xs with
 |nil=>intro i k hi;simp at hi
 |cons x xs ih=>
  intro i k hi hk v x' h
  cases i with
  |zero=>
   simp only [List.set_cons_zero,List.flatMap_cons,Nat.zero_mul,Nat.zero_add]
   rw [List.set_append_left _ _ (by rw [hm];exact hk),h]
   rfl
  |succ i=>
   simp only [List.set_cons_succ,List.flatMap_cons]
   rw [List.set_append_right _ _ (by rw [hm,Nat.succ_mul];omega),ih i k (by simpa using hi) hk v x' (by simpa using h),hm]
   congr 2
   rw [Nat.succ_mul];omega
theorem jr (f:α->List β) (m:Nat) (hm:∀x,(f x).length=m):∀(xs:List α) (i k:Nat) (hi:i<xs.length) (hk:k<m),(xs.flatMap f)[i * m+k]?=(f xs[i])[k]?:=by
 intro xs
 induction xs with
 |nil=>intro i k hi;simp at hi
 |cons x xs ih=>
  intro i k hi hk
  cases i with
  |zero=>
   simp only [List.flatMap_cons,Nat.zero_mul,Nat.zero_add]
   rw [List.getElem?_append_left (by rw [hm];exact hk)]
   rfl
  |succ i=>
   simp only [List.flatMap_cons]
   rw [List.getElem?_append_right (by rw [hm,Nat.succ_mul];omega),hm]
   rw [show (i+1) * m+k - m=i * m+k by rw [Nat.succ_mul];omega,ih i k (by simpa using hi) hk]
   rfl
section
variable {A:Ha} {S:Hs} {vw vb vr va vt:M'} {w:J'}
variable {g i k:Nat}
theorem aQ.pQ (h:aQ A S vw vb vr va vt w) {cap:Nat} (hv:vr=.slice (some ⟨g,0,none⟩) S.recs.length cap) (hi:i<S.recs.length) (hk:k<7):w.cell? ⟨g,i * 7+k,none⟩=(S.recs[i]).cells[k]?/\w.frozen? ⟨g,i * 7+k,none⟩=false:=by
 have ho:=h.recs
 rw [hv] at ho
 exact ⟨(ho.cellAt _ (by omega)).trans (jr Rec.cells 7 (fun _=>rfl) _ _ _ hi hk),ho.frozenAt _⟩
theorem aQ.Ac (h:aQ A S vw vb vr va vt w) {cap:Nat} (hv:vr=.slice (some ⟨g,0,none⟩) S.recs.length cap) (hi:i<S.recs.length) (hk:k<7) {v:M'} {r:Rec} (hr:r.cells=(S.recs[i]).cells.set k v):
 aQ A {S with recs:=S.recs.set i r} vw vb vr va vt (w.setCell ⟨g,i * 7+k,none⟩ v)/\Fr A w (w.setCell ⟨g,i * 7+k,none⟩ v):=by
 have ho:=h.recs
 have hg:=(ho.lt g (by rw [hv];rfl)).1
 have hs:∀yD,yD≠g->(w.setCell ⟨g,i * 7+k,none⟩ v).heap[yD]?=w.heap[yD]?:=fun yD ig=>a_ w ⟨g,i * 7+k,none⟩ yD v ig
 have lo:∀yD,yD<A.B->(w.setCell ⟨g,i * 7+k,none⟩ v).heap[yD]?=w.heap[yD]?:=fun yD ig=>hs _ (by omega)
 have Ky:w.grownBy (w.setCell ⟨g,i * 7+k,none⟩ v) vr.ownBlock:=⟨rfl,rfl,rfl,by simp,fun j _ hj=>hs j (fun e=>hj (by rw [e,hv];rfl))⟩
 refine ⟨⟨h.ok,by simpa using h.big, ?_,fun j hj=>(J_ (lo _ h.ok.lb)).trans (h.lines j hj),h.on.block (lo _ h.ok.m1),h.of.block (lo _ h.ok.m2),h.rc.block (lo _ h.ok.m3),bU h.wait ho (by decide) Ky,bU h.back ho (by decide) Ky, ?_,bU h.log ho (by decide) Ky,bU h.cg ho (by decide) Ky,h.apart⟩,rfl,rfl,rfl,by simp,fun j hj _ _ _ _=>lo j hj⟩
 ·rw [lo _ h.ok.hb];exact h.box
 ·rw [hv] at ho ⊢
  have:=(ho.stored (i * 7+k) v).1
  simpa [cj,sK Rec.cells 7 (fun _=>rfl) _ _ _ hi hk v r hr] using this
variable {P:Program}
open Classical in
theorem wJ {K:Type} {enc:K->M'} {f:K->Option M'} {kt et:Q'} {ops:Array Oper} {o:Oper} {a:Act} {K':Act->J'->Prop} {Q:Exit->Act->J'->Prop} {E:Prop} (Q4:o.guard=none) (m x:Operand) (t Qh:Q') (hop:o.op=Op.call {callee:=Callee.builtin Builtin.delete,args:=#[m,x],argTypes:=#[t,Qh]}) (hK:Keys P kt enc) (ht:P.underlying t=some (.map kt et)) (b:Nat) (hm:a.eval m=.map (some b)) (h:ed w b enc f) (k:K) (hx:a.eval x=enc k)
 (hk:∀ob,ed (World.bK w b ob) b enc (fun x=>if x=k then none else f x)->K' (a.put o.dst (.tuple #[])) (World.bK w b ob)):if Region.wanted o (yielded ops a.tmps)=true then Oper.wp P o a w K' Q else E:=by
 have hw:Region.wanted o (yielded ops a.tmps)=true:=by simp [Region.wanted,Q4]
 rw [if_pos hw]
 obtain ⟨ob,hrun,h2⟩:=h.delete hK ht k o.type Qh
 unfold Oper.wp
 simp [execOp,hop,resolve,invoke,builtin,hm,hx,hrun,Result.andThen]
 exact hk ob h2
structure nc (A:Ha) (row:Option Nat) (w w':J'):Prop where
 size:w.heap.size<=w'.heap.size
 block:∀i,i<w.heap.size->i≠A.hb->i≠A.m1->i≠A.m2->i≠A.m3->some i≠row->w'.heap[i]?=w.heap[i]?
theorem nc.trans {row:Option Nat} {a b c:J'} (h:nc A row a b) (k:nc A row b c):nc A row a c:=⟨D_ h.size k.size,fun i hi h1 h2 h3 h4 h5=>(k.block i (E_ hi h.size) h1 h2 h3 h4 h5).trans (h.block i hi h1 h2 h3 h4 h5)⟩
variable {w':J'}
theorem nc.same {row:Option Nat} (h:w'.heap=w.heap):nc A row w w':=⟨by rw [h];exact C_ _,fun _ _ _ _ _ _ _=>by rw [h]⟩
theorem nc.bK {row:Option Nat} {m:Nat} {o:Obj} (hm:m=A.m1\/m=A.m2\/m=A.m3):nc A row w (World.bK w m o):=⟨by rw [jT];exact C_ _,fun i _ _ h1 h2 h3 _=>bG (by rcases hm with rfl|rfl|rfl<;>assumption)⟩
theorem nc.setCell {row:Option Nat} {o:Nat} {v:M'} (hg:row=some g):nc A row w (w.setCell ⟨g,o,none⟩ v):=⟨by simp,fun i _ _ _ _ _ h=>a_ w ⟨g,o,none⟩ i v (fun e=>h (by rw [hg,show i=g from e]))⟩
def uk (S:Hs) (c:Int) (x i:Nat) (r:Rec) (q:Bs):Hs:={S with on:=fun y=>if y=x then none else S.on y,of:=fun y=>if y=c then none else S.of y,recs:=S.recs.set i {r with wI:=S.clock,fin:=q}}
variable {W0:J'}
theorem um (h:aQ A S vw vb vr va vt w) {c:Int} {x:Nat} (kE:S.of c=some x) (mj:S.rc c=some i) (hi:i<S.recs.length) (hr:S.recs.length<=100000) {q:Bs} (hW:Fr A W0 w):
 d_ p_ 135 #[.pointer (some ⟨A.hb,0,none⟩),.int .i64 c,.string ⟨q.toArray⟩] w fun e w'=>e=.returned (.tuple #[])/\aQ A (uk S c x i S.recs[i] q) vw vb vr va vt w'/\Fr A W0 w'/\nc A vr.ownBlock w w':=by
 have c4:=h.c.2.1
 have c5:=h.c.2.2.1
 have b9:=h.on.heap (w':=w.drew) rfl
 have Sy:Sem.run p_ (Instr.lookup 72 (Value.map (some A.m2)) (Value.int IntKind.i64 c) false) w.drew=.ok (.chan (some x)) w.drew:=by
  have:=(h.of.heap (w':=w.drew) rfl).lookup pe Tryz.underlying72 c (z:=.chan none) (fun w=>qQ w) false
  rw [kE] at this;exact this
 have H:=aa h
 have HW:=aa hW
 clear h hW
 go_enter func135,ntmps135
 go_wp2
 go_region_law ((refine wJ (by rfl) _ _ 71 78 (by rfl) zo Tryz.underlying71 A.m1 (by rfl) b9 x (by rfl) ?_;intro o1 Nh))
 all_goals
  have H1:=aa ((H.out.heap (w':=w.drew) rfl).N9 (f:=fun y=>if y=x then none else S.on y) (cast (congrArg _ (funext fun y=>by by_cases e:y=x<;>simp [e])) Nh))
  have F1:=aa (HW.out.trans (Fr.drew.trans (Fr.bK (A:=A) (w:=w.drew) (m:=A.m1) (o:=o1) (.inl rfl))))
  have A1:f_ (nc A vr.ownBlock w (World.bK w.drew A.m1 o1)):=(nc.same (w:=w) (w':=w.drew) rfl).trans (nc.bK (.inl rfl))
  clear Nh c4 c5 b9 Sy H HW
  generalize World.bK w.drew A.m1 o1=w1 at H1 F1 A1 ⊢
  have c5:=H1.out.c.2.2.1
  have Un:=H1.out.of
  go_wp2_with (first
   |(at_delete;refine sZ _ rfl _ _ 72 3 rfl pe Tryz.underlying72 A.m2 rfl Un c rfl ?_;intro o2 Uv;have H2:=aa (H1.out.setOf (f:=fun y=>if y=c then none else S.of y) (cast (congrArg _ (funext fun y=>by by_cases e:y=c<;>simp [e])) Uv));have F2:=aa (F1.out.trans (Fr.bK (A:=A) (w:=w1) (m:=A.m2) (o:=o2) (.inr (.inl rfl))));have A2:f_ (nc A vr.ownBlock w (World.bK w1 A.m2 o2)):=A1.out.trans (nc.bK (.inr (.inl rfl)));clear Uv H1 F1 A1 c5 Un;generalize World.bK w1 A.m2 o2=w2 at H2 F2 A2 ⊢))
  obtain ⟨g,cap,cur,ev,_⟩:=cz H2.out.recs (Nat.lt_of_le_of_lt (Nat.zero_le _) hi)
  have ev:=aa ev
  refine (jL H2.out mj hi ev.out hr).mono ?_
  rintro e w3 ⟨rfl,hh,F3⟩
  have H3:=aa (H2.out.heap hh)
  have F3':=aa (F2.out.trans F3)
  have A3:=aa (A2.out.trans (nc.same hh))
  clear F3 F2 H2 A2 hh
  have Ig:=H3.out.c.2.2.2.2.2.2.2.2.1
  simp only at Ig
  obtain ⟨x1,x2⟩:=H3.out.pQ ev.out hi (k:=5) (by decide)
  have H4:=H3.out.Ac ev.out hi (k:=5) (by decide) (v:=.int .i64 S.clock) (r:={S.recs[i] with wI:=S.clock}) rfl
  obtain ⟨x3,x4⟩:=H4.1.pQ (i:=i) (g:=g) (cap:=cap) (by rw [ev.out];simp) (by simpa using hi) (k:=6) (by decide)
  have H5:=H4.1.Ac (i:=i) (g:=g) (cap:=cap) (by rw [ev.out];simp) (by simpa using hi) (k:=6) (by decide) (v:=.string ⟨q.toArray⟩) (r:={S.recs[i] with wI:=S.clock,fin:=q}) (by simp [Rec.cells])
  replace H5:=aa (And.intro H5.1 (F3'.out.trans (H4.2.trans H5.2)))
  simp [Rec.cells] at x1 x3
  clear H4 F3' H3
  go_wp2
  go_end0
  have h6:=H5.out
  simp only [List.set_set] at h6
  have hro:vr.ownBlock=some g:=by rw [ev.out];rfl
  exact ⟨rfl,h6.1,h6.2,A3.out.trans ((nc.setCell hro).trans (nc.setCell hro))⟩
end
end
end Go.aC.Of
namespace Go.Proofs
section
open Go.Shelf
def Tryz.AJ:Go.Shelf.Ren:=⟨fun|171=>131|243=>142|246=>145|283=>147|284=>148|285=>149|286=>150|129=>152|317=>151|318=>153|319=>154|320=>155|337=>156|338=>157|n=>n,fun|3=>3|9=>9|2=>2|4=>4|171=>178|0=>0|53=>103|37=>42|5=>5|173=>181|212=>184|51=>106|20=>20|213=>185|46=>134|232=>189|233=>190|n=>n,fun|17=>0|18=>1|19=>2|n=>n⟩
theorem Tryz.JO:Go.Proofs.LaysM.n171 p_ Tryz.AJ:={
 mixed:=by kernel_rfl
 f129:=func152.trans (congrArg some (by kernel_rfl))
 f171:=func131.trans (congrArg some (by kernel_rfl))
 f243:=func142.trans (congrArg some (by kernel_rfl))
 f246:=func145.trans (congrArg some (by kernel_rfl))
 f283:=func147.trans (congrArg some (by kernel_rfl))
 f284:=func148.trans (congrArg some (by kernel_rfl))
 f285:=func149.trans (congrArg some (by kernel_rfl))
 f286:=func150.trans (congrArg some (by kernel_rfl))
 f317:=func151.trans (congrArg some (by kernel_rfl))
 f318:=func153.trans (congrArg some (by kernel_rfl))
 f319:=func154.trans (congrArg some (by kernel_rfl))
 f320:=func155.trans (congrArg some (by kernel_rfl))
 f337:=func156.trans (congrArg some (by kernel_rfl))
 f338:=func157.trans (congrArg some (by kernel_rfl))
 t0:=Tryz.underlying0
 a0:=Tryz.isAgg0
 z0:=Tryz.sizeOf0
 v0:=Tryz.zeroValue0
 t2:=Tryz.underlying2
 a2:=Tryz.isAgg2
 z2:=Tryz.sizeOf2
 v2:=Tryz.zeroValue2
 t3:=Tryz.underlying3
 a3:=Tryz.isAgg3
 z3:=Tryz.sizeOf3
 v3:=Tryz.zeroValue3
 t4:=Tryz.underlying4
 a4:=Tryz.isAgg4
 z4:=Tryz.sizeOf4
 v4:=Tryz.zeroValue4
 t5:=Tryz.underlying5
 a5:=Tryz.isAgg5
 z5:=Tryz.sizeOf5
 v5:=Tryz.zeroValue5
 t9:=Tryz.underlying9
 a9:=Tryz.isAgg9
 z9:=Tryz.sizeOf9
 v9:=Tryz.zeroValue9
 t20:=Tryz.underlying20
 a20:=Tryz.isAgg20
 z20:=Tryz.sizeOf20
 v20:=Tryz.zeroValue20
 t37:=Tryz.underlying42
 a37:=Tryz.isAgg42
 z37:=Tryz.sizeOf42
 v37:=Tryz.zeroValue42
 t46:=Tryz.underlying134
 a46:=Tryz.isAgg134
 z46:=Tryz.sizeOf134
 v46:=Tryz.zeroValue134
 t51:=Tryz.underlying106
 a51:=Tryz.isAgg106
 z51:=Tryz.sizeOf106
 v51:=Tryz.zeroValue106
 t53:=Tryz.underlying103
 a53:=Tryz.isAgg103
 z53:=Tryz.sizeOf103
 v53:=Tryz.zeroValue103
 t171:=Tryz.underlying178
 a171:=Tryz.isAgg178
 z171:=Tryz.sizeOf178
 v171:=Tryz.zeroValue178
 t173:=Tryz.underlying181
 a173:=Tryz.isAgg181
 z173:=Tryz.sizeOf181
 v173:=Tryz.zeroValue181
 t212:=Tryz.underlying184
 a212:=Tryz.isAgg184
 z212:=Tryz.sizeOf184
 v212:=Tryz.zeroValue184
 t213:=Tryz.underlying185
 a213:=Tryz.isAgg185
 z213:=Tryz.sizeOf185
 t232:=Tryz.underlying189
 a232:=Tryz.isAgg189
 z232:=Tryz.sizeOf189
 v232:=Tryz.zeroValue189
 t233:=Tryz.underlying190
 a233:=Tryz.isAgg190
 z233:=Tryz.sizeOf190
 v233:=Tryz.zeroValue190
 g17:=by kernel_rfl
 g18:=by kernel_rfl
 g19:=by kernel_rfl
 i0:=by kernel_rfl
 i2:=by kernel_rfl
 i3:=by kernel_rfl
 i4:=by kernel_rfl
 i5:=by kernel_rfl
 i9:=by kernel_rfl
 i20:=by kernel_rfl
 i37:=by kernel_rfl
 i46:=by kernel_rfl
 i51:=by kernel_rfl
 i53:=by kernel_rfl
 i171:=by kernel_rfl
 i173:=by kernel_rfl
 i212:=by kernel_rfl
 i232:=by kernel_rfl
 i233:=by kernel_rfl
 m17:=by kernel_rfl
 m18:=by kernel_rfl
 m19:=by kernel_rfl}
open Go.RowKit Go.Sort Go.Lib in
theorem Tryz.strconv_Itoa (n:Int) (h0: -9223372036854775808<=n) (h1:n<=9223372036854775807) (w:J') (sr:Lib.TabIs p_ w "internal/strconv.uint64pow10" .u64 Lib.pow10Tab):
 d_ p_ 131 #[.int .i64 n] w fun e w'=>e=.returned (.string ⟨(Lib.itoa n).toArray⟩)/\∃k os,w'=grow (w.drewN k) os:=Any.strconv_Itoa Tryz.JO n h0 h1 w sr
def Tryz.Ox:Go.Shelf.Ren:=⟨fun|171=>131|243=>142|246=>145|283=>147|284=>148|285=>149|286=>150|129=>152|317=>151|318=>153|319=>154|320=>155|337=>156|338=>157|n=>n,fun|3=>3|9=>9|2=>2|4=>4|171=>178|0=>0|53=>103|37=>42|5=>5|173=>181|212=>184|51=>106|20=>20|213=>185|46=>134|232=>189|233=>190|n=>n,fun|17=>0|18=>1|19=>2|n=>n⟩
open Go.RowKit Go.Sort Go.Lib in
def Tryz.Cv:Go.Shelf.Ren:=⟨fun|108=>132|n=>n,fun|28=>26|3=>3|0=>0|4=>4|n=>n,fun|n=>n⟩
theorem Tryz.FM:Go.Proofs.Lays.n108 p_ Tryz.Cv:={
 mixed:=by kernel_rfl
 f108:=func132.trans (congrArg some (by kernel_rfl))
 t0:=Tryz.underlying0
 a0:=Tryz.isAgg0
 z0:=Tryz.sizeOf0
 v0:=Tryz.zeroValue0
 t3:=Tryz.underlying3
 a3:=Tryz.isAgg3
 z3:=Tryz.sizeOf3
 v3:=Tryz.zeroValue3
 t4:=Tryz.underlying4
 a4:=Tryz.isAgg4
 z4:=Tryz.sizeOf4
 v4:=Tryz.zeroValue4
 t28:=Tryz.underlying26
 a28:=Tryz.isAgg26
 z28:=Tryz.sizeOf26
 v28:=Tryz.zeroValue26}
open Go.Lib in
theorem Tryz.slices_Index_int (b off n c:Nat) (zs:List Int) (x:Int) (w:J') (hz:n<=zs.length) (CW:n<=9223372036854775807) (hc:∀j,j<zs.length->w.cell? ⟨b,off+j,none⟩=some (.int .i64 (zs.getD j 0))):
 d_ p_ 132 #[.slice (some ⟨b,off,none⟩) n c,.int .i64 x] w fun e w'=>e=.returned (.int .i64 (Lib.idxOf (zs.take n) x))/\w'=w:=Any.slices_Index_int Tryz.FM b off n c zs x w hz CW hc
open Go.Lib in
theorem Tryz.slices_Index_int_empty (a:Option Addr) (c:Nat) (x:Int) (w:J'):
 d_ p_ 132 #[.slice a 0 c,.int .i64 x] w fun e w'=>e=.returned (.int .i64 (Lib.idxOf [] x))/\w'=w:=Any.slices_Index_int_empty Tryz.FM a c x w
def Tryz.Cw:Go.Shelf.Ren:=⟨fun|107=>127|108=>132|n=>n,fun|28=>26|3=>3|4=>4|0=>0|n=>n,fun|n=>n⟩
theorem Tryz.FN:Go.Proofs.Lays.n107 p_ Tryz.Cw:={
 mixed:=by kernel_rfl
 f107:=func127.trans (congrArg some (by kernel_rfl))
 f108:=func132.trans (congrArg some (by kernel_rfl))
 t0:=Tryz.underlying0
 a0:=Tryz.isAgg0
 z0:=Tryz.sizeOf0
 v0:=Tryz.zeroValue0
 t3:=Tryz.underlying3
 a3:=Tryz.isAgg3
 z3:=Tryz.sizeOf3
 v3:=Tryz.zeroValue3
 t4:=Tryz.underlying4
 a4:=Tryz.isAgg4
 z4:=Tryz.sizeOf4
 v4:=Tryz.zeroValue4
 t28:=Tryz.underlying26
 a28:=Tryz.isAgg26
 z28:=Tryz.sizeOf26
 v28:=Tryz.zeroValue26}
open Go.Lib in
theorem Tryz.slices_Contains_int (b off n c:Nat) (zs:List Int) (x:Int) (w:J') (hz:n<=zs.length) (CW:n<=9223372036854775807) (hc:∀j,j<zs.length->w.cell? ⟨b,off+j,none⟩=some (.int .i64 (zs.getD j 0))):
 d_ p_ 127 #[.slice (some ⟨b,off,none⟩) n c,.int .i64 x] w fun e w'=>e=.returned (.bool ((zs.take n).contains x))/\w'=w:=Any.slices_Contains_int Tryz.FN b off n c zs x w hz CW hc
open Go.Lib in
theorem Tryz.slices_Contains_int_empty (a:Option Addr) (c:Nat) (x:Int) (w:J'):
 d_ p_ 127 #[.slice a 0 c,.int .i64 x] w fun e w'=>e=.returned (.bool false)/\w'=w:=Any.slices_Contains_int_empty Tryz.FN a c x w
def Tryz.yA:Go.Shelf.Ren:=⟨fun|23=>133|n=>n,fun|22=>26|3=>3|4=>4|0=>0|n=>n,fun|n=>n⟩
theorem Tryz.Hq:Go.Proofs.Lays2.n23 p_ Tryz.yA:={
 mixed:=by kernel_rfl
 f23:=func133.trans (congrArg some (by kernel_rfl))
 t0:=Tryz.underlying0
 a0:=Tryz.isAgg0
 z0:=Tryz.sizeOf0
 v0:=Tryz.zeroValue0
 t3:=Tryz.underlying3
 a3:=Tryz.isAgg3
 z3:=Tryz.sizeOf3
 v3:=Tryz.zeroValue3
 t4:=Tryz.underlying4
 a4:=Tryz.isAgg4
 z4:=Tryz.sizeOf4
 v4:=Tryz.zeroValue4
 t22:=Tryz.underlying26
 a22:=Tryz.isAgg26
 z22:=Tryz.sizeOf26
 v22:=Tryz.zeroValue26
 i3:=by kernel_rfl}
open Go.RowKit Go.Lib Go.Sort in
open Go.RowKit Go.Lib Go.Sort in
theorem Tryz.slices_Delete_int_cells (b off n c i j:Nat) (zs:List Int) (w:J') (hz:n<=zs.length) (lJ:n<=c) (hm:c<=9223372036854775807) (vG:i<=j) (hj:j<=n) (hc:∀j,j<zs.length->w.cell? ⟨b,off+j,none⟩=some (.int .i64 (zs.getD j 0))) (hf:∀j,j<n->w.frozen? ⟨b,off+j,none⟩=false):
 d_ p_ 133 #[.slice (some ⟨b,off,none⟩) n c,.int .i64 i,.int .i64 j] w fun e w'=>e=.returned (.slice (some ⟨b,off,none⟩) (n - (j - i)) c)/\∃q,w'=(w.drewN q).setCells b off (((zs.take n).take i++(zs.take n).drop j++List.replicate (j - i) 0).map (Value.int .i64)):=Any.slices_Delete_int_cells Tryz.Hq b off n c i j zs w hz lJ hm vG hj hc hf
end
end Go.Proofs
namespace Go.aC.Of
section
open Go Go.Conc Go.Conc.Lib Go.ConcR Go.ConcR.Gen Go.aC Go.Proofs
open Go.RowKit hiding Hid
open Go.ConcN (upd upd_ne upd_same)
theorem cW (b:Nat):∀(vs:List M') (o:Nat) (w:J') (i:Nat),i≠b->(w.setCells b o vs).heap[i]?=w.heap[i]?
 |[],_,_,_,_=>rfl
 |v::r,o,w,i,h=>by
  rw [World.setCells,cW b r (o+1) _ i h]
  exact a_ w ⟨b,o,none⟩ i v h
theorem fv (b:Nat) {t:Q'}:∀(vs:List M') (o:Nat) (w:J') (cur:Array M'),w.heap[b]?=some (.cells cur t (0,0))->o+vs.length<=cur.size->∃yR,(w.setCells b o vs).heap[b]?=some (.cells yR t (0,0))/\yR.size=cur.size/\yR.toList=cur.toList.take o++vs++cur.toList.drop (o+vs.length)
 |[],o,w,cur,h,_=>⟨cur,h,rfl,by simp⟩
 |v::r,o,w,cur,h,hl=>by
  simp only [List.length_cons] at hl
  obtain ⟨yR,h1,h2,h3⟩:=fv b r (o+1) (w.setCell ⟨b,o,none⟩ v) (cur.setIfInBounds o v) (heap_setCell_same w b o cur t v h) (by simp;omega)
  refine ⟨yR,h1,by simpa using h2, ?_⟩
  rw [h3,Array.toList_setIfInBounds]
  have ho:o<cur.toList.length:=by simp;omega
  rw [List.take_set,List.drop_set_of_lt (by omega),List.take_succ_eq_append_getElem ho,List.set_append_right _ _ (by simp;omega)]
  simp only [Q_,Nat.min_eq_left (Nat.le_of_lt ho),Nat.sub_self,List.set_cons_zero,List.length_cons,List.append_assoc,List.cons_append,List.nil_append]
  rw [show o+1+r.length=o+(r.length+1) by omega]
theorem fq (b:Nat):∀(vs:List M') (o:Nat) (w:J'),(w.setCells b o vs).heap.size=w.heap.size
 |[],_,_=>rfl
 |v::r,o,w=>by rw [World.setCells,fq b r];simp
theorem bL (b:Nat):∀(vs:List M') (o:Nat) (w:J'),(w.setCells b o vs).os=w.os/\(w.setCells b o vs).tape=w.tape/\(w.setCells b o vs).output=w.output
 |[],_,_=>⟨rfl,rfl,rfl⟩
 |v::r,o,w=>by rw [World.setCells];exact bL b r (o+1) _
variable {w:J'} {B n' g:Nat} {xs:List M'}
theorem wR {e s n cap:Nat} {ys:List M'} {vs:List M'} (h:w.ownsRow B e s (.slice (some ⟨g,0,none⟩) n cap) n xs) (hn:n'<=n) (hv:vs.length=n * s) (hy:vs.take (n' * s)=ys):
 (w.setCells g 0 vs).ownsRow B e s (.slice (some ⟨g,0,none⟩) n' cap) n' ys/\w.grownBy (w.setCells g 0 vs) (some g):=by
 refine ⟨?_,(bL g vs 0 w).1,(bL g vs 0 w).2.1,(bL g vs 0 w).2.2,Nat.le_of_eq (fq g vs 0 w).symm,fun k _ hk=>cW g vs 0 w k (fun e=>hk (by rw [e]))⟩
 have hle:n' * s<=n * s:=Nat.mul_le_mul_right _ hn
 refine ⟨by rw [<-hy,Q_];omega, ?_⟩
 rcases h.2 with ⟨h',_⟩|⟨g',cap',cur,h',hb,hg,hc,hm,hs,ht⟩
 ·simp at h'
 ·simp only [Value.slice.injEq,n_,Addr.mk.injEq,and_true,true_and] at h'
  obtain ⟨rfl,rfl⟩:=h'
  have hcs:n * s<=cap * s:=Nat.mul_le_mul_right _ hc
  obtain ⟨yR,h1,h2,h3⟩:=fv g vs 0 w cur hg (by omega)
  refine .inr ⟨g,cap,yR,rfl,hb,h1,by omega,hm,by omega, ?_⟩
  rw [h3,List.take_zero,List.nil_append,List.take_append_of_le_length (by omega),hy]
section
variable {n cap:Nat}
variable {i:Nat}
theorem Gt {zs:List Int} (h:w.ownsRow B 3 1 (.slice (some ⟨g,0,none⟩) zs.length cap) zs.length (zs.map (Value.int .i64))) (hi:i<zs.length):
 d_ p_ 133 #[.slice (some ⟨g,0,none⟩) zs.length cap,.int .i64 (i:Nat),.int .i64 ((i+1:Nat):Int)] w fun e w'=>e=.returned (.slice (some ⟨g,0,none⟩) (zs.length - 1) cap)/\w'.ownsRow B 3 1 (.slice (some ⟨g,0,none⟩) (zs.eraseIdx i).length cap) (zs.eraseIdx i).length ((zs.eraseIdx i).map (Value.int .i64))/\w.grownBy w' (some g):=by
 obtain ⟨g',cap',cur,h',hb,hg,hc,hm,hs,ht⟩:=cz h (by omega)
 simp only [Value.slice.injEq,n_,Addr.mk.injEq,and_true,true_and] at h'
 obtain ⟨rfl,rfl⟩:=h'
 refine (Tryz.slices_Delete_int_cells g 0 zs.length cap i (i+1) zs w (C_ _) hc (by unfold maxLen at hm;omega) (by omega) hi ?_ ?_).mono ?_
 ·intro j hj
  rw [Nat.zero_add,h.cellAt j (by omega)]
  simp [List.getElem?_map,G_ hj,List.getD_eq_getElem?_getD]
 ·intro j _
  rw [Nat.zero_add];exact h.frozenAt j
 ·rintro e w' ⟨rfl,q,rfl⟩
  refine ⟨by rw [show i+1 - i=1 by omega], ?_⟩
  have hl:(zs.eraseIdx i).length=zs.length - 1:=by rw [List.length_eraseIdx];simp [hi]
  have hh:(w.drewN q).ownsRow B 3 1 (.slice (some ⟨g,0,none⟩) zs.length cap) zs.length (zs.map (Value.int .i64)):=h
  have:=wR (n':=zs.length - 1) hh (by omega) (vs:=((zs.take zs.length).take i++(zs.take zs.length).drop (i+1)++List.replicate (i+1 - i) 0).map (Value.int .i64)) (by simp;omega) (ys:=(zs.eraseIdx i).map (Value.int .i64)) (by
   rw [<-List.map_take]
   congr 1
   rw [List.take_length,List.eraseIdx_eq_take_drop_succ,List.take_append_of_le_length (by simp;omega)]
   exact List.take_of_length_le (by simp;omega))
  rw [hl]
  exact ⟨this.1,this.2.os,this.2.tape,this.2.output,this.2.size,this.2.block⟩
end
theorem bV:∀ws:List (Int × Int),(ax ws).length=ws.length * 2
 |[]=>rfl
 |a::l=>by
  show ([Value.int .i64 a.1,Value.int .i64 a.2]++ax l).length=(l.length+1) * 2
  rw [K_,bV l];simp;omega
theorem oc (b:Nat) (ys:List M'):∀(xs:List M') (o:Nat) (w:J'),w.setCells b o (xs++ys)=(w.setCells b o xs).setCells b (o+xs.length) ys
 |[],o,w=>rfl
 |x::r,o,w=>by
  rw [List.cons_append,World.setCells,World.setCells,oc b ys r (o+1) _,List.length_cons,show o+1+r.length=o+(r.length+1) by omega]
theorem Pj (z:M') (n:Nat):(Builtin.zeroCells #[z,z] n).toList=List.replicate (n * 2) z:=by
 simp [Builtin.zeroCells]
 apply List.ext_getElem
 ·simp<;>omega
 ·intro i h1 h2
  simp
  rcases Nat.mod_two_eq_zero_or_one i with h|h<;>simp [h]
variable {P:Program}
theorem wN (w:J') (t e ty:Q') (z:M') (ht:P.underlying t=some (.slice e)) (hv:∀w,∃zz,(zeroValue e).run P w=.ok zz w/\zz.cells=#[z,z]) (h1:z.oneCell'=true) (b o n c:Nat) (hn:0<n)
 (hc:∀j,j<n * 2->(w.cell? ⟨b,o+j,none⟩).isSome=true) (hf:∀j,j<n * 2->w.frozen? ⟨b,o+j,none⟩=false):
 (Builtin.clear_ #[t] ty #[.slice (some ⟨b,o,none⟩) n c]).run P w=.ok (.tuple #[]) (w.setCells b o (List.replicate (n * 2) z)):=by
 obtain ⟨zz,tX,hz⟩:=hv w
 have hzc:(Builtin.zeroCells zz.cells n).toList=List.replicate (n * 2) z:=by rw [hz];exact Pj z n
 have hst:=run_storeCells_cells (P:=P) b o (List.replicate (n * 2) z) 0 w (by simpa using hc) (by simpa using hf) (by intro v hv';rw [List.eq_of_mem_replicate hv'];exact h1)
 simp only [Nat.add_zero] at hst
 obtain ⟨m,rfl⟩:∃m,n=m+1:=⟨n - 1,by omega⟩
 simp [Builtin.clear_,run_underlying ht,tX,hzc,hst]
theorem IG (w:J'):∃zz,(zeroValue 84).run p_ w=.ok zz w/\zz.cells=#[.int .i64 0,.int .i64 0]:=⟨_,Tryz.zeroValue84 (w:=w),rfl⟩
theorem xn:(Tryz.prog.info? 84).map (fun i=>(i.zero,i.size,i.bytes))=some (some (.agg #[.int .i64 0,.int .i64 0]),2,16):=by kernel_rfl
section
variable {cap:Nat}
variable {ws:List (Int × Int)}
theorem NN {p:Int × Int} (h:w.ownsRow B 84 2 (.slice (some ⟨g,0,none⟩) (ws.length+1) cap) (ws.length+1) (ax (p::ws))):
 d_ p_ 138 #[.slice (some ⟨g,0,none⟩) (ws.length+1:Nat) cap,.int .i64 0,.int .i64 1] w fun e w'=>e=.returned (.slice (some ⟨g,0,none⟩) ws.length cap)/\w'.ownsRow B 84 2 (.slice (some ⟨g,0,none⟩) ws.length cap) ws.length (ax ws)/\w.grownBy w' (some g):=by
 obtain ⟨g',cap',cur,h',hb,hg,hc,hm,hs,ht⟩:=cz h (by omega)
 simp only [Value.slice.injEq,n_,Addr.mk.injEq,and_true,true_and] at h'
 obtain ⟨rfl,rfl⟩:=h'
 obtain ⟨news,iU⟩:∃news,news=ax ws:=⟨_,rfl⟩
 have hlen:news.length=ws.length * 2:=by rw [iU];exact bV ws
 have hcell:∀j,j<(ws.length+1) * 2->w.cell? ⟨g,j,none⟩=(ax (p::ws))[j]?:=fun j hj=>h.cellAt j hj
 have kj:∀j,w.frozen? ⟨g,j,none⟩=false:=fun j=>h.frozenAt j
 obtain ⟨A,hA,QB⟩:∃A:Addr,(if cap=1 then (some ⟨g,0,none⟩:Option Addr) else some ⟨g,2,none⟩)=some A/\f_ (∀t u,news[t]?=some u->w.drew.cell? (A.add t)=some u):=by
  by_cases h1:cap=1
  ·refine ⟨⟨g,0,none⟩,by simp [h1],fun t u hu=> ?_⟩
   have h0:news.length=0:=by rw [hlen];omega
   rw [List.length_eq_zero_iff.1 h0] at hu
   simp at hu
  ·refine ⟨⟨g,2,none⟩,by simp [h1],fun t u hu=> ?_⟩
   have h2:t<news.length:=(List.getElem?_eq_some_iff.1 hu).1
   rw [Addr.add_lit]
   show w.cell? _=_
   rw [hcell (2+t) (by omega),<-hu,iU]
   simp [ax,Nat.add_comm 2 t]
 have iw:news.all (fun u=>u.oneCell')=true:=by rw [iU,List.all_eq_true];intro u hu;simp [ax] at hu;obtain ⟨a,b,_,rfl|rfl⟩:=hu<;>rfl
 have s2:f_ (∀u∈news,u.oneCell'=true):=fun u hu=>List.all_eq_true.1 iw u hu
 have s3:f_ (∀t,t<news.length->(w.drew.cell? ⟨g,0+0 * 2+t,none⟩).isSome=true/\w.drew.frozen? ⟨g,0+0 * 2+t,none⟩=false):=by
  intro t Wn
  rw [Nat.zero_mul,Nat.zero_add]
  refine ⟨?_,kj t⟩
  show (w.cell? _).isSome=true
  rw [hcell t (by omega),G_ (by rw [bV];simp;omega)];rfl
 have s1:f_ (news.length=ws.length * 2):=hlen
 obtain ⟨W1,wq⟩:∃W1,W1=w.drew.setCells g (0+0 * 2) news:=⟨_,rfl⟩
 have k1:∀x,W1.cell? x=(w.drew.setCells g 0 news).cell? x:=fun x=>by rw [wq]
 have rq:∀ty,(Builtin.clear_ #[74] ty #[.slice (some ⟨g,ws.length * 2,none⟩) 1 (cap - ws.length)]).run p_ W1=.ok (.tuple #[]) (W1.setCells g (ws.length * 2) (List.replicate (1 * 2) (.int .i64 0))):=
  fun ty=>wN W1 _ _ ty _ Tryz.underlying74 IG rfl g (ws.length * 2) 1 _ (by omega) (fun t Wn=>by
   rw [k1,World.cell?_setCells_out g news 0 _ _ (fun _ _=>.inr (by rw [hlen];simp)),show w.drew.cell? _=w.cell? ⟨g,ws.length * 2+t,none⟩ from rfl,hcell _ (by omega),G_ (by rw [bV];simp;omega)];rfl) (fun t Wn=>by rw [wq,World.frozen?_setCells];exact kj _)
 have hW:f_ (W1=w.drew.setCells g (0+0 * 2) news):=wq
 have H:=aa h
 replace hlen:=aa hlen
 replace iU:=aa iU
 have lJ:(1:Int)<=(cap:Int):=by omega
 have CP:(1:Int)<=(ws.length:Int)+1:=by omega
 have L9:(ws.length:Int)+1<=(cap:Int):=by omega
 have QO:(ws.length:Int)<=(ws.length:Int)+1:=by omega
 have hn4:ws.length<=cap:=by omega
 have hn5:(0:Int)<=(ws.length:Int):=by omega
 obtain ⟨i0,qJ,tX,rm,uF⟩:=info_parts xn
 clear wq hcell kj iw k1 h hg hs ht s1
 have s1:=hlen
 go_enter func138,ntmps138
 go_wp2_with fail
 go_region_law (refine step_append_room rfl (.tmp 22) (.tmp 25) 74 rfl 84 i0 2 Tryz.underlying74 qJ rm g 0 0 cap (by simp [Act.eval,Act.put]) A ws.length (cap - 1) news (by simp [Act.eval,Act.put,hA]) s1.out QB.out s2.out (by omega) s3.out ?_;rw [<-hW.out])
 go_wp2
 go_ret
 refine ⟨rfl, ?_⟩
 have hh:w.drew.ownsRow B 84 2 (.slice (some ⟨g,0,none⟩) (ws.length+1) cap) (ws.length+1) (ax (p::ws)):=H.out
 have he:W1.setCells g (ws.length * 2) [Value.int .i64 0,Value.int .i64 0]=w.drew.setCells g 0 (news++[Value.int .i64 0,Value.int .i64 0]):=by
  rw [oc,hlen.out,hW.out]
  simp
 rw [he]
 have:=wR (n':=ws.length) hh (by omega) (vs:=news++[Value.int .i64 0,Value.int .i64 0]) (by rw [K_,hlen.out];simp;omega) (ys:=ax ws) (by
  rw [List.take_append_of_le_length (by rw [hlen.out];exact C_ _),iU.out]
  exact List.take_of_length_le (by rw [bV];exact C_ _))
 exact ⟨this.1,this.2.os,this.2.tape,this.2.output,this.2.size,this.2.block⟩
end
section
variable {A:Ha} {S:Hs} {vw vb vr va vt:M'} {w':J'}
theorem aQ.kept (h:aQ A S vw vb vr va vt w) {row:Option Nat} (hg:w.grownBy w' row) (hr:∀g,row=some g->A.B<=g)
 (h1:vw.ownBlock=none\/vw.ownBlock≠row) (h2:vb.ownBlock=none\/vb.ownBlock≠row) (h3:vr.ownBlock=none\/vr.ownBlock≠row) (h4:va.ownBlock=none\/va.ownBlock≠row) (h5:vt.ownBlock=none\/vt.ownBlock≠row):aQ A S vw vb vr va vt w':=by
 have low:∀i,i<A.B->w'.heap[i]?=w.heap[i]?:=fun i hi=>hg.block i (E_ hi h.big) (fun e=>by have:=hr i e.symm;omega)
 exact ⟨h.ok,D_ h.big hg.size,by rw [low _ h.ok.hb];exact h.box,fun i hi=>(J_ (low _ h.ok.lb)).trans (h.lines i hi),h.on.block (low _ h.ok.m1),h.of.block (low _ h.ok.m2),h.rc.block (low _ h.ok.m3),h.wait.kept hg h1,h.back.kept hg h2,h.recs.kept hg h3,h.log.kept hg h4,h.cg.kept hg h5,h.apart⟩
theorem oT (v:M'):v.ownBlock=none\/v.ownBlock≠none:=Classical.em _
theorem aQ.more (h:aQ A S vw vb vr va vt w) (hg:w.grownBy w' none):aQ A S vw vb vr va vt w':=h.kept hg (fun _ e=>by cases e) (oT _) (oT _) (oT _) (oT _) (oT _)
theorem Fr.kept (hB:A.B<=w.heap.size) {row:Option Nat} (hg:w.grownBy w' row) (hr:∀g,row=some g->A.B<=g):Fr A w w':=⟨hg.os,hg.tape,hg.output,hg.size,fun i hi _ _ _ _=>hg.block i (E_ hi hB) (fun e=>by have:=hr i e.symm;omega)⟩
theorem Bc (w:J') (k:Nat) (os:Array Obj):w.grownBy (Sort.grow (w.drewN k) os) none:=by
 refine ⟨rfl,rfl,rfl,by simp [Sort.grow,World.drewN],fun i hi _=> ?_⟩
 show (w.heap++os)[i]?=w.heap[i]?
 rw [Array.getElem?_append_left hi]
theorem sI (w:J') (row:Option Nat):w.grownBy w row:=⟨rfl,rfl,rfl,C_ _,fun _ _ _=>rfl⟩
theorem aQ.I8 (h:aQ A S vw vb vr va vt w) (n:Int):aQ A {S with clock:=n} vw vb vr va vt (w.setCell ⟨A.hb,11,none⟩ (.int .i64 n))/\Fr A w (w.setCell ⟨A.hb,11,none⟩ (.int .i64 n)):=
 h.grown (sI w none) (fun _ e=>by cases e) (k:=11) (v:=.int .i64 n) (S':={S with clock:=n}) rfl rfl rfl rfl rfl h.wait h.back h.recs h.log h.cg h.apart
variable {ws:List (Int × Int)}
theorem aQ.My (h:aQ A S vw vb vr va vt w) {v:M'} (ho:w.ownsRow A.B 84 2 v ws.length (ax ws)):aQ A {S with wait:=ws} v vb vr va vt (w.setCell ⟨A.hb,7,none⟩ v)/\Fr A w (w.setCell ⟨A.hb,7,none⟩ v):=
 h.grown (sI w none) (fun _ e=>by cases e) (k:=7) (v:=v) (S':={S with wait:=ws}) rfl rfl rfl rfl rfl ho h.back h.recs h.log h.cg h.apart
theorem aQ.Cg (h:aQ A S vw vb vr va vt w) {v:M'} {c:Int} (hg:w.grownBy w' vb.ownBlock) (ho:w'.ownsRow A.B 3 1 v (S.back.length+1) (S.back.map (Value.int .i64)++[.int .i64 c])) (hv:v.ownBlock=vb.ownBlock\/v.ownBlock=some w.heap.size):
 aQ A {S with back:=S.back++[c]} vw v vr va vt (w'.setCell ⟨A.hb,8,none⟩ v)/\Fr A w (w'.setCell ⟨A.hb,8,none⟩ v):=by
 have Gp:v.ownBlock=none\/v.ownBlock≠vt.ownBlock:=by
  rcases hv with e|e
  ·rw [e];exact h.apart
  ·refine .inr fun e1=> ?_
   have:=(h.cg.lt _ (e1.symm.trans e)).2
   omega
 have J8:vt.ownBlock=none\/vt.ownBlock≠vb.ownBlock:=by
  rcases h.apart with e|e
  ·rw [e];exact oT _
  ·exact .inr (Ne.symm e)
 exact h.grown hg (fun g e=>pU h.back g e) (k:=8) (v:=v) (S':={S with back:=S.back++[c]}) rfl rfl rfl rfl rfl (bU h.wait h.back (by decide) hg) (by rw [K_,List.map_append];exact ho) (bU h.recs h.back (by decide) hg) (bU h.log h.back (by decide) hg) (h.cg.kept hg J8) Gp
end
def Ik (A:Ha) (w:J'):Prop:=∀w',Fr A w w'->Lib.TabIs p_ w' "internal/strconv.uint64pow10" .u64 Lib.pow10Tab
variable {A:Ha} {w':J'}
theorem Ik.fr (h:Ik A w) (f:Fr A w w'):Ik A w':=fun x hx=>h x (f.trans hx)
theorem si (h:Ik A w) (n:Int) (h0: -1000000000<=n) (h1:n<=1000000000):
 d_ p_ 131 #[.int .i64 n] w fun e w'=>e=.returned (.string ⟨(Lib.itoa n).toArray⟩)/\w.grownBy w' none:=
 (Tryz.strconv_Itoa n (by omega) (by omega) w (h w (Fr.refl A w))).mono fun _ _ ⟨he,k,os,hw⟩=>⟨he,hw▸Bc w k os⟩
def eT:Bs:=[116,105,114,101,100]
structure Wq where
 S:Hs
 keep:List (Int × Int)
 text:Bs
def bP (P:Int) (q:Wq) (p:Int × Int):Wq:=
 match q.S.of p.1,q.S.rc p.1 with
 |some x,some i=>match q.S.recs[i]? with
  |some r=>if q.S.clock - r.jy<P then {q with keep:=q.keep++[p]} else ⟨{uk q.S p.1 x i r eT with back:=q.S.back++[p.1]},q.keep,q.text++(32::Lib.itoa p.1)⟩
  |none=>q
 |_,_=>q
structure uT (S:Hs) (k:Nat) (q:Wq):Prop where
 rc:q.S.rc=S.rc
 len:q.S.recs.length=S.recs.length
 jy:∀i (h:i<S.recs.length) (h':i<q.S.recs.length),(q.S.recs[i]).jy=(S.recs[i]).jy
 wait:q.S.wait=S.wait
 lines:q.S.lines=S.lines
 of:∀j (hj:j<S.wait.length),k<=j->q.S.of (S.wait[j]).1=S.of (S.wait[j]).1
 clock:q.S.clock=S.clock
 keep:q.keep.length<=k
 back:q.S.back.length<=S.back.length+k
theorem uT.zero (S:Hs) (t:Bs):uT S 0 ⟨S,[],t⟩:=⟨rfl,rfl,fun _ _ _=>rfl,rfl,rfl,fun _ _ _=>rfl,rfl,C_ _,C_ _⟩
variable {k:Nat}
theorem uT.step {S:Hs} {q:Wq} (h:uT S k q) (P:Int) (hk:k<S.wait.length) (hd:(S.wait.map (·.1)).Nodup):uT S (k+1) (bP P q S.wait[k]):=by
 have uH:uT S (k+1) q:=⟨h.rc,h.len,h.jy,h.wait,h.lines,fun j hj hk=>h.of j hj (by omega),h.clock,Nat.le_succ_of_le h.keep,Nat.le_succ_of_le h.back⟩
 unfold bP
 split
 ·rename_i x i _ _
  split
  ·rename_i r hr
   split
   ·exact ⟨h.rc,h.len,h.jy,h.wait,h.lines,fun j hj hk=>h.of j hj (by omega),h.clock,by simpa using h.keep,Nat.le_succ_of_le h.back⟩
   ·have hi:i<q.S.recs.length:=(List.getElem?_eq_some_iff.1 hr).1
    refine ⟨h.rc,by simpa [uk] using h.len,fun j hj EL=> ?_,h.wait,h.lines,fun j hj hkj=> ?_,h.clock,Nat.le_succ_of_le h.keep,by have:=h.back;simp [uk];omega⟩
    ·simp only [uk]
     by_cases e:i=j
     ·subst e
      rw [List.getElem_set_self]
      have:=h.jy i hj (by rw [h.len];exact hj)
      rw [<-(List.getElem?_eq_some_iff.1 hr).2];exact this
     ·rw [List.getElem_set_ne e];exact h.jy j hj _
    ·simp only [uk]
     have hne:(S.wait[j]).1≠(S.wait[k]).1:=fun e=>by
      have h1:=List.pairwise_iff_getElem.1 hd k j (by simpa using hk) (by simpa using hj) (by omega)
      simp at h1
      exact h1 e.symm
     rw [if_neg hne]
     exact h.of j hj (by omega)
  ·exact uH
 ·exact uH
end
end Go.aC.Of
