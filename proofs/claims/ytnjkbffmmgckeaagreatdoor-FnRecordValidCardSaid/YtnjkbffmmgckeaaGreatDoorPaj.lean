/-
  The office, plainly: small changes keep hall and room together.
-/
import Derived.Below
import Derived.StillTailTactics
import Derived.Test.YtnjkbffmmgckeaaGreatDoorPaa
import Derived.Test.YtnjkbffmmgckeaaGreatDoorPad
import Derived.Test.YtnjkbffmmgckeaaGreatDoorPae
import Derived.Test.YtnjkbffmmgckeaaGreatDoorPai
set_option linter.all false
set_option maxRecDepth 100000
set_option maxHeartbeats 32000000
open Go renaming World->J',Value->M',heap_alloc_new->Z',heap_setCell_other->a_,Calls->d_
open Go.RowKit renaming Hid->f_,Below->g_
open Go.RowKit.Below renaming refl->h_
open Go.World renaming size_alloc->B_,cell?_of_block->J_,size_setCell->o_
open Nat renaming le_refl->C_,le_trans->D_,lt_of_lt_of_le->E_,zero_le->nz
open List renaming getElem?_eq_getElem->G_,length_append->K_,length_take->Q_,map_cons->S_,take_succ_eq_append_getElem->sC
open Go.Lib renaming itoa->L_
open Option.some renaming inj->M_
open Go.Proofs.Tryz renaming prog->p_
open Go.Value renaming int->ah,slice->mN
open Go.Proofs.Tryz
namespace Go.aC.Of
section
open Go
variable {rs:List Rec} {i:Nat}
theorem iA.one {r s:Rec} (h:iA rs i r) (k:iA rs i s):r=s:=M_ (h.1.symm.trans k.1)
variable {nl no n:Nat} {S:Hs} {us yW:List Od} {m:Rm} {w' b':List (Int × Int)}
theorem Rel.close (R:Rel nl no n S us m) {r:Rec} (h:iA m.recs i r) {q:Bs} (hq:q≠eR) {x:Nat} (hx:S.lines[(r.line - 1).toNat]?=some x)
 (hu:yW.length=us.length) (hk:∀(k:Nat) (u:Od),yW[k]?=some u->(r.op=((k+1:Nat):Int)/\u.k=0)\/(r.op≠((k+1:Nat):Int)/\us[k]?=some u))
 (w0:(w'.map (·.1)).Nodup) (w1:∀p,p∈w'->p∈m.wait/\p.1≠r.call) (w2:∀p,p∈m.wait->p.1≠r.call->p∈w')
 (b0:(b'.map (·.1)).Nodup) (b1:∀p,p∈b'->p∈m.back\/p.1=r.call) (nn:w'.length+b'.length<=n):
 Rel nl no n {uk S r.call x i r q with wait:=w',back:=b'.map (·.1)} yW {m with recs:=m.recs.set i {r with wI:=m.clock,fin:=q},wait:=w',back:=b'}:=by
 have ho:∀{j:Nat} {s:Rec},iA (m.recs.set i {r with wI:=m.clock,fin:=q}) j s↔j≠i/\iA m.recs j s:=by
  intro j s
  rw [iA.set h.1]
  constructor
  ·rintro (⟨_,rfl,h3⟩|h)
   ·exact absurd h3 hq
   ·exact h
  ·exact .inr
 have Nr:∀{j:Nat} {s:Rec},(m.recs.set i {r with wI:=m.clock,fin:=q})[j]?=some s->(s={r with wI:=m.clock,fin:=q})\/m.recs[j]?=some s:=by
  intro j s hs
  rw [List.getElem?_set] at hs
  split at hs
  ·split at hs
   ·exact .inl (M_ hs).symm
   ·cases hs
  ·exact .inr hs
 have QV:=R.good.G8 i r h.1
 refine ⟨⟨?_, ?_, ?_, ?_⟩, ?_,R.clock,rfl,rfl,R.log,R.cg,R.ll,R.nd,hu.trans R.ul, ?_, ?_, ?_, ?_, ?_, ?_,w0, ?_, ?_,b0, ?_, ?_, ?_,R.cl, ?_,nn,R.n4⟩
 ·intro a b s t hs ht;exact R.good.qM a b s t (ho.1 hs).2 (ho.1 ht).2
 ·intro a b s t hs ht;exact R.good.FK a b s t (ho.1 hs).2 (ho.1 ht).2
 ·intro a b s t hs ht;exact R.good.TG a b s t (ho.1 hs).2 (ho.1 ht).2
 ·intro a s hs
  rcases Nr hs with rfl|hs
  ·exact QV
  ·exact R.good.G8 a s hs
 ·show S.recs.set i {r with wI:=S.clock,fin:=q}=_
  rw [R.recs,R.clock]
 ·intro c y hy
  have pg:(if c=r.call then none else S.of c)=some y:=hy
  split at pg
  ·cases pg
  ·rename_i hne
   obtain ⟨j,s,h1,h2,h3,h4⟩:=R.JE c y pg
   refine ⟨j,s,ho.2 ⟨fun e=> ?_,h1⟩,h2,h3,h4⟩
   subst e
   exact hne (by rw [<-h2,iA.one h h1])
 ·intro j s hs
  obtain ⟨y,hy⟩:=R.MQ j s (ho.1 hs).2
  refine ⟨y, ?_⟩
  show (if s.call=r.call then none else S.of s.call)=some y
  rw [if_neg fun e=>(ho.1 hs).1 (R.good.qM j i s r (ho.1 hs).2 h e)]
  exact hy
 ·intro y c hy
  have pg:(if y=x then none else S.on y)=some c:=hy
  split at pg
  ·cases pg
  ·rename_i hne
   obtain ⟨j,s,h1,h2,h3⟩:=R.Oq y c pg
   refine ⟨j,s,ho.2 ⟨fun e=> ?_,h1⟩,h2,h3⟩
   subst e
   obtain rfl:=iA.one h h1
   rw [hx] at h3
   exact hne (M_ h3).symm
 ·intro j s y hs hy
  have pg:S.lines[(s.line - 1).toNat]?=some y:=hy
  show (if y=x then none else S.on y)=some s.call
  have hne:y≠x:=fun e=>by
   subst e
   have h1:=R.good.G8 j s (ho.1 hs).2.1
   have e2:=(List.getElem?_inj (List.getElem?_eq_some_iff.1 hx).1 R.nd).1 (hx.trans pg.symm)
   exact (ho.1 hs).1 (R.good.FK j i s r (ho.1 hs).2 h (by omega))
  rw [if_neg hne]
  exact R.MN j s y (ho.1 hs).2 pg
 ·intro k u j s HE hs hop
  rcases hk k u HE with ⟨h1,_⟩|⟨_,h2⟩
  ·exact absurd (R.good.TG j i s r (ho.1 hs).2 h (by rw [hop,h1]) (by rw [hop];omega)) (ho.1 hs).1
  ·exact R.LY k u j s h2 (ho.1 hs).2 hop
 ·intro k u HE h0
  rcases hk k u HE with ⟨_,h1⟩|⟨h1,h2⟩
  ·exact absurd h1 h0
  ·obtain ⟨j,s,h3,h4⟩:=R.MV k u h2 h0
   refine ⟨j,s,ho.2 ⟨fun e=> ?_,h3⟩,h4⟩
   subst e
   obtain rfl:=iA.one h h3
   exact h1 h4
 ·intro p hp
  obtain ⟨h1,h2⟩:=w1 p hp
  obtain ⟨j,s,h3,h4,h5⟩:=R.w1 p h1
  refine ⟨j,s,ho.2 ⟨fun e=> ?_,h3⟩,h4,h5⟩
  subst e
  exact h2 (by rw [<-h4,iA.one h h3])
 ·intro j s hs h0
  obtain ⟨p,hp,e⟩:=List.mem_map.1 (R.w2 j s (ho.1 hs).2 h0)
  exact List.mem_map.2 ⟨p,w2 p hp (fun e2=>(ho.1 hs).1 (R.good.qM j i s r (ho.1 hs).2 h (e.symm.trans e2))),e⟩
 ·intro p hp j s hs
  rcases b1 p hp with h1|h1
  ·exact R.b1 p h1 j s (ho.1 hs).2
  ·exact fun e=>(ho.1 hs).1 (R.good.qM j i s r (ho.1 hs).2 h (e.trans h1))
 ·intro p hp
  rcases b1 p hp with h1|h1
  ·exact R.b2 p h1
  ·rw [h1];exact QV.2.2
 ·intro j s hs
  rcases Nr hs with rfl|hs
  ·exact R.jy i r h.1
  ·exact R.jy j s hs
 ·show (m.recs.set i _).length<=n
  rw [List.length_set];exact R.n1
variable {l:Nat} {hd:Int}
theorem Rel.add (R:Rel nl no n S us m) {c:Int} (hl:l<S.lines.length) (hf:S.on S.lines[l]=none) (hc:∀i r,iA m.recs i r->r.call≠c) (c0:1<=c) (c1:c<=99)
 {o:Int} (hop:o=0\/((1<=o/\o<=(no:Int))/\∀i r,iA m.recs i r->r.op≠o))
 (hu:yW.length=us.length) (hk:∀(k:Nat) (u:Od),yW[k]?=some u->(o=((k+1:Nat):Int)/\u.k=c)\/(o≠((k+1:Nat):Int)/\us[k]?=some u))
 (w0:(w'.map (·.1)).Nodup) (w1:∀p,p∈w'->p∈m.wait\/(p.1=c/\o=0)) (w2:∀p,p∈m.wait->p∈w') (w3:o=0->c∈w'.map (·.1))
 (b0:(b'.map (·.1)).Nodup) (b1:∀p,p∈b'->p∈m.back/\p.1≠c) (nn:w'.length+b'.length<=n+1):
 Rel nl no (n+1) {S with on:=fun y=>if y=S.lines[l] then some c else S.on y,of:=fun y=>if y=c then some S.lines[l] else S.of y,rc:=fun y=>if y=c then some S.recs.length else S.rc y,recs:=S.recs++[⟨c,(l:Int)+1,o,S.clock,hd, -1,eR⟩],wait:=w',back:=b'.map (·.1)} yW
  {m with recs:=m.recs++[⟨c,((l+1:Nat):Int),o,m.clock,hd, -1,eR⟩],wait:=w',back:=b'}:=by
 have ho:∀{j:Nat} {s:Rec},iA (m.recs++[⟨c,((l+1:Nat):Int),o,m.clock,hd, -1,eR⟩]) j s↔iA m.recs j s\/(j=m.recs.length/\s=⟨c,((l+1:Nat):Int),o,m.clock,hd, -1,eR⟩):=by
  intro j s
  rw [iA.app]
  constructor
  ·rintro (h|⟨h1,h2,_⟩)
   ·exact .inl h
   ·exact .inr ⟨h1,h2⟩
  ·rintro (h|⟨h1,h2⟩)
   ·exact .inl h
   ·exact .inr ⟨h1,h2,by rw [h2]⟩
 have Nr:∀{j:Nat} {s:Rec},(m.recs++[⟨c,((l+1:Nat):Int),o,m.clock,hd, -1,eR⟩])[j]?=some s->s=⟨c,((l+1:Nat):Int),o,m.clock,hd, -1,eR⟩\/m.recs[j]?=some s:=by
  intro j s hs
  have:=List.mem_iff_getElem?.2 ⟨j,hs⟩
  rw [List.getElem?_append] at hs
  split at hs
  ·exact .inr hs
  ·left
   obtain ⟨k,hk⟩:∃k,k=j - m.recs.length:=⟨_,rfl⟩
   rw [<-hk] at hs
   cases k with
   |zero=>exact (M_ hs).symm
   |succ k=>cases hs
 have hlt:∀{j:Nat} {s:Rec},iA m.recs j s->j<m.recs.length:=fun h=>(List.getElem?_eq_some_iff.1 h.1).1
 have UB:∀j s,iA m.recs j s->s.line≠((l+1:Nat):Int):=by
  intro j s hs e
  have:=R.MN j s S.lines[l] hs (by rw [e,show ((((l+1:Nat):Int)) - 1).toNat=l by omega];exact G_ _)
  rw [hf] at this;cases this
 have Ma:=R.ll
 refine ⟨⟨?_, ?_, ?_, ?_⟩, ?_,R.clock,rfl,rfl,R.log,R.cg,R.ll,R.nd,hu.trans R.ul, ?_, ?_, ?_, ?_, ?_, ?_,w0, ?_, ?_,b0, ?_, ?_, ?_,R.cl, ?_,nn, ?_⟩
 ·intro a b s t hs ht e
  rcases ho.1 hs with hs|⟨rfl,rfl⟩<;>rcases ho.1 ht with ht|⟨rfl,rfl⟩
  ·exact R.good.qM a b s t hs ht e
  ·exact absurd e (hc a s hs)
  ·exact absurd e.symm (hc b t ht)
  ·rfl
 ·intro a b s t hs ht e
  rcases ho.1 hs with hs|⟨rfl,rfl⟩<;>rcases ho.1 ht with ht|⟨rfl,rfl⟩
  ·exact R.good.FK a b s t hs ht e
  ·exact absurd e (UB a s hs)
  ·exact absurd e.symm (UB b t ht)
  ·rfl
 ·intro a b s t hs ht e e0
  rcases ho.1 hs with hs|⟨rfl,rfl⟩<;>rcases ho.1 ht with ht|⟨rfl,rfl⟩
  ·exact R.good.TG a b s t hs ht e e0
  ·rcases hop with h0|h0
   ·exact absurd (e.trans h0) e0
   ·exact absurd e (h0.2 a s hs)
  ·rcases hop with h0|h0
   ·exact absurd h0 e0
   ·exact absurd e.symm (h0.2 b t ht)
  ·rfl
 ·intro a s hs
  rcases Nr hs with rfl|hs
  ·refine ⟨⟨?_, ?_⟩,⟨?_, ?_⟩,c0,c1⟩
   ·show (1:Int)<=((l+1:Nat):Int);omega
   ·show ((l+1:Nat):Int)<=(nl:Int);omega
   ·show (0:Int)<=o;omega
   ·show o<=(no:Int);omega
  ·exact R.good.G8 a s hs
 ·show S.recs++[(⟨c,(l:Int)+1,o,S.clock,hd, -1,eR⟩:Rec)]=_
  rw [R.recs,R.clock]
  rfl
 ·intro d y hy
  have pg:(if d=c then some S.lines[l] else S.of d)=some y:=hy
  split at pg
  ·rename_i he
   subst he
   refine ⟨m.recs.length,_,ho.2 (.inr ⟨rfl,rfl⟩),rfl, ?_, ?_⟩
   ·show S.lines[(((l+1:Nat):Int) - 1).toNat]?=some y
    rw [<-pg,show ((((l+1:Nat):Int)) - 1).toNat=l by omega]
    exact G_ _
   ·show (if d=d then some S.recs.length else S.rc d)=_
    rw [if_pos rfl,R.recs]
  ·rename_i hne
   obtain ⟨j,s,h1,h2,h3,h4⟩:=R.JE d y pg
   refine ⟨j,s,ho.2 (.inl h1),h2,h3, ?_⟩
   show (if d=c then some S.recs.length else S.rc d)=_
   rw [if_neg hne];exact h4
 ·intro j s hs
  show ∃x,(if s.call=c then some S.lines[l] else S.of s.call)=some x
  rcases ho.1 hs with hs|⟨rfl,rfl⟩
  ·rw [if_neg (hc j s hs)];exact R.MQ j s hs
  ·rw [if_pos rfl];exact ⟨_,rfl⟩
 ·intro y d hy
  have pg:(if y=S.lines[l] then some c else S.on y)=some d:=hy
  split at pg
  ·rename_i he
   obtain rfl:=M_ pg
   refine ⟨m.recs.length,_,ho.2 (.inr ⟨rfl,rfl⟩),rfl, ?_⟩
   show S.lines[(((l+1:Nat):Int) - 1).toNat]?=some y
   rw [he,show ((((l+1:Nat):Int)) - 1).toNat=l by omega]
   exact G_ _
  ·obtain ⟨j,s,h1,h2,h3⟩:=R.Oq y d pg
   exact ⟨j,s,ho.2 (.inl h1),h2,h3⟩
 ·intro j s y hs hy
  have pg:S.lines[(s.line - 1).toNat]?=some y:=hy
  show (if y=S.lines[l] then some c else S.on y)=some s.call
  rcases ho.1 hs with hs|⟨rfl,rfl⟩
  ·have h2:=R.MN j s y hs pg
   rw [if_neg fun e=>by rw [e,hf] at h2;cases h2]
   exact h2
  ·have Qo:S.lines[(((l+1:Nat):Int) - 1).toNat]?=some y:=pg
   rw [show ((((l+1:Nat):Int)) - 1).toNat=l by omega,G_ hl] at Qo
   rw [if_pos (M_ Qo).symm]
 ·intro k u j s HE hs he
  rcases hk k u HE with ⟨h1,h2⟩|⟨h1,h2⟩
  ·rcases ho.1 hs with hs|⟨rfl,rfl⟩
   ·rcases hop with h0|h0
    ·omega
    ·exact absurd (he.trans h1.symm) (h0.2 j s hs)
   ·exact h2
  ·rcases ho.1 hs with hs|⟨rfl,rfl⟩
   ·exact R.LY k u j s h2 hs he
   ·exact absurd he h1
 ·intro k u HE h0
  rcases hk k u HE with ⟨h1,h2⟩|⟨h1,h2⟩
  ·exact ⟨m.recs.length,_,ho.2 (.inr ⟨rfl,rfl⟩),h1⟩
  ·obtain ⟨j,s,h3,h4⟩:=R.MV k u h2 h0
   exact ⟨j,s,ho.2 (.inl h3),h4⟩
 ·intro p hp
  rcases w1 p hp with h1|⟨h1,h2⟩
  ·obtain ⟨j,s,h3,h4,h5⟩:=R.w1 p h1
   exact ⟨j,s,ho.2 (.inl h3),h4,h5⟩
  ·exact ⟨m.recs.length,_,ho.2 (.inr ⟨rfl,rfl⟩),h1.symm,h2⟩
 ·intro j s hs h0
  rcases ho.1 hs with hs|⟨rfl,rfl⟩
  ·obtain ⟨p,hp,e⟩:=List.mem_map.1 (R.w2 j s hs h0)
   exact List.mem_map.2 ⟨p,w2 p hp,e⟩
  ·exact w3 h0
 ·intro p hp j s hs
  rcases ho.1 hs with hs|⟨rfl,rfl⟩
  ·exact R.b1 p (b1 p hp).1 j s hs
  ·exact fun e=>(b1 p hp).2 e.symm
 ·intro p hp;exact R.b2 p (b1 p hp).1
 ·intro j s hs
  rcases Nr hs with rfl|hs
  ·exact ⟨R.cl,Int.le_refl _⟩
  ·exact R.jy j s hs
 ·show (m.recs++_).length<=n+1
  rw [K_];have:=R.n1;show m.recs.length+1<=n+1;omega
 ·have:=R.n4;show m.clock<=60 * ((n+1:Nat):Int);omega
theorem Rel.S6 (R:Rel nl no n S us m) {r:Rec} (h:iA m.recs i r) {o:Int} (h1:1<=o) (h2:o<=(no:Int)) (hno:∀i r,iA m.recs i r->r.op≠o) (h0:r.op=0)
 (hu:yW.length=us.length) (hk:∀(k:Nat) (u:Od),yW[k]?=some u->(o=((k+1:Nat):Int)/\u.k=r.call)\/(o≠((k+1:Nat):Int)/\us[k]?=some u))
 (w0:(w'.map (·.1)).Nodup) (w1:∀p,p∈w'->p∈m.wait/\p.1≠r.call) (w2:∀p,p∈m.wait->p.1≠r.call->p∈w') (nn:w'.length<=m.wait.length):
 Rel nl no n {S with recs:=S.recs.set i {r with op:=o,heard:=hd},wait:=w'} yW {m with recs:=m.recs.set i {r with op:=o,heard:=hd},wait:=w'}:=by
 have ho:∀{j:Nat} {s:Rec},iA (m.recs.set i {r with op:=o,heard:=hd}) j s↔(j=i/\s={r with op:=o,heard:=hd})\/(j≠i/\iA m.recs j s):=by
  intro j s
  rw [iA.set h.1]
  constructor
  ·rintro (⟨h3,h4,_⟩|h)
   ·exact .inl ⟨h3,h4⟩
   ·exact .inr h
  ·rintro (⟨h3,h4⟩|h')
   ·exact .inl ⟨h3,h4,by rw [h4];exact h.2⟩
   ·exact .inr h'
 have Nr:∀{j:Nat} {s:Rec},(m.recs.set i {r with op:=o,heard:=hd})[j]?=some s->(s={r with op:=o,heard:=hd})\/m.recs[j]?=some s:=by
  intro j s hs
  rw [List.getElem?_set] at hs
  split at hs
  ·split at hs
   ·exact .inl (M_ hs).symm
   ·cases hs
  ·exact .inr hs
 have QV:=R.good.G8 i r h.1
 have OM:∀{j:Nat} {s:Rec},iA m.recs j s->∃s',iA (m.recs.set i {r with op:=o,heard:=hd}) j s'/\s'.call=s.call/\s'.line=s.line/\(j≠i->s'=s):=by
  intro j s hs
  by_cases e:j=i
  ·subst e
   obtain rfl:=M_ (h.1.symm.trans hs.1)
   exact ⟨_,ho.2 (.inl ⟨rfl,rfl⟩),rfl,rfl,fun x=>absurd rfl x⟩
  ·exact ⟨s,ho.2 (.inr ⟨e,hs⟩),rfl,rfl,fun _=>rfl⟩
 have hold:∀{j:Nat} {s':Rec},iA (m.recs.set i {r with op:=o,heard:=hd}) j s'->∃s,iA m.recs j s/\s'.call=s.call/\s'.line=s.line/\(j≠i->s'=s)/\(j=i->s'.op=o):=by
  intro j s' hs
  rcases ho.1 hs with ⟨rfl,rfl⟩|⟨h3,h4⟩
  ·exact ⟨r,h,rfl,rfl,fun x=>absurd rfl x,fun _=>rfl⟩
  ·exact ⟨s',h4,rfl,rfl,fun _=>rfl,fun x=>absurd x h3⟩
 refine ⟨⟨?_, ?_, ?_, ?_⟩, ?_,R.clock,rfl,R.back,R.log,R.cg,R.ll,R.nd,hu.trans R.ul, ?_, ?_, ?_, ?_, ?_, ?_,w0, ?_, ?_,R.b0, ?_,R.b2, ?_,R.cl, ?_, ?_,R.n4⟩
 ·intro a b s t hs ht e
  obtain ⟨s0,a1,a2,_⟩:=hold hs;obtain ⟨t0,b1,b2,_⟩:=hold ht
  exact R.good.qM a b s0 t0 a1 b1 (by rw [<-a2,<-b2,e])
 ·intro a b s t hs ht e
  obtain ⟨s0,a1,_,a2,_⟩:=hold hs;obtain ⟨t0,b1,_,b2,_⟩:=hold ht
  exact R.good.FK a b s0 t0 a1 b1 (by rw [<-a2,<-b2,e])
 ·intro a b s t hs ht e e0
  rcases ho.1 hs with ⟨rfl,rfl⟩|⟨h3,h4⟩<;>rcases ho.1 ht with ⟨rfl,rfl⟩|⟨h5,h6⟩
  ·rfl
  ·exact absurd e.symm (hno b t h6)
  ·exact absurd e (hno a s h4)
  ·exact R.good.TG a b s t h4 h6 e e0
 ·intro a s hs
  rcases Nr hs with rfl|hs
  ·refine ⟨QV.1,⟨?_,h2⟩,QV.2.2⟩
   show (0:Int)<=o;omega
  ·exact R.good.G8 a s hs
 ·show S.recs.set i _=_
  rw [R.recs]
 ·intro c y hy
  obtain ⟨j,s,h3,h4,h5,h6⟩:=R.JE c y hy
  obtain ⟨s',a1,a2,a3,_⟩:=OM h3
  exact ⟨j,s',a1,a2.trans h4,by rw [a3];exact h5,h6⟩
 ·intro j s hs
  obtain ⟨s0,a1,a2,_⟩:=hold hs
  rw [a2];exact R.MQ j s0 a1
 ·intro y c hy
  obtain ⟨j,s,h3,h4,h5⟩:=R.Oq y c hy
  obtain ⟨s',a1,a2,a3,_⟩:=OM h3
  exact ⟨j,s',a1,a2.trans h4,by rw [a3];exact h5⟩
 ·intro j s y hs hy
  obtain ⟨s0,a1,a2,a3,_⟩:=hold hs
  rw [a2];exact R.MN j s0 y a1 (by rw [<-a3];exact hy)
 ·intro k u j s HE hs he
  rcases hk k u HE with ⟨h3,h4⟩|⟨h3,h4⟩
  ·rcases ho.1 hs with ⟨rfl,rfl⟩|⟨h5,h6⟩
   ·exact h4
   ·exact absurd (he.trans h3.symm) (hno j s h6)
  ·rcases ho.1 hs with ⟨rfl,rfl⟩|⟨h5,h6⟩
   ·exact absurd he h3
   ·exact R.LY k u j s h4 h6 he
 ·intro k u HE hz
  rcases hk k u HE with ⟨h3,h4⟩|⟨h3,h4⟩
  ·exact ⟨i,_,ho.2 (.inl ⟨rfl,rfl⟩),h3⟩
  ·obtain ⟨j,s,h5,h6⟩:=R.MV k u h4 hz
   refine ⟨j,s,ho.2 (.inr ⟨fun e=> ?_,h5⟩),h6⟩
   subst e
   obtain rfl:=M_ (h.1.symm.trans h5.1)
   rw [h0] at h6;omega
 ·intro p hp
  obtain ⟨a1,a2⟩:=w1 p hp
  obtain ⟨j,s,h3,h4,h5⟩:=R.w1 p a1
  refine ⟨j,s,ho.2 (.inr ⟨fun e=> ?_,h3⟩),h4,h5⟩
  subst e
  obtain rfl:=M_ (h.1.symm.trans h3.1)
  exact a2 h4.symm
 ·intro j s hs hz
  rcases ho.1 hs with ⟨rfl,rfl⟩|⟨h5,h6⟩
  ·have:o=0:=hz
   omega
  ·obtain ⟨p,hp,e⟩:=List.mem_map.1 (R.w2 j s h6 hz)
   exact List.mem_map.2 ⟨p,w2 p hp (fun e2=>h5 (R.good.qM j i s r h6 h (e.symm.trans e2))),e⟩
 ·intro p hp j s hs
  obtain ⟨s0,a1,a2,_⟩:=hold hs
  rw [a2];exact R.b1 p hp j s0 a1
 ·intro j s hs
  rcases Nr hs with rfl|hs
  ·exact R.jy i r h.1
  ·exact R.jy j s hs
 ·show (m.recs.set i _).length<=n
  rw [List.length_set];exact R.n1
 ·have:=R.n2;show w'.length+m.back.length<=n;omega
theorem Rel.Gx (R:Rel nl no n S us m) (b0:(b'.map (·.1)).Nodup) (b1:∀p,p∈b'->p∈m.back\/((1<=p.1/\p.1<=99)/\∀i r,iA m.recs i r->r.call≠p.1)) (nn:m.wait.length+b'.length<=n+1):
 Rel nl no (n+1) {S with back:=b'.map (·.1)} us {m with back:=b'}:=by
 refine ⟨R.good,R.recs,R.clock,R.wait,rfl,R.log,R.cg,R.ll,R.nd,R.ul,R.JE,R.MQ,R.Oq,R.MN,R.LY,R.MV,R.w0,R.w1,R.w2,b0, ?_, ?_,R.jy,R.cl,Nat.le_succ_of_le R.n1,nn, ?_⟩
 ·intro p hp
  rcases b1 p hp with h|h
  ·exact R.b1 p h
  ·exact h.2
 ·intro p hp
  rcases b1 p hp with h|h
  ·exact R.b2 p h
  ·exact h.1
 ·have:=R.n4;show m.clock<=60 * ((n+1:Nat):Int);omega
variable {d:Int}
theorem Rel.tick (R:Rel nl no n S us m) (h0:0<=d) (h1:d<=60):Rel nl no (n+1) {S with clock:=S.clock+d} us {m with clock:=m.clock+d}:=by
 refine ⟨R.good,R.recs,by rw [R.clock],R.wait,R.back,R.log,R.cg,R.ll,R.nd,R.ul,R.JE,R.MQ,R.Oq,R.MN,R.LY,R.MV,R.w0,R.w1,R.w2,R.b0,R.b1,R.b2, ?_, ?_,Nat.le_succ_of_le R.n1,Nat.le_succ_of_le R.n2, ?_⟩
 ·intro i r hr
  have:=R.jy i r hr
  exact ⟨this.1,by show r.jy<=m.clock+d;omega⟩
 ·have:=R.cl;show 0<=m.clock+d;omega
 ·have:=R.n4;show m.clock+d<=60 * ((n+1:Nat):Int);omega
theorem Rel.mono (R:Rel nl no n S us m):Rel nl no (n+1) S us m:=
 ⟨R.good,R.recs,R.clock,R.wait,R.back,R.log,R.cg,R.ll,R.nd,R.ul,R.JE,R.MQ,R.Oq,R.MN,R.LY,R.MV,R.w0,R.w1,R.w2,R.b0,R.b1,R.b2,R.jy,R.cl,Nat.le_succ_of_le R.n1,Nat.le_succ_of_le R.n2,by have:=R.n4;show m.clock<=60 * ((n+1:Nat):Int);omega⟩
variable {ws:List (Int × Int)}
theorem nM {c:Int} {p:Int × Int}:p∈aJ ws c↔p∈ws/\p.1≠c:=by
 unfold aJ;rw [List.mem_filter];simp
theorem nK (h:(ws.map (·.1)).Nodup) (c:Int):((aJ ws c).map (·.1)).Nodup:=by
 unfold aJ;exact List.Nodup.sublist (List.Sublist.map _ List.filter_sublist) h
theorem jQ (ws:List (Int × Int)) (c:Int):(aJ ws c).length<=ws.length:=List.length_filter_le _ _
theorem rj {c:Int} (h:∀p,p∈ws->p.1≠c):aJ ws c=ws:=by
 unfold aJ;rw [List.filter_eq_self];intro p hp;exact decide_eq_true (h p hp)
theorem lT {p:Int × Int} (h:((p::ws).map (·.1)).Nodup):aJ (p::ws) p.1=ws:=by
 rw [S_,List.nodup_cons] at h
 have:aJ (p::ws) p.1=aJ ws p.1:=by unfold aJ;rw [List.filter_cons];simp
 rw [this]
 exact rj fun q hq e=>h.1 (List.mem_map.2 ⟨q,hq,e⟩)
theorem rk {p:Int × Int} {vs:List (Int × Int)} (h:((vs++p::ws).map (·.1)).Nodup):aJ (vs++p::ws) p.1=vs++ws:=by
 rw [List.map_append,List.nodup_append] at h
 obtain ⟨h1,h2,h3⟩:=h
 have:aJ (vs++p::ws) p.1=aJ vs p.1++aJ (p::ws) p.1:=by unfold aJ;rw [List.filter_append]
 rw [this,lT h2,rj fun q hq e=>h3 q.1 (List.mem_map.2 ⟨q,hq,rfl⟩) p.1 (by simp) e]
theorem Nf:∀(ws:List (Int × Int)) (k:Nat) (c:Int),(ws.map (·.1)).Nodup->(ws.map (·.1))[k]?=some c->(ws.map (·.1)).eraseIdx k=(aJ ws c).map (·.1)
 |[],_,_,_,h=>by simp at h
 |p::ws,0,c,hn,h=>by
  have:p.1=c:=by simpa using h
  subst this
  rw [lT hn];simp
 |p::ws,k+1,c,hn,h=>by
  rw [S_,List.nodup_cons] at hn
  have h':(ws.map (·.1))[k]?=some c:=by simpa using h
  have hne:p.1≠c:=fun e=>hn.1 (e▸List.mem_iff_getElem?.2 ⟨k,h'⟩)
  have e:aJ (p::ws) c=p::aJ ws c:=by unfold aJ;rw [List.filter_cons];simp [hne]
  rw [e,S_,S_,List.eraseIdx_cons_succ,Nf ws k c hn.2 h']
variable {x:Int × Int}
theorem xj {p:Int × Int}:p∈gY ws i x↔p=x\/p∈ws:=by
 unfold gY
 conv=>rhs;rw [<-List.take_append_drop i ws]
 simp only [List.mem_append,List.mem_singleton]
 constructor
 ·rintro ((h|h)|h)
  ·exact .inr (.inl h)
  ·exact .inl h
  ·exact .inr (.inr h)
 ·rintro (h|h|h)
  ·exact .inl (.inr h)
  ·exact .inl (.inl h)
  ·exact .inr h
theorem uA (ws:List (Int × Int)) (i:Nat) (x:Int × Int):(gY ws i x).length=ws.length+1:=by
 unfold gY
 simp only [K_,Q_,List.length_drop,List.length_singleton]
 omega
theorem Ep (h:(ws.map (·.1)).Nodup) (hx:∀p,p∈ws->p.1≠x.1) (i:Nat):((gY ws i x).map (·.1)).Nodup:=by
 have e:(gY ws i x).Perm (x::ws):=by
  unfold gY
  rw [List.append_assoc]
  refine List.perm_middle.trans ?_
  show (x::(List.take i ws++List.drop i ws)).Perm _
  rw [List.take_append_drop]
 refine (e.map (·.1)).nodup_iff.2 ?_
 rw [S_,List.nodup_cons]
 refine ⟨fun hm=> ?_,h⟩
 obtain ⟨p,hp,e⟩:=List.mem_map.1 hm
 exact hx p hp e
variable {k:Nat}
theorem zV {c:Int} {u:Od} (h:(told us i 1 c)[k]?=some u):(i=k/\u.k=c)\/(i≠k/\us[k]?=some u):=by
 unfold told at h
 rw [List.getElem?_modify] at h
 cases hx:us[k]? with
 |none=>rw [hx] at h;cases h
 |some v=>
  rw [hx] at h
  have h':(if i=k then (⟨v.bt,v.x,if (1:Int)=1 then c else v.k⟩:Od) else v)=u:=M_ h
  by_cases e:i=k
  ·rw [if_pos e] at h'
   exact .inl ⟨e,by rw [<-h'];rfl⟩
  ·rw [if_neg e] at h'
   exact .inr ⟨e,by rw [h']⟩
theorem wH (us:List Od) (i:Nat) (k c:Int):(told us i k c).length=us.length:=by unfold told;rw [List.length_modify]
theorem Rel.P5 (R:Rel nl no n S us m) {r:Rec} (h:iA m.recs i r):S.rc r.call=some i/\∃x,S.of r.call=some x/\S.lines[(r.line - 1).toNat]?=some x:=by
 obtain ⟨x,hx⟩:=R.MQ i r h
 obtain ⟨j,s,h1,h2,h3,h4⟩:=R.JE _ x hx
 obtain rfl:=R.good.qM j i s r h1 h h2
 obtain rfl:=iA.one h h1
 exact ⟨h4,x,hx,h3⟩
theorem Rel.FI (R:Rel nl no n S us m) {c:Int} (h:S.of c=none):∀i r,iA m.recs i r->r.call≠c:=by
 intro i r hr e
 obtain ⟨x,hx⟩:=R.MQ i r hr
 rw [e,h] at hx;cases hx
theorem Rel.ofc (R:Rel nl no n S us m) (c:Int):(S.of c).isSome=(dE m.recs c).isSome:=by
 cases h:S.of c with
 |none=>rw [uy (R.FI h)]
 |some x=>
  obtain ⟨i,r,h1,h2,_⟩:=R.JE c x h
  rw [kX R.good h1 h2];rfl
theorem Rel.CG (R:Rel nl no n S us m) (c:Int):S.back.contains c=im m c:=by
 rw [R.back]
 unfold im
 rw [Bool.eq_iff_iff,List.contains_iff_mem,List.mem_map,List.any_eq_true]
 constructor
 ·rintro ⟨p,hp,e⟩;exact ⟨p,hp,decide_eq_true e⟩
 ·rintro ⟨p,hp,e⟩;exact ⟨p,hp,of_decide_eq_true e⟩
theorem Rel.nobody (R:Rel nl no n S us m) {u:Od} (h:us[k]?=some u) (h0:u.k=0):∀i r,iA m.recs i r->r.op≠((k+1:Nat):Int):=by
 intro i r hr e
 have:=R.LY k u i r h hr e
 have:=R.good.G8 i r hr.1
 omega
theorem Rel.N5 (R:Rel nl no n S us m) {u:Od} (h:us[k]?=some u):ez m.recs ((k+1:Nat):Int)=u.k:=by
 by_cases h0:u.k=0
 ·rw [BW (R.nobody h h0),h0]
 ·obtain ⟨i,r,h1,h2⟩:=R.MV k u h h0
  rw [BV R.good (by omega) h1 h2,R.LY k u i r h h1 h2]
theorem Rel.pos (R:Rel nl no n S us m) {u:Od} (h:us[k]?=some u):(u.k≠0)↔u.k>0:=by
 constructor
 ·intro h0
  obtain ⟨i,r,h1,h2⟩:=R.MV k u h h0
  have:=R.LY k u i r h h1 h2
  have:=R.good.G8 i r h1.1
  omega
 ·intro h0;omega
theorem Rel.used (R:Rel nl no n S us m) (hl:l<S.lines.length):lM m.recs ((l+1:Nat):Int)=(S.on S.lines[l]).isSome:=by
 rw [Bool.eq_iff_iff,GR]
 constructor
 ·rintro ⟨i,r,h1,h2⟩
  rw [R.MN i r S.lines[l] h1 (by rw [h2,show ((((l+1:Nat):Int)) - 1).toNat=l by omega];exact G_ _)]
  rfl
 ·intro h
  cases hx:S.on S.lines[l] with
  |none=>rw [hx] at h;cases h
  |some c=>
   obtain ⟨i,r,h1,h2,h3⟩:=R.Oq _ c hx
   refine ⟨i,r,h1, ?_⟩
   have:=(List.getElem?_inj hl R.nd).1 ((G_ hl).trans h3.symm)
   have:=R.good.G8 i r h1.1
   omega
theorem Rel.zv (R:Rel nl no n S us m) (h:gf S= -1):AD nl m.recs=[]:=by
 have h1:S.lines.findIdx? (fun x=>(S.on x).isNone)=none:=by
  unfold gf at h
  cases hx:S.lines.findIdx? (fun x=>(S.on x).isNone) with
  |none=>rfl
  |some k=>rw [hx] at h;simp only at h;omega
 rw [List.findIdx?_eq_none_iff] at h1
 unfold AD
 rw [List.filter_eq_nil_iff]
 intro a ha
 obtain ⟨i,hi,rfl⟩:=List.mem_map.1 ha
 rw [List.mem_range] at hi
 have lE:i<S.lines.length:=by rw [R.ll];exact hi
 rw [R.used lE]
 have:=h1 _ (List.getElem_mem lE)
 cases hx:S.on S.lines[i] with
 |none=>rw [hx] at this;cases this
 |some c=>simp
theorem Rel.zu (R:Rel nl no n S us m) (h:gf S=(l:Nat)):∃t,AD nl m.recs=((l+1:Nat):Int)::t:=by
 have h1:S.lines.findIdx? (fun x=>(S.on x).isNone)=some l:=by
  unfold gf at h
  cases hx:S.lines.findIdx? (fun x=>(S.on x).isNone) with
  |none=>rw [hx] at h;simp only at h;omega
  |some k=>rw [hx] at h;simp only at h;rw [show k=l by omega]
 obtain ⟨hl,h2,h3⟩:=List.findIdx?_eq_some_iff_getElem.1 h1
 have hh:(AD nl m.recs).head?=some ((l+1:Nat):Int):=by
  unfold AD
  rw [List.head?_filter,List.find?_map]
  have:(List.range nl).find? ((fun l=> !lM m.recs l) ∘ fun i=>((i+1:Nat):Int))=some l:=by
   rw [List.find?_range_eq_some]
   refine ⟨?_,by rw [List.mem_range,<-R.ll];exact hl,fun j hj=> ?_⟩
   ·show (!lM m.recs ((l+1:Nat):Int))=true
    rw [R.used hl]
    cases hx:S.on S.lines[l] with
    |none=>rfl
    |some c=>rw [hx] at h2;cases h2
   ·show (!(!lM m.recs ((j+1:Nat):Int)))=true
    rw [R.used (by omega)]
    have:=h3 j hj
    cases hx:S.on (S.lines[j]'(by omega)) with
    |none=>rw [hx] at this;simp at this
    |some c=>rfl
  rw [this];rfl
 cases hx:AD nl m.recs with
 |nil=>rw [hx] at hh;cases hh
 |cons a t=>rw [hx] at hh;exact ⟨t,by rw [M_ hh]⟩
def Same (nl no n:Nat) (R:Hs × List Od × Bs) (q:Rm × Bs):Prop:=Rel nl no n R.1 R.2.1 q.1/\R.2.2=q.2
theorem Rel.ring (R:Rel nl no n S us m) {c pt:Int} (c0:1<=c) (c1:c<=99):Same nl no (n+1) (oe S us c pt) (kS nl m c pt):=by
 unfold oe kS
 rw [R.ofc c,R.CG c]
 by_cases hk:((dE m.recs c).isSome||im m c)=true
 ·rw [if_pos hk,if_pos hk];exact ⟨R.mono,rfl⟩
 rw [if_neg hk,if_neg hk]
 rw [Bool.or_eq_true,not_or] at hk
 have hno:∀i r,iA m.recs i r->r.call≠c:=Ej (by
  cases hx:dE m.recs c with
  |none=>rfl
  |some i=>rw [hx] at hk;exact absurd rfl hk.1)
 have BH:∀p,p∈m.back->p.1≠c:=fun p hp e=>hk.2 (by unfold im;rw [List.any_eq_true];exact ⟨p,hp,decide_eq_true e⟩)
 rcases lX S with h|⟨l,hl,h,h0⟩
 ·rw [if_pos (by omega),R.zv h]
  refine ⟨?_,rfl⟩
  show Rel nl no (n+1) {S with back:=S.back++[c]} us {m with back:=m.back++[(c,pt)]}
  have e:S.back++[c]=(m.back++[(c,pt)]).map (·.1):=by rw [R.back];simp
  rw [e]
  refine R.Gx ?_ ?_ ?_
  ·rw [List.map_append,List.nodup_append]
   refine ⟨R.b0,by simp, ?_⟩
   intro a ha b hb
   obtain ⟨p,hp,rfl⟩:=List.mem_map.1 ha
   simp at hb
   rw [hb];exact BH p hp
  ·intro p hp
   rw [List.mem_append,List.mem_singleton] at hp
   rcases hp with hp|rfl
   ·exact .inl hp
   ·exact .inr ⟨⟨c0,c1⟩,hno⟩
  ·have:=R.n2
   rw [K_,List.length_singleton];omega
 ·obtain ⟨t,ht⟩:=R.zu h
  rw [if_neg (by omega),ht,h,Int.toNat_natCast,G_ hl]
  refine ⟨?_,by show jj++L_ _=jj++L_ _;congr 2⟩
  have hw:∀p,p∈m.wait->p.1≠c:=fun p hp e=>by
   obtain ⟨i,r,h1,h2,_⟩:=R.w1 p hp
   exact hno i r h1 (h2.trans e)
  have A:=R.add (yW:=us) (w':=gY m.wait (placeOf m.wait pt) (c,pt)) (b':=m.back) (o:=0) (hd:= -1) hl h0 hno c0 c1 (.inl rfl) rfl (fun k u HE=>.inr ⟨by omega,HE⟩)
   (Ep R.w0 hw _) (fun p hp=>by
    rcases xj.1 hp with rfl|hp
    ·exact .inr ⟨rfl,rfl⟩
    ·exact .inl hp) (fun p hp=>xj.2 (.inr hp)) (fun _=>List.mem_map.2 ⟨(c,pt),xj.2 (.inl rfl),rfl⟩) R.b0 (fun p hp=>⟨hp,BH p hp⟩)
   (by rw [uA];have:=R.n2;omega)
  have e:({conn S c l S.lines[l] with wait:=gY S.wait (placeOf S.wait pt) (c,pt)}:Hs)={S with on:=fun y=>if y=S.lines[l] then some c else S.on y,of:=fun y=>if y=c then some S.lines[l] else S.of y,rc:=fun y=>if y=c then some S.recs.length else S.rc y,recs:=S.recs++[⟨c,(l:Int)+1,0,S.clock, -1, -1,eR⟩],wait:=gY m.wait (placeOf m.wait pt) (c,pt),back:=m.back.map (·.1)}:=by
   unfold conn kT;rw [R.wait,<-R.back]
  show Rel nl no (n+1) ({conn S c l S.lines[l] with wait:=gY S.wait (placeOf S.wait pt) (c,pt)}:Hs) us _
  rw [e];exact A
theorem Rel.answer (R:Rel nl no n S us m) (hi:i<no):Same nl no (n+1) (og S us i) (hZ m ((i+1:Nat):Int)):=by
 have hu:i<us.length:=by rw [R.ul];exact hi
 have hg:us[i]?=some us[i]:=G_ hu
 unfold og hZ
 rw [hg,R.N5 hg]
 simp only
 by_cases h0:us[i].k≠0
 ·rw [if_pos h0,if_pos ((R.pos hg).1 h0)];exact ⟨R.mono,rfl⟩
 rw [if_neg h0,if_neg (fun h=>h0 ((R.pos hg).2 h)),R.wait]
 cases hw:m.wait with
 |nil=>exact ⟨R.mono,rfl⟩
 |cons p ws=>
  obtain ⟨j,r,h1,h2,h3⟩:=R.w1 p (by rw [hw];exact List.mem_cons_self)
  have mj:=(R.P5 h1).1
  rw [h2] at mj
  simp only
  rw [mj,kX R.good h1 h2]
  simp only
  rw [show S.recs[j]?=some r by rw [R.recs];exact h1.1,h1.1]
  have hn:=R.w0
  rw [hw] at hn
  have A:=R.S6 (yW:=told us i 1 p.1) (w':=ws) (o:=((i+1:Nat):Int)) (hd:=m.clock) h1 (by omega) (by omega) (R.nobody hg (Decidable.not_not.1 h0)) h3 (wH us i 1 p.1)
   (fun k u hk=>by
    rcases zV hk with ⟨e,h⟩|⟨e,h⟩
    ·exact .inl ⟨by omega,by rw [h,h2]⟩
    ·exact .inr ⟨by omega,h⟩) (by rw [S_,List.nodup_cons] at hn;exact hn.2)
   (fun q hq=>⟨by rw [hw];exact List.mem_cons_of_mem _ hq,fun e=>by rw [S_,List.nodup_cons] at hn;exact hn.1 (List.mem_map.2 ⟨q,hq,e.trans h2⟩)⟩)
   (fun q hq e=>by
    rw [hw] at hq
    rcases List.mem_cons.1 hq with rfl|hq
    ·exact absurd h2.symm e
    ·exact hq) (by rw [hw];simp)
  refine ⟨?_,rfl⟩
  show Rel nl no (n+1) (iZ {S with wait:=ws} j r ((i+1:Nat):Int)) (told us i 1 p.1) {m with recs:=m.recs.set j {r with op:=((i+1:Nat):Int),heard:=m.clock},wait:=aJ (p::ws) p.1}
  rw [lT hn]
  have e:iZ {S with wait:=ws} j r ((i+1:Nat):Int)={S with recs:=S.recs.set j {r with op:=((i+1:Nat):Int),heard:=m.clock},wait:=ws}:=by
   unfold iZ;rw [R.clock]
  rw [e]
  exact A.mono
theorem Rel.calls (R:Rel nl no n S us m) (hi:i<no):Same nl no (n+1) (lY S us i) (lD nl m ((i+1:Nat):Int)):=by
 have hu:i<us.length:=by rw [R.ul];exact hi
 have hg:us[i]?=some us[i]:=G_ hu
 unfold lY lD
 rw [hg,R.N5 hg]
 simp only
 by_cases h0:us[i].k≠0
 ·rw [if_pos h0,if_pos ((R.pos hg).1 h0)];exact ⟨R.mono,rfl⟩
 rw [if_neg h0,if_neg (fun h=>h0 ((R.pos hg).2 h)),R.back]
 cases hw:m.back with
 |nil=>exact ⟨R.mono,rfl⟩
 |cons p bs=>
  simp only [S_]
  have hn:=R.b0
  rw [hw] at hn
  rcases lX S with h|⟨l,hl,h,b9⟩
  ·rw [if_pos (by omega),R.zv h];exact ⟨R.mono,rfl⟩
  ·obtain ⟨t,ht⟩:=R.zu h
   rw [if_neg (by omega),ht,h,Int.toNat_natCast,G_ hl]
   simp only
   have Uk:p∈m.back:=by rw [hw];exact List.mem_cons_self
   have h99:=R.b2 p Uk
   have A:=R.add (yW:=told us i 1 p.1) (w':=m.wait) (b':=bs) (o:=((i+1:Nat):Int)) (hd:=m.clock) hl b9 (R.b1 p Uk) h99.1 h99.2 (.inr ⟨⟨by omega,by omega⟩,R.nobody hg (Decidable.not_not.1 h0)⟩) (wH us i 1 p.1)
    (fun k u hk=>by
     rcases zV hk with ⟨e,h⟩|⟨e,h⟩
     ·exact .inl ⟨by omega,h⟩
     ·exact .inr ⟨by omega,h⟩) R.w0 (fun _ h=>.inl h) (fun _ h=>h) (fun e=>by omega) (by rw [S_,List.nodup_cons] at hn;exact hn.2)
    (fun q hq=>⟨by rw [hw];exact List.mem_cons_of_mem _ hq,fun e=>by rw [S_,List.nodup_cons] at hn;exact hn.1 (List.mem_map.2 ⟨q,hq,e⟩)⟩)
    (by have:=R.n2;rw [hw,List.length_cons] at this;omega)
   refine ⟨?_,rfl⟩
   show Rel nl no (n+1) (iZ (conn {S with back:=bs.map (·.1)} p.1 l S.lines[l]) S.recs.length (kT {S with back:=bs.map (·.1)} p.1 l) ((i+1:Nat):Int)) (told us i 1 p.1) {m with back:=aJ (p::bs) p.1,recs:=m.recs++[⟨p.1,((l+1:Nat):Int),((i+1:Nat):Int),m.clock,m.clock, -1,eR⟩]}
   rw [lT hn]
   have e:iZ (conn {S with back:=bs.map (·.1)} p.1 l S.lines[l]) S.recs.length (kT {S with back:=bs.map (·.1)} p.1 l) ((i+1:Nat):Int)={S with on:=fun y=>if y=S.lines[l] then some p.1 else S.on y,of:=fun y=>if y=p.1 then some S.lines[l] else S.of y,rc:=fun y=>if y=p.1 then some S.recs.length else S.rc y,recs:=S.recs++[⟨p.1,(l:Int)+1,((i+1:Nat):Int),S.clock,m.clock, -1,eR⟩],wait:=m.wait,back:=bs.map (·.1)}:=by
    unfold iZ conn kT
    simp only [List.set_append_right _ _ (C_ _),Nat.sub_self,List.set_cons_zero,R.clock,R.wait]
   rw [e];exact A
theorem Rel.hangs (R:Rel nl no n S us m) (c:Int):Same nl no (n+1) (ou S us c) (lv m c):=by
 unfold ou lv
 cases kE:S.of c with
 |none=>
  have hno:=R.FI kE
  rw [uy hno]
  simp only
  rcases uE S.back c with ⟨h1,h2⟩|⟨k,hk,h1,h2,_⟩
  ·rw [if_pos (by omega),if_pos (by omega),<-R.CG c,h2]
   exact ⟨R.mono,rfl⟩
  ·have Nq:im m c=true:=by rw [<-R.CG c,List.contains_iff_mem,<-h2];exact List.getElem_mem hk
   rw [if_neg (by omega),if_neg (by omega),Nq,h1,Int.toNat_natCast]
   refine ⟨?_,rfl⟩
   have yL:(m.back.map (·.1))[k]?=some c:=by rw [<-R.back,G_ hk,h2]
   show Rel nl no (n+1) {S with back:=S.back.eraseIdx k} us {m with back:=aJ m.back c}
   rw [R.back,Nf m.back k c R.b0 yL]
   refine R.Gx (nK R.b0 c) (fun p hp=>.inl (nM.1 hp).1) ?_
   have:=R.n2;have:=jQ m.back c;omega
 |some x=>
  obtain ⟨i,r,h1,h2,h3,h4⟩:=R.JE c x kE
  simp only
  rw [h4,kX R.good h1 h2]
  simp only
  rw [show S.recs[i]?=some r by rw [R.recs];exact h1.1,h1.1]
  simp only
  subst h2
  have hr:=R.good.G8 i r h1.1
  by_cases hop:r.op≠0
  ·rw [if_pos hop,if_pos (by omega)]
   have hw:∀p,p∈m.wait->p.1≠r.call:=fun p hp e=>by
    obtain ⟨j,s,a1,a2,a3⟩:=R.w1 p hp
    obtain rfl:=R.good.qM j i s r a1 h1 (a2.trans e)
    obtain rfl:=iA.one h1 a1
    exact hop a3
   have A:=R.close (yW:=told us (r.op.toNat - 1) 1 0) (w':=m.wait) (b':=m.back) (q:=iy) h1 (by decide) h3 (wH us _ 1 0)
    (fun k u hk=>by
     rcases zV hk with ⟨e,h⟩|⟨e,h⟩
     ·exact .inl ⟨by omega,h⟩
     ·exact .inr ⟨by omega,h⟩) R.w0 (fun p hp=>⟨hp,hw p hp⟩) (fun p hp _=>hp) R.b0 (fun p hp=>.inl hp) R.n2
   refine ⟨?_,rfl⟩
   have e1:(jJ m i iy)={m with recs:=m.recs.set i {r with wI:=m.clock,fin:=iy},wait:=m.wait,back:=m.back}:=by
    unfold jJ;rw [h1.1];simp only;rw [rj hw]
   have e2:uk S r.call x i r iy={uk S r.call x i r iy with wait:=m.wait,back:=m.back.map (·.1)}:=by
    rw [<-R.wait,<-R.back];rfl
   show Rel nl no (n+1) (uk S r.call x i r iy) _ (jJ m i iy)
   rw [e1,e2];exact A.mono
  ·rw [if_neg hop,if_neg (by omega)]
   have A:=R.close (yW:=us) (w':=aJ m.wait r.call) (b':=m.back) (q:=ie) h1 (by decide) h3 rfl
    (fun k u hk=>.inr ⟨by omega,hk⟩) (nK R.w0 _) (fun p hp=>nM.1 hp) (fun p hp h=>nM.2 ⟨hp,h⟩) R.b0 (fun p hp=>.inl hp) (by have:=R.n2;have:=jQ m.wait r.call;omega)
   refine ⟨?_,rfl⟩
   have e1:(jJ m i ie)={m with recs:=m.recs.set i {r with wI:=m.clock,fin:=ie},wait:=aJ m.wait r.call,back:=m.back}:=by
    unfold jJ;rw [h1.1]
   have e2:({uk S r.call x i r ie with wait:=aJ S.wait r.call}:Hs)={uk S r.call x i r ie with wait:=aJ m.wait r.call,back:=m.back.map (·.1)}:=by
    rw [<-R.wait,<-R.back];rfl
   show Rel nl no (n+1) ({uk S r.call x i r ie with wait:=aJ S.wait r.call}:Hs) _ (jJ m i ie)
   rw [e1,e2];exact A.mono
theorem Rel.wD (P:Int):∀(rest:List (Int × Int)) (q:Wq) (mm:Rm) (t:Bs),Rel nl no n {q.S with wait:=q.keep++rest} us mm->q.text=t->
 Rel nl no n {(rest.foldl (bP P) q).S with wait:=(rest.foldl (bP P) q).keep} us (rest.foldl (fB P) (mm,t)).1/\(rest.foldl (bP P) q).text=(rest.foldl (fB P) (mm,t)).2
 |[],q,mm,t,R,ht=>by
  rw [List.append_nil] at R
  exact ⟨R,ht⟩
 |p::rest,q,mm,t,R,ht=>by
  rw [List.foldl_cons,List.foldl_cons]
  have hw:mm.wait=q.keep++p::rest:=R.wait.symm
  obtain ⟨i,r,h1,h2,h3⟩:=R.w1 p (by rw [hw];simp)
  obtain ⟨mj,x,kE,hx⟩:=R.P5 h1
  rw [h2] at mj kE
  have Y6:q.S.of p.1=some x:=kE
  have YY:q.S.rc p.1=some i:=mj
  have QG:q.S.recs=mm.recs:=R.recs
  have gv:q.S.clock=mm.clock:=R.clock
  have sD:q.S.back=mm.back.map (·.1):=R.back
  have es:bP P q p=if q.S.clock - r.jy<P then {q with keep:=q.keep++[p]} else ⟨{uk q.S p.1 x i r eT with back:=q.S.back++[p.1]},q.keep,q.text++(32::L_ p.1)⟩:=by
   unfold bP;rw [Y6,YY];simp only;rw [QG,h1.1]
  have er:fB P (mm,t) p=if mm.clock - r.jy>=P then ({jJ mm i eT with back:=mm.back++[p]},t++(32::L_ p.1)) else (mm,t):=by
   unfold fB;simp only;rw [kX R.good h1 h2];simp only;rw [h1.1]
  rw [es,er]
  by_cases hlt:q.S.clock - r.jy<P
  ·rw [if_pos hlt,if_neg (by omega)]
   refine Rel.wD P rest _ mm t ?_ ht
   show Rel nl no n {q.S with wait:=(q.keep++[p])++rest} us mm
   rw [List.append_assoc];exact R
  ·rw [if_neg hlt,if_pos (by omega)]
   have hn:=R.w0
   rw [hw] at hn
   refine Rel.wD P rest _ _ _ ?_ (by show q.text++_=_;rw [ht])
   have yJ:∀p',p'∈q.keep++rest↔p'∈mm.wait/\p'.1≠r.call:=by
    intro p'
    rw [<-rk hn,nM,hw,h2]
   have A:=R.close (yW:=us) (w':=q.keep++rest) (b':=mm.back++[p]) (q:=eT) h1 (by decide) hx rfl
    (fun k u hk=>.inr ⟨by omega,hk⟩) (by rw [<-rk hn];exact nK hn _) (fun p' Sx=>(yJ p').1 Sx) (fun p' a b=>(yJ p').2 ⟨a,b⟩)
    (by
     rw [List.map_append,List.nodup_append]
     refine ⟨R.b0,by simp, ?_⟩
     intro a ha b hb
     obtain ⟨p',Sx,rfl⟩:=List.mem_map.1 ha
     simp at hb
     rw [hb]
     exact fun e=>R.b1 p' Sx i r h1 (h2.trans e.symm))
    (fun p' Sx=>by
     rw [List.mem_append,List.mem_singleton] at Sx
     rcases Sx with h|rfl
     ·exact .inl h
     ·exact .inr h2.symm)
    (by
     have:=R.n2
     rw [hw] at this
     simp only [K_,List.length_cons,List.length_nil] at this ⊢
     omega)
   have e1:({jJ mm i eT with back:=mm.back++[p]}:Rm)={mm with recs:=mm.recs.set i {r with wI:=mm.clock,fin:=eT},wait:=q.keep++rest,back:=mm.back++[p]}:=by
    unfold jJ;rw [h1.1];simp only;rw [h2,hw,rk hn]
   have e2:({({uk q.S p.1 x i r eT with back:=q.S.back++[p.1]}:Hs) with wait:=q.keep++rest}:Hs)={uk {q.S with wait:=q.keep++p::rest} r.call x i r eT with wait:=q.keep++rest,back:=(mm.back++[p]).map (·.1)}:=by
    rw [h2,sD];simp [uk]
   show Rel nl no n ({({uk q.S p.1 x i r eT with back:=q.S.back++[p.1]}:Hs) with wait:=q.keep++rest}:Hs) us ({jJ mm i eT with back:=mm.back++[p]}:Rm)
   rw [e1,e2];exact A
theorem Rel.waits (R:Rel nl no n S us m) (P:Int) (h0:0<=d) (h1:d<=60):Rel nl no (n+1) (waited P S d).1 us (mB P m d).1/\(waited P S d).2=(mB P m d).2:=by
 have hw:S.wait=m.wait:=R.wait
 have:=Rel.wD P m.wait ⟨{S with clock:=S.clock+d},[],rI++L_ (S.clock+d)⟩ {m with clock:=m.clock+d} (rI++L_ (m.clock+d)) (by
  have e:({({S with clock:=S.clock+d}:Hs) with wait:=[]++m.wait}:Hs)={S with clock:=S.clock+d}:=by rw [List.nil_append,<-hw]
  show Rel nl no (n+1) {({S with clock:=S.clock+d}:Hs) with wait:=[]++m.wait} us _
  rw [e]
  exact R.tick h0 h1) (by show _++_=_;rw [R.clock])
 unfold waited waitAll mB
 rw [<-hw] at this ⊢
 exact this
theorem yi (P:Int) (q:Rm × Bs) (p:Int × Int):(fB P q p).1.log=q.1.log:=by
 unfold fB
 split
 ·rfl
 ·split
  ·rfl
  ·split
   ·show (jJ q.1 _ eT).log=_
    unfold jJ;split<;>rfl
   ·rfl
theorem GN (P:Int) (m:Rm) (d:Int):(mB P m d).1.log=m.log:=by
 have:∀(ws:List (Int × Int)) (q:Rm × Bs),(ws.foldl (fB P) q).1.log=q.1.log:=by
  intro ws
  induction ws with
  |nil=>intro q;rfl
  |cons p ws ih=>intro q;rw [List.foldl_cons,ih,yi]
 unfold mB
 exact this _ _
theorem yZ (nl:Nat) (P:Int) (m:Rm) (e:Ev):(qy nl P m e).1.log=m.log:=by
 have he:∀i q,(jJ m i q).log=m.log:=fun i q=>by unfold jJ;split<;>rfl
 cases e with
 |ring c pt=>
  show (kS nl m c pt).1.log=_
  unfold kS
  split
  ·rfl
  ·split<;>rfl
 |hang c=>
  show (lv m c).1.log=_
  unfold lv
  split
  ·split
   ·rfl
   ·split<;>exact he _ _
  ·split<;>rfl
 |answer i=>
  show (hZ m _).1.log=_
  unfold hZ
  split
  ·rfl
  ·split
   ·rfl
   ·split
    ·rfl
    ·split<;>rfl
 |back i=>
  show (lD nl m _).1.log=_
  unfold lD
  split
  ·rfl
  ·split
   ·rfl
   ·split<;>rfl
 |wait d=>exact GN P m d
theorem Rel.A9 (R:Rel nl no n S us m) (P:Int) {e:Ev} (h:e.good no):Same nl no (n+1) (gZ P S us e) (qy nl P m e):=by
 cases e with
 |ring c pt=>exact R.ring h.1.1 h.1.2
 |hang c=>exact R.hangs c
 |answer i=>exact R.answer h
 |back i=>exact R.calls h
 |wait d=>exact R.waits P (by have:=h.1;omega) h.2
theorem Rel.step (R:Rel nl no n S us m) (P:Int) {e:Ev} (h:e.good no):Rel nl no (n+1) (B6 P (S,us) e).1 (B6 P (S,us) e).2 (Ca nl P m e):=by
 obtain ⟨A,e2⟩:=R.A9 P h
 unfold B6 Ca
 exact ⟨A.good,A.recs,A.clock,A.wait,A.back,by show _++_=_++_;rw [A.log,e2],A.cg,A.ll,A.nd,A.ul,A.JE,A.MQ,A.Oq,A.MN,A.LY,A.MV,A.w0,A.w1,A.w2,A.b0,A.b1,A.b2,A.jy,A.cl,A.n1,A.n2,A.n4⟩
theorem Rel.Ro (R:Rel nl no n S us m) (hn:n<=60) (hl:nl<=1000):BA S us:=by
 have h1:=R.n1;have h2:=R.n2;have h4:=R.n4
 have e1:S.recs.length=m.recs.length:=by rw [R.recs]
 have e2:S.wait.length=m.wait.length:=by rw [R.wait]
 have e3:S.back.length=m.back.length:=by rw [R.back,List.length_map]
 have e4:=R.ll
 have e5:=R.clock
 have e6:=R.cl
 refine ⟨⟨by omega,by omega,by omega,by omega⟩,⟨by omega,by omega,by omega, ?_⟩,⟨by rw [R.wait];exact R.w0, ?_, ?_, ?_,by omega,by omega,by omega⟩,⟨by omega,by omega, ?_⟩,by omega,by omega⟩
 ·intro c x hx
  obtain ⟨i,r,a1,a2,a3,a4⟩:=R.JE c x hx
  obtain ⟨hlt,e⟩:=List.getElem?_eq_some_iff.1 a1.1
  have hg:S.recs[i]'(by omega)=r:=by
   have:S.recs[i]?=some r:=by rw [R.recs];exact a1.1
   exact (List.getElem?_eq_some_iff.1 this).2
  refine ⟨i,by omega,a4, ?_⟩
  rw [hg]
  have:=R.good.G8 i r a1.1
  by_cases h0:r.op=0
  ·exact .inl h0
  ·have:=R.ul
   exact .inr ⟨(r.op - 1).toNat,by omega,by omega⟩
 ·intro j hj
  have hp:S.wait[j]∈m.wait:=by rw [<-R.wait];exact List.getElem_mem hj
  obtain ⟨i,r,a1,a2,a3⟩:=R.w1 _ hp
  obtain ⟨b1,x,b2,b3⟩:=R.P5 a1
  rw [a2] at b1 b2
  have:=(List.getElem?_eq_some_iff.1 a1.1).1
  exact ⟨x,i,b2,b1,by omega⟩
 ·intro j hj
  have hp:S.wait[j]∈m.wait:=by rw [<-R.wait];exact List.getElem_mem hj
  obtain ⟨i,r,a1,a2,a3⟩:=R.w1 _ hp
  have:=R.good.G8 i r a1.1
  omega
 ·intro i hi
  have hg:m.recs[i]?=some S.recs[i]:=by rw [<-R.recs];exact G_ hi
  have:=R.jy i _ hg
  omega
 ·intro c hc
  rw [R.back] at hc
  obtain ⟨p,hp,rfl⟩:=List.mem_map.1 hc
  have:=R.b2 p hp
  omega
variable {ls:List Nat}
theorem Rel.zero (hd:ls.Nodup) (hl:ls.length=nl) (hu:us.length=no) (h0:∀u∈us,Od.k u=0):Rel nl no 0 (LK ls) us ⟨[],[],[],0,[]⟩:=by
 have hno:∀{i:Nat} {r:Rec},¬iA [] i r:=fun h=>by have:=h.1;simp at this
 refine ⟨⟨fun _ _ _ _ h=>absurd h hno,fun _ _ _ _ h=>absurd h hno,fun _ _ _ _ h=>absurd h hno,fun i r h=>by simp at h⟩,rfl,rfl,rfl,rfl,rfl,rfl,hl,hd,hu,fun c x h=>(by cases h),fun i r h=>absurd h hno,fun x c h=>(by cases h),fun _ _ _ h=>absurd h hno,fun _ _ _ _ _ h=>absurd h hno,fun q u hq hk=>absurd (h0 u (List.mem_iff_getElem?.2 ⟨q,hq⟩)) hk,by simp,fun p h=>(by cases h),fun _ _ h=>absurd h hno,by simp,fun p h=>(by cases h),fun p h=>(by cases h),fun i r h=>by simp at h,Int.le_refl _,C_ _,C_ _,Int.le_refl _⟩
variable {P:Int} {evs:List Ev}
theorem G6 (hk:k<evs.length):ja nl P (evs.take (k+1))=Ca nl P (ja nl P (evs.take k)) evs[k]:=by
 unfold ja
 rw [sC hk,List.foldl_append];rfl
theorem wO {nl no:Nat} {ls:List Nat} {us:List Od} {P:Int} {evs:List Ev} (hd:ls.Nodup) (hl:ls.length=nl) (hu:us.length=no) (h0:∀u∈us,Od.k u=0) (he:∀e∈evs,Ev.good no e):
 ∀k,k<=evs.length->Rel nl no k (eC P (LK ls,us) (evs.take k)).1 (eC P (LK ls,us) (evs.take k)).2 (ja nl P (evs.take k))/\(ja nl P (evs.take k)).log.length=k
 |0,_=>⟨by rw [List.take_zero];exact Rel.zero hd hl hu h0,by rw [List.take_zero];rfl⟩
 |k+1,hk=>by
  obtain ⟨R,h2⟩:=wO (P:=P) hd hl hu h0 he k (by omega)
  rw [zd (by omega),G6 (by omega)]
  refine ⟨R.step P (he _ (List.getElem_mem _)), ?_⟩
  show ((qy nl P _ _).1.log++[(qy nl P _ _).2]).length=_
  rw [yZ,K_,List.length_singleton,h2]
theorem Ag (hd:ls.Nodup) (hl:ls.length=nl) (hu:us.length=no) (h0:∀u∈us,Od.k u=0) (he:∀e∈evs,Ev.good no e) (hn:evs.length<=60) (rp:nl<=1000) (hno:no<=999):
 GG P ls us evs/\Rel nl no evs.length (eC P (LK ls,us) evs).1 (eC P (LK ls,us) evs).2 (ja nl P evs):=by
 have eU:=(wO (P:=P) hd hl hu h0 he evs.length (C_ _)).1
 rw [List.take_length] at eU
 refine ⟨⟨fun k hk=> ?_,by rw [eU.ul];exact hno,eU.cg⟩,eU⟩
 obtain ⟨R,h2⟩:=wO (P:=P) hd hl hu h0 he k (by omega)
 have hg:=he _ (List.getElem_mem hk)
 refine ⟨?_,R.Ro (by omega) rp, ?_⟩
 ·rw [R.ul]
  cases hx:evs[k] with
  |ring c pt=>rw [hx] at hg;have:=hg.1;exact ⟨by omega,by omega⟩
  |hang c=>trivial
  |answer i=>rw [hx] at hg;exact hg
  |back i=>rw [hx] at hg;exact hg
  |wait d=>rw [hx] at hg;have:=hg.1;have:=hg.2;exact ⟨by omega,by omega⟩
 ·rw [(R.A9 P hg).1.log,yZ,h2];omega
end
section
open Go Go.Conc Go.Conc.Lib Go.ConcR Go.ConcR.Gen Go.aC Go.Proofs
open Go.RowKit hiding Hid
open Go.ConcN (upd upd_ne upd_same)
theorem dx (n lo hi:Int) (w:J'):d_ p_ 52 #[.int .i64 n,.int .i64 lo,.int .i64 hi] w fun e w'=>e=.returned (.bool (decide (lo<=n)&&decide (n<=hi)))/\w'=w:=by
 by_cases h:lo<=n
 ·have hd:decide (lo<=n)=true:=by simpa using h
  go_enter func52,ntmps52
  go_wp2
  go_ret
  exact ⟨by first|rfl|(rw [hd];rfl),rfl⟩
 ·have hd:decide (lo<=n)=false:=by simpa using h
  go_enter func52,ntmps52
  go_wp2
  go_ret
  exact ⟨by first|rfl|(rw [hd];rfl),rfl⟩
def ox (u:Nat) (tail:Bs):Bs:=Lib.decDigits u++tail
theorem xT (u:Nat) (tail:Bs) (h:9<u):ox (u / 10) (UInt8.ofNat (48+u % 10)::tail)=ox u tail:=by
 unfold ox
 conv=>rhs;rw [Lib.decDigits,dif_neg (by omega)]
 simp
theorem xU (u:Nat) (tail:Bs) (h:u<=9):ox u tail=UInt8.ofNat (48+u)::tail:=by
 unfold ox;rw [Lib.decDigits,dif_pos (by omega)];rfl
theorem zD {v u:Nat} {l:Bs} (h:ox v l=Lib.decDigits u) (hu:u<=9223372036854775807):l.length<=21:=by
 have h1:=Lib.itoa_length_le (u:Int) (by omega) (by omega)
 unfold L_ at h1
 rw [if_neg (by omega),Int.toNat_natCast,<-h] at h1
 unfold ox at h1
 rw [K_] at h1
 omega
theorem uj (w:J') (n:Int):(convert 42 9 (.slice (some ⟨w.heap.size,0,none⟩) 1 1)).run p_ (w.alloc (.cells #[.int .u8 n] 5))=.ok (.string ⟨#[UInt8.ofNat n.toNat]⟩) (w.alloc (.cells #[.int .u8 n] 5)):=by
 rw [run_convert_bytes_string _ 42 9 5 _ _ _ Tryz.underlying42 Tryz.underlying5 Tryz.underlying9]
 rw [run_bytesToString _ _ 1 1 [n]]
 ·rfl
 ·have:=run_loadCells_list (P:=p_) (w.alloc (.cells #[.int .u8 n] 5)) ⟨w.heap.size,0,none⟩ [.int .u8 n] (by
   intro j v hj
   match j,hj with
   |0,hj=>simp at hj;subst hj;simp [Addr.add])
  simpa using this
theorem NQ (u:Nat) (w:J') (hu:u<=9223372036854775807):
 d_ p_ 113 #[.int .i64 (u:Int)] w fun e w'=>e=.returned (.string ⟨(Lib.decDigits u).toArray⟩)/\g_ w.heap.size w w':=by
 have h1:decide ((u:Int)< -9223372036854775807)=false:=by simp
 have h2:decide ((u:Int)<0)=false:=by simp
 go_enter func113,ntmps113
 go_wp2
 go_loopw [0,3] (fun n out wr=>∃(v:Nat) (l:Bs),n=.int .i64 (v:Int)/\v<=9223372036854775807/\out=.string ⟨l.toArray⟩/\f_ (ox v l=Lib.decDigits u)/\g_ w.heap.size w wr) (fun n _ _=>(intOf n).toNat)
 case atStart=>exact ⟨u,[],rfl,hu,rfl,by simp [f_,ox],h_ _ _⟩
 case round=>
  obtain ⟨v,l,rfl,hv,rfl,H,hb⟩:=hrel
  have Ma:=zD H.out hu
  by_cases hlt:9<v
  ·have gJ:(9:Int)<(v:Int):=by omega
   obtain ⟨c,hc⟩:∃c:UInt8,UInt8.ofNat (48+v % 10)=c:=⟨_,rfl⟩
   have hcv:=uj wr (48+(v:Int) % 10)
   rw [show (48+(v:Int) % 10).toNat=48+v % 10 from by omega,hc] at hcv
   have H2:f_ (ox (v / 10) (c::l)=Lib.decDigits u):=by rw [f_,<-hc,xT _ _ hlt];exact H.out
   clear hc
   go_wp2
   go_roundw
   case rel=>exact ⟨v / 10,c::l,by go_num,by omega,by congr 1,H2,hb.alloc hb.size _⟩
   case measure=>simp [intOf];omega
  ·have gJ:¬(9:Int)<(v:Int):=by omega
   obtain ⟨c,hc⟩:∃c:UInt8,UInt8.ofNat (48+v)=c:=⟨_,rfl⟩
   have hcv:=uj wr (48+(v:Int))
   rw [show (48+(v:Int)).toNat=48+v from by omega,hc] at hcv
   have H2:f_ (c::l=Lib.decDigits u):=by rw [f_,<-hc,<-H.out,xU _ _ (by omega)]
   clear hc
   go_wp2
   go_ret
   exact ⟨by (rw [<-H2.out];congr 2),hb.alloc hb.size _⟩
theorem lp (n:Int) (w:J') (h0:0<=n) (h1:n<=1000000000):
 d_ p_ 113 #[.int .i64 n] w fun e w'=>e=.returned (.string ⟨(L_ n).toArray⟩)/\g_ w.heap.size w w':=by
 obtain ⟨u,rfl⟩:=Int.eq_ofNat_of_zero_le h0
 rw [show L_ (u:Int)=Lib.decDigits u by unfold L_;rw [if_neg (by omega),Int.toNat_natCast]]
 exact NQ u w (by omega)
def gL (w:J') (v:M') (n:Nat) (xs:List M'):Prop:=(∃a cap,v=.slice a n cap)/\(0<xs.length->∃g cap,v=.slice (some ⟨g,0,none⟩) n cap/\n<=cap/\∀j (_:j<xs.length),w.cell? ⟨g,j,none⟩=xs[j]?)
variable {w:J'} {B sz:Nat} {xs:List M'}
theorem Ed {e n:Nat} {v:M'} (h:w.ownsRow B e sz v n xs) (hs:0<xs.length->0<n):gL w v n xs:=by
 refine ⟨aE h,fun hl=> ?_⟩
 obtain ⟨g,cap,cur,hv,_,_,hc,_⟩:=cz h (hs hl)
 subst hv
 have hx:xs.length=n * sz:=h.1
 exact ⟨g,cap,rfl,hc,fun j hj=>h.cellAt j (by rw [<-hx];exact hj)⟩
variable {w':J'}
theorem gL.keep {v:M'} {n:Nat} (h:gL w v n xs) (hk:∀g,v.ownBlock=some g->w'.heap[g]?=w.heap[g]?):gL w' v n xs:=by
 refine ⟨h.1,fun hl=> ?_⟩
 obtain ⟨g,cap,hv,hc,hcell⟩:=h.2 hl
 exact ⟨g,cap,hv,hc,fun j hj=>(J_ (hk g (by rw [hv];rfl))).trans (hcell j hj)⟩
theorem Ad (rs:List Rec):(cj rs).length=rs.length * 7:=by
 unfold cj;induction rs with
 |nil=>rfl
 |cons r rs ih=>rw [List.flatMap_cons,K_,ih];simp [Rec.cells];omega
theorem pT (ws:List (Int × Int)):(ax ws).length=ws.length * 2:=by
 unfold ax;induction ws with
 |nil=>rfl
 |cons r rs ih=>rw [List.flatMap_cons,K_,ih];simp;omega
variable {rs:List Rec} {i:Nat}
theorem nH {v:M'} (h:gL w v rs.length (cj rs)) (hi:i<rs.length):∃g cap,v=.slice (some ⟨g,0,none⟩) rs.length cap/\rs.length<=cap/\(w.cell? ⟨g,i * 7,none⟩=some (.int .i64 (rs[i]).call)/\w.cell? ⟨g,i * 7+1,none⟩=some (.int .i64 (rs[i]).line)/\w.cell? ⟨g,i * 7+2,none⟩=some (.int .i64 (rs[i]).op)/\w.cell? ⟨g,i * 7+3,none⟩=some (.int .i64 (rs[i]).jy)/\w.cell? ⟨g,i * 7+4,none⟩=some (.int .i64 (rs[i]).heard)/\w.cell? ⟨g,i * 7+5,none⟩=some (.int .i64 (rs[i]).wI)/\w.cell? ⟨g,i * 7+6,none⟩=some (.string ⟨(rs[i]).fin.toArray⟩)):=by
 have hl:=Ad rs
 obtain ⟨g,cap,hv,hc,hcell⟩:=h.2 (by omega)
 have hx:∀k,k<7->w.cell? ⟨g,i * 7+k,none⟩=((rs[i]).cells)[k]?:=fun k hk=>(hcell _ (by omega)).trans (jr Rec.cells 7 (fun _=>rfl) rs i k hi hk)
 exact ⟨g,cap,hv,hc,hx 0 (by omega),hx 1 (by omega),hx 2 (by omega),hx 3 (by omega),hx 4 (by omega),hx 5 (by omega),hx 6 (by omega)⟩
variable {ws:List (Int × Int)}
theorem pR {v:M'} (h:gL w v ws.length (ax ws)) (hi:i<ws.length):∃g cap,v=.slice (some ⟨g,0,none⟩) ws.length cap/\ws.length<=cap/\(w.cell? ⟨g,i * 2,none⟩=some (.int .i64 (ws[i]).1)/\w.cell? ⟨g,i * 2+1,none⟩=some (.int .i64 (ws[i]).2)):=by
 have hl:=pT ws
 obtain ⟨g,cap,hv,hc,hcell⟩:=h.2 (by omega)
 have hx:∀k,k<2->w.cell? ⟨g,i * 2+k,none⟩=([ah .i64 (ws[i]).1,ah .i64 (ws[i]).2])[k]?:=fun k hk=>(hcell _ (by omega)).trans (jr (fun p:Int × Int=>[ah .i64 p.1,ah .i64 p.2]) 2 (fun _=>rfl) ws i k hi hk)
 exact ⟨g,cap,hv,hc,hx 0 (by omega),hx 1 (by omega)⟩
theorem Ak {q:Bs} (h:q≠eR):((⟨q.toArray⟩:ByteArray).toList==[111,112,101,110])=false:=by
 rw [<-(show (⟨#[111,112,101,110]⟩:ByteArray).toList=[111,112,101,110] from ByteArray.toList_eq ⟨#[111,112,101,110]⟩)]
 refine (Lib.bytes_beq_false_iff _ ⟨#[111,112,101,110]⟩).2 fun e=>h ?_
 have:=congrArg (fun b:ByteArray=>b.data.toList) e
 simpa [eR] using this
def qA (rs:List Rec) (c:Int):Int:=match dE rs c with|some i=>(i:Nat)|none=> -1
def kG (ws:List (Int × Int)) (c:Int):Int:=match ws.findIdx? (fun p=>decide (p.1=c)) with|some i=>(i:Nat)|none=> -1
variable {k:Nat}
theorem Ek {c:Int} (hk:k<rs.length) (h:(decide ((rs[k]).call=c)&&isOpen rs[k])=true) (hb:∀j (hj:j<k),(decide ((rs[j]'(by omega)).call=c)&&isOpen (rs[j]'(by omega)))=false):qA rs c=(k:Nat):=by
 have:dE rs c=some k:=by
  unfold dE
  rw [List.findIdx?_eq_some_iff_getElem]
  exact ⟨hk,h,fun j hj=>by simp only [hb j hj];simp⟩
 unfold qA;rw [this]
theorem El {c:Int} (hb:∀j (hj:j<rs.length),(decide ((rs[j]).call=c)&&isOpen rs[j])=false):qA rs c= -1:=by
 have:dE rs c=none:=by
  unfold dE
  rw [List.findIdx?_eq_none_iff]
  intro r hr
  obtain ⟨j,hj,rfl⟩:=List.mem_iff_getElem.1 hr
  exact hb j hj
 unfold qA;rw [this]
theorem E2 {c:Int} (hk:k<ws.length) (h:(ws[k]).1=c) (hb:∀j (hj:j<k),(ws[j]'(by omega)).1≠c):kG ws c=(k:Nat):=by
 have:ws.findIdx? (fun p=>decide (p.1=c))=some k:=by
  rw [List.findIdx?_eq_some_iff_getElem]
  exact ⟨hk,decide_eq_true h,fun j hj=>by simp [hb j hj]⟩
 unfold kG;rw [this]
theorem E3 {c:Int} (hb:∀j (hj:j<ws.length),(ws[j]).1≠c):kG ws c= -1:=by
 have:ws.findIdx? (fun p=>decide (p.1=c))=none:=by
  rw [List.findIdx?_eq_none_iff]
  intro r hr
  obtain ⟨j,hj,rfl⟩:=List.mem_iff_getElem.1 hr
  simp [hb j hj]
 unfold kG;rw [this]
theorem GV {o:Int} (hk:k<rs.length) (h:(decide ((rs[k]).op=o)&&isOpen rs[k])=true) (hb:∀j (hj:j<k),(decide ((rs[j]'(by omega)).op=o)&&isOpen (rs[j]'(by omega)))=false):ez rs o=(rs[k]).call:=by
 have:rs.find? (fun r=>decide (r.op=o)&&isOpen r)=some rs[k]:=by
  rw [List.find?_eq_some_iff_getElem]
  exact ⟨h,k,hk,rfl,fun j hj=>by rw [hb j hj];rfl⟩
 unfold ez;rw [this]
theorem GU {o:Int} (hb:∀j (hj:j<rs.length),(decide ((rs[j]).op=o)&&isOpen rs[j])=false):ez rs o=0:=by
 have:rs.find? (fun r=>decide (r.op=o)&&isOpen r)=none:=by
  rw [List.find?_eq_none]
  intro r hr
  obtain ⟨j,hj,rfl⟩:=List.mem_iff_getElem.1 hr
  rw [hb j hj];simp
 unfold ez;rw [this]
theorem nO {v:M'} (hr:gL w v rs.length (cj rs)) (hn:rs.length<=1000) (c:Int):
 d_ p_ 110 #[v,.int .i64 c] w fun e w'=>e=.returned (.int .i64 (qA rs c))/\w'=w:=by
 obtain ⟨a₁,pC,sn⟩:=hr.1
 subst sn
 have hR:=aa hr
 clear hr
 go_enter func110,ntmps110
 go_wp2
 go_loopw [5] (fun i wr=>∃k:Nat,k<=rs.length/\i=.int .i64 k/\f_ (∀j (hj:j<k) (Dy:j<rs.length),(decide ((rs[j]).call=c)&&isOpen rs[j])=false)/\w=wr) (fun i _=>rs.length - (intOf i).toNat)
 case atStart=>exact ⟨0,nz _,rfl,fun j hj=>by omega,rfl⟩
 case round=>
  obtain ⟨k,hk,rfl,hT,rfl⟩:=hrel
  by_cases hlt:k<rs.length
  ·have gJ:(k:Int)<(rs.length:Int):=by omega
   obtain ⟨g,cap,hv,lJ,z0,z1,z2,z3,z4,z5,z6⟩:=nH hR.out hlt
   injection hv with e1 e2 e3
   subst e1
   have dS:f_ ((decide ((rs[k]).call=c)&&isOpen rs[k])=true->qA rs c=((k:Nat):Int)):=fun h0=>Ek hlt h0 (fun j hj=>hT.out j hj (by omega))
   have eF:f_ ((decide ((rs[k]).call=c)&&isOpen rs[k])=false->∀j (hj:j<k+1) (Dy:j<rs.length),(decide ((rs[j]).call=c)&&isOpen rs[j])=false):=fun h0 j hj Dy=>by
    by_cases e:j=k
    ·subst e;exact h0
    ·exact hT.out j (by omega) Dy
   generalize rs[k]=r at z0 z1 z2 z3 z4 z5 z6 dS eF
   by_cases hc:r.call=c
   ·by_cases hf:r.fin=eR
    ·have h1:=dS.out (by simp [isOpen,hc,hf])
     rw [hf] at z6
     unfold eR at z6
     clear dS eF z1 z3 z4 z5
     go_wp2
     go_ret
     exact ⟨by first|rfl|(rw [h1];rfl),rfl⟩
    ·have h1:=aa (eF.out (by simp [isOpen,hf]))
     have hne:=Ak hf
     generalize r.fin.toArray=q at z6 hne
     clear dS eF z1 z3 z4 z5
     go_wp2
     go_roundw
     case rel=>first|exact ⟨k+1,by omega,by go_num,h1,trivial⟩|exact ⟨k+1,by omega,by go_num,aa (by simpa using h1.out)⟩|exact ⟨k+1,by omega,by go_num,aa (by simpa using h1.out),trivial⟩
     case measure=>simp [intOf];omega
   ·have h1:=aa (eF.out (by simp [hc]))
    clear dS eF z1 z3 z4 z5 z6
    go_wp2
    go_roundw
    case rel=>first|exact ⟨k+1,by omega,by go_num,h1,trivial⟩|exact ⟨k+1,by omega,by go_num,aa (by simpa using h1.out)⟩|exact ⟨k+1,by omega,by go_num,aa (by simpa using h1.out),trivial⟩
    case measure=>simp [intOf];omega
  ·have h1:=El (rs:=rs) fun j hj=>hT.out j (by omega) hj
   go_wp2
   go_ret
   exact ⟨by first|rfl|(rw [h1];rfl),rfl⟩
theorem uB {v:M'} (hr:gL w v rs.length (cj rs)) (hn:rs.length<=1000) (c:Int):
 d_ p_ 114 #[v,.int .i64 c] w fun e w'=>e=.returned (.int .i64 (ez rs c))/\w'=w:=by
 obtain ⟨a₁,pC,sn⟩:=hr.1
 subst sn
 have hR:=aa hr
 clear hr
 go_enter func114,ntmps114
 go_wp2
 go_loopw [5] (fun i wr=>∃k:Nat,k<=rs.length/\i=.int .i64 k/\f_ (∀j (hj:j<k) (Dy:j<rs.length),(decide ((rs[j]).op=c)&&isOpen rs[j])=false)/\w=wr) (fun i _=>rs.length - (intOf i).toNat)
 case atStart=>exact ⟨0,nz _,rfl,fun j hj=>by omega,rfl⟩
 case round=>
  obtain ⟨k,hk,rfl,hT,rfl⟩:=hrel
  by_cases hlt:k<rs.length
  ·have gJ:(k:Int)<(rs.length:Int):=by omega
   obtain ⟨g,cap,hv,lJ,z0,z1,z2,z3,z4,z5,z6⟩:=nH hR.out hlt
   injection hv with e1 e2 e3
   subst e1
   have dS:f_ ((decide ((rs[k]).op=c)&&isOpen rs[k])=true->ez rs c=(rs[k]).call):=fun h0=>GV hlt h0 (fun j hj=>hT.out j hj (by omega))
   have eF:f_ ((decide ((rs[k]).op=c)&&isOpen rs[k])=false->∀j (hj:j<k+1) (Dy:j<rs.length),(decide ((rs[j]).op=c)&&isOpen rs[j])=false):=fun h0 j hj Dy=>by
    by_cases e:j=k
    ·subst e;exact h0
    ·exact hT.out j (by omega) Dy
   generalize rs[k]=r at z0 z1 z2 z3 z4 z5 z6 dS eF
   by_cases hc:r.op=c
   ·by_cases hf:r.fin=eR
    ·have h1:=dS.out (by simp [isOpen,hc,hf])
     rw [hf] at z6
     unfold eR at z6
     clear dS eF z1 z3 z4 z5
     go_wp2
     go_ret
     exact ⟨by first|rfl|(rw [h1];rfl),rfl⟩
    ·have h1:=aa (eF.out (by simp [isOpen,hf]))
     have hne:=Ak hf
     generalize r.fin.toArray=q at z6 hne
     clear dS eF z1 z3 z4 z5
     go_wp2
     go_roundw
     case rel=>first|exact ⟨k+1,by omega,by go_num,h1,trivial⟩|exact ⟨k+1,by omega,by go_num,aa (by simpa using h1.out)⟩|exact ⟨k+1,by omega,by go_num,aa (by simpa using h1.out),trivial⟩
     case measure=>simp [intOf];omega
   ·have h1:=aa (eF.out (by simp [hc]))
    clear dS eF z1 z3 z4 z5 z6
    go_wp2
    go_roundw
    case rel=>first|exact ⟨k+1,by omega,by go_num,h1,trivial⟩|exact ⟨k+1,by omega,by go_num,aa (by simpa using h1.out)⟩|exact ⟨k+1,by omega,by go_num,aa (by simpa using h1.out),trivial⟩
    case measure=>simp [intOf];omega
  ·have h1:=GU (rs:=rs) fun j hj=>hT.out j (by omega) hj
   go_wp2
   go_ret
   exact ⟨by first|rfl|(rw [h1];rfl),rfl⟩
theorem xl {v:M'} (hr:gL w v ws.length (ax ws)) (hn:ws.length<=1000) (c:Int):
 d_ p_ 111 #[v,.int .i64 c] w fun e w'=>e=.returned (.int .i64 (kG ws c))/\w'=w:=by
 obtain ⟨a₁,pC,sn⟩:=hr.1
 subst sn
 have hR:=aa hr
 clear hr
 go_enter func111,ntmps111
 go_wp2
 go_loopw [5] (fun i wr=>∃k:Nat,k<=ws.length/\i=.int .i64 k/\f_ (∀j (hj:j<k) (Dy:j<ws.length),(ws[j]).1≠c)/\w=wr) (fun i _=>ws.length - (intOf i).toNat)
 case atStart=>exact ⟨0,nz _,rfl,fun j hj=>by omega,rfl⟩
 case round=>
  obtain ⟨k,hk,rfl,hT,rfl⟩:=hrel
  by_cases hlt:k<ws.length
  ·have gJ:(k:Int)<(ws.length:Int):=by omega
   obtain ⟨g,cap,hv,lJ,z0,z1⟩:=pR hR.out hlt
   injection hv with e1 e2 e3
   subst e1
   have dS:f_ ((ws[k]).1=c->kG ws c=(k:Nat)):=fun h0=>E2 hlt h0 (fun j hj=>hT.out j hj (by omega))
   have eF:f_ ((ws[k]).1≠c->∀j (hj:j<k+1) (Dy:j<ws.length),(ws[j]).1≠c):=fun h0 j hj Dy=>by
    by_cases e:j=k
    ·subst e;exact h0
    ·exact hT.out j (by omega) Dy
   generalize ws[k]=r at z0 z1 dS eF
   by_cases hc:r.1=c
   ·have h1:=dS.out hc
    clear dS eF z1
    go_wp2
    go_ret
    exact ⟨by first|rfl|(rw [h1];rfl),rfl⟩
   ·have h1:=aa (eF.out hc)
    clear dS eF z1
    go_wp2
    go_roundw
    case rel=>first|exact ⟨k+1,by omega,by go_num,h1,trivial⟩|exact ⟨k+1,by omega,by go_num,aa (by simpa using h1.out)⟩|exact ⟨k+1,by omega,by go_num,aa (by simpa using h1.out),trivial⟩
    case measure=>simp [intOf];omega
  ·have h1:=E3 (ws:=ws) fun j hj=>hT.out j (by omega) hj
   go_wp2
   go_ret
   exact ⟨by first|rfl|(rw [h1];rfl),rfl⟩
theorem pX:(Tryz.prog.info? 114).map (fun i=>(i.zero,i.size,i.bytes))=some (some (.agg #[.int .i64 0,.int .i64 0]),2,16):=by kernel_rfl
def Low (w:J') (v:M'):Prop:=∀g,v.ownBlock=some g->g<w.heap.size
theorem gL.below {v:M'} {n:Nat} (h:gL w v n xs) (hl:Low w v) (hb:g_ w.heap.size w w'):gL w' v n xs:=h.keep fun g hg=>hb.block g (hl g hg)
theorem CB {c:Int} (hk:k<ws.length):aJ (ws.take (k+1)) c=aJ (ws.take k) c++(if (ws[k]).1=c then [] else [ws[k]]):=by
 unfold aJ
 rw [sC hk,List.filter_append]
 congr 1
 by_cases h:(ws[k]).1=c<;>simp [h]
theorem gE (a b:List (Int × Int)):ax (a++b)=ax a++ax b:=by simp [ax]
theorem jR {v:M'} (hr:gL w v ws.length (ax ws)) (hl:Low w v) (hn:ws.length<=1000) (c:Int):
 d_ p_ 115 #[v,.int .i64 c] w fun e w'=>∃u,e=.returned u/\w'.ownsRow w.heap.size 114 2 u (aJ ws c).length (ax (aJ ws c))/\g_ w.heap.size w w'/\∃g,u.ownBlock=some g:=by
 obtain ⟨a₁,pC,sn⟩:=hr.1
 subst sn
 have hR:=aa hr
 have hL:=aa hl
 clear hr hl
 have e0:f_ ((w.alloc (.cells #[] 114)).ownsRow w.heap.size 114 2 (.slice (some ⟨w.heap.size,0,none⟩) 0 0) 0 []):=World.ownsRow_lit w #[] 0 (C_ _) (by decide) (by simp)
 have b0:f_ (g_ w.heap.size w (w.alloc (.cells #[] 114))):=(h_ _ _).alloc (C_ _) _
 go_enter func115,ntmps115
 go_wp2
 obtain ⟨i0,qJ,tX,rm,uF⟩:=info_parts pX
 go_loopw [5,6] (fun u i wr=>∃k:Nat,k<=ws.length/\i=.int .i64 k/\f_ (wr.ownsRow w.heap.size 114 2 u (aJ (ws.take k) c).length (ax (aJ (ws.take k) c))/\g_ w.heap.size w wr)/\f_ (∃g,u.ownBlock=some g)) (fun _ i _=>ws.length - (intOf i).toNat)
 case atStart=>exact ⟨0,nz _,rfl,⟨e0.out,b0.out⟩,aa ⟨_,rfl⟩⟩
 case round=>
  clear e0 b0
  obtain ⟨k,hk,rfl,hT,hG⟩:=hrel
  by_cases hlt:k<ws.length
  ·have gJ:(k:Int)<(ws.length:Int):=by omega
   obtain ⟨g,cap,hv,lJ,z0,z1⟩:=pR (hR.out.below hL.out hT.out.2) hlt
   injection hv with e1 e2 e3
   subst e1 e3
   have AZ:f_ (aJ (ws.take (k+1)) c=aJ (ws.take k) c++(if (ws[k]).1=c then [] else [ws[k]])):=CB hlt
   have yK:f_ ((aJ (ws.take k) c).length<=k):=D_ (jQ _ _) (List.length_take_le _ _)
   generalize ws[k]=r at z0 z1 AZ
   by_cases hc:r.1=c
   ·have h1:f_ (aJ (ws.take (k+1)) c=aJ (ws.take k) c):=by rw [f_,AZ.out,if_pos hc,List.append_nil]
    clear AZ z1
    go_wp2
    go_roundw
    case rel=>exact ⟨k+1,by omega,by go_num,by rw [h1.out];exact hT,hG⟩
    case measure=>simp [intOf];omega
   ·have h1:f_ (aJ (ws.take (k+1)) c=aJ (ws.take k) c++[r]):=by rw [f_,AZ.out,if_neg hc]
    have ub:=aa hT.out.2.size
    clear AZ
    go_wp2_with (at_builtin;refine wpList_append_lies _ rfl (.tmp 21) (.tmp 26) 61 rfl w.heap.size 114 i0 _ 2 16 Tryz.underlying61 qJ tX rm uF rfl (by decide) _ _ _ rfl (hT.out.1.alloc _) ⟨wr.heap.size,0,none⟩ 1 1 [.int .i64 r.1,.int .i64 r.2] rfl rfl (fY wr _ _ rfl) ?c1 (by omega) ?c3 ?c4 ?c5 _ rfl ?_)
    case c1=>exact ⟨rfl,rfl⟩
    case c3=>have:=yK.out;unfold maxLen;omega
    case c4=>have:=yK.out;omega
    case c5=>have:=ub.out;omega
    intro gg mW w6 jl kh iP mR
    have EU:f_ (w6.ownsRow w.heap.size 114 2 (.slice (some ⟨gg,0,none⟩) ((aJ (ws.take k) c).length+1) mW) (aJ (ws.take (k+1)) c).length (ax (aJ (ws.take (k+1)) c))/\g_ w.heap.size w w6):=by
     refine ⟨?_,(hT.out.2.alloc ub.out _).grown kh (by have:=ub.out;rw [B_];omega) fun g e=>(hT.out.1.lt g e).1⟩
     rw [h1.out,K_,gE];exact jl
    clear jl kh iP mR hT
    go_wp2_with fail
    go_roundw
    case rel=>exact ⟨k+1,by omega,by go_num,EU,aa ⟨_,rfl⟩⟩
    case measure=>simp [intOf];omega
  ·have h1:=hT.out
   rw [List.take_of_length_le (by omega)] at h1
   replace h1:=aa h1
   clear hT
   go_wp2
   go_ret
   exact ⟨_,rfl,h1.out.1,h1.out.2,hG.out⟩
def jD (L O P ck:Int) (vr vw vb vl:M'):M':=.agg #[.int .i64 L,.int .i64 O,.int .i64 P,.int .i64 ck,vr,vw,vb,vl]
def gi (L O P ck:Int) (vr vw vb vl:M'):Array M':=#[.int .i64 L,.int .i64 O,.int .i64 P,.int .i64 ck,vr,vw,vb,vl]
def kQ (rs:List Rec) (j:Nat) (l:Int):Bool:=(rs.take j).any fun r=>decide (r.line=l)&&isOpen r
variable {j:Nat}
theorem DX {l:Int} (hj:j<rs.length):kQ rs (j+1) l=(kQ rs j l||(decide ((rs[j]).line=l)&&isOpen rs[j])):=by
 unfold kQ;rw [sC hj,List.any_append];simp
theorem GQ {l:Int}:kQ rs rs.length l=lM rs l:=by unfold kQ lM;rw [List.take_length]
theorem xM (k:Nat) (rs:List Rec):AD (k+1) rs=AD k rs++(if lM rs ((k+1:Nat):Int)=true then [] else [((k+1:Nat):Int)]):=by
 unfold AD
 rw [List.range_succ,List.map_append,List.filter_append]
 congr 1
 by_cases h:lM rs ((k+1:Nat):Int)=true
 ·rw [if_pos h];simp only [S_,List.map_nil,List.filter_cons,h];rfl
 ·rw [if_neg h];simp only [Bool.not_eq_true] at h;simp only [S_,List.map_nil,List.filter_cons,h];rfl
theorem mV (k:Nat) (rs:List Rec):(AD k rs).length<=k:=by
 unfold AD
 exact D_ (List.length_filter_le _ _) (by simp)
theorem gG {B':Nat} {e n:Nat} {v:M'} (h:w.ownsRow B e sz v n xs) (hb:B'<=B):w.ownsRow B' e sz v n xs:=
 ⟨h.1,h.2.imp id fun ⟨g,cap,cur,h1,h2,h3⟩=>⟨g,cap,cur,h1,D_ hb h2,h3⟩⟩
variable {nl:Nat} {O P:Int} {vr vb vl:M'}
theorem rf {ck:Int} {vw:M'} (hr:gL w vr rs.length (cj rs)) (hl:Low w vr) (hn:rs.length<=1000) (rp:nl<=1000):
 d_ p_ 43 #[jD (nl:Nat) O P ck vr vw vb vl] w fun e w'=>∃u,e=.returned u/\w'.ownsRow w.heap.size 3 1 u (AD nl rs).length ((AD nl rs).map (ah .i64))/\g_ w.heap.size w w':=by
 obtain ⟨a₁,pC,sn⟩:=hr.1
 subst sn
 obtain ⟨w1,cf⟩:∃w1,w.alloc (.cells (gi (nl:Nat) O P ck (.slice a₁ rs.length pC) vw vb vl) 63)=w1:=⟨_,rfl⟩
 have lr:f_ (w1.heap.size=w.heap.size+1):=by rw [<-cf];exact B_ ..
 have c0:w1.cell? ⟨w.heap.size,0,none⟩=some (.int .i64 (nl:Nat)):=by rw [<-cf];exact bJ rfl
 have c4:w1.cell? ⟨w.heap.size,4,none⟩=some (.slice a₁ rs.length pC):=by rw [<-cf];exact bJ rfl
 have eo:g_ w.heap.size w w1:=by rw [<-cf];exact (h_ _ _).alloc (C_ _) _
 have hR:=aa (hr.below hl eo)
 have hL:f_ (Low w1 (.slice a₁ rs.length pC)):=fun g hg=>by have:=hl g hg;have:=lr.out;omega
 have eo:=aa eo
 clear hr hl
 have e0:f_ ((w1.alloc (.cells #[] 3)).ownsRow w1.heap.size 3 1 (.slice (some ⟨w1.heap.size,0,none⟩) 0 0) 0 []):=World.ownsRow_lit w1 #[] 0 (C_ _) (by decide) (by simp)
 have b0:f_ (g_ w1.heap.size w1 (w1.alloc (.cells #[] 3))):=(h_ _ _).alloc (C_ _) _
 unfold gi at cf
 unfold jD
 go_enter func43,ntmps43
 go_wp2_with fail
 obtain ⟨i0,qJ,tX,rm,uF⟩:=info_parts CF
 clear cf
 go_loopw [3,4] (fun u i wr=>∃k:Nat,k<=nl/\i=.int .i64 ((k+1:Nat):Int)/\f_ (wr.ownsRow w1.heap.size 3 1 u (AD k rs).length ((AD k rs).map (ah .i64))/\g_ w1.heap.size w1 wr)) (fun _ i _=>nl+1 - (intOf i).toNat)
 case atStart=>exact ⟨0,nz _,rfl,e0.out,b0.out⟩
 case round=>
  clear e0 b0
  obtain ⟨k,hk,rfl,hT⟩:=hrel
  have d0:wr.cell? ⟨w.heap.size,0,none⟩=some (.int .i64 (nl:Nat)):=(hT.out.2.cell (p:=⟨w.heap.size,0,none⟩) (by have:=lr.out;show w.heap.size<_;omega)).trans c0
  have d4:wr.cell? ⟨w.heap.size,4,none⟩=some (.slice a₁ rs.length pC):=(hT.out.2.cell (p:=⟨w.heap.size,4,none⟩) (by have:=lr.out;show w.heap.size<_;omega)).trans c4
  have SG:=aa (hR.out.below hL.out hT.out.2)
  by_cases hlt:k<nl
  ·have gJ:((k+1:Nat):Int)<=(nl:Int):=by omega
   obtain ⟨l,hle⟩:∃l:Int,l=((k+1:Nat):Int):=⟨_,rfl⟩
   have Nk:=aa hle
   have Mb:1<=l:=by omega
   have Iv:l<=1001:=by omega
   rw [<-hle] at gJ ⊢
   have AZ:f_ (AD (k+1) rs=AD k rs++(if lM rs l=true then [] else [l])):=by rw [hle];exact xM k rs
   have yK:f_ ((AD k rs).length<=k):=mV k rs
   clear hle
   go_wp2_with fail
   go_loopw [5,6] (fun u i wr'=>∃j:Nat,j<=rs.length/\i=.int .i64 (j:Nat)/\u=.bool (kQ rs j l)/\wr=wr') (fun _ i _=>rs.length - (intOf i).toNat)
   case atStart=>exact ⟨0,nz _,rfl,rfl,rfl⟩
   case round=>
    obtain ⟨j,hj,rfl,rfl,rfl⟩:=hrel
    by_cases hjt:j<rs.length
    ·have aEb:(j:Int)<(rs.length:Int):=by omega
     obtain ⟨g,cap,hv,lJ,z0,z1,z2,z3,z4,z5,z6⟩:=nH SG.out hjt
     injection hv with e1 e2 e3
     subst e1 e3
     have AY:f_ (kQ rs (j+1) l=(kQ rs j l||(decide ((rs[j]).line=l)&&isOpen rs[j]))):=DX hjt
     generalize rs[j]=r at z0 z1 z2 z3 z4 z5 z6 AY
     clear z0 z2 z3 z4 z5
     cases hu:kQ rs j l
     ·by_cases hc:r.line=l
      ·by_cases hf:r.fin=eR
       ·rw [hf] at z6
        unfold eR at z6
        have h1:f_ (kQ rs (j+1) l=true):=by rw [f_,AY.out,hu];simp [hc,isOpen,hf]
        clear AY hu
        go_wp2_with fail
        go_roundw
        case rel=>exact ⟨j+1,by omega,by go_num,by rw [h1.out],trivial⟩
        case measure=>simp [intOf];omega
       ·have h1:f_ (kQ rs (j+1) l=false):=by rw [f_,AY.out,hu];simp [hc,isOpen,hf]
        have hne:=Ak hf
        generalize r.fin.toArray=q at z6 hne
        clear AY hu
        go_wp2_with fail
        go_roundw
        case rel=>exact ⟨j+1,by omega,by go_num,by rw [h1.out],trivial⟩
        case measure=>simp [intOf];omega
      ·have h1:f_ (kQ rs (j+1) l=false):=by rw [f_,AY.out,hu];simp [hc]
       clear AY hu z6
       go_wp2_with fail
       go_roundw
       case rel=>exact ⟨j+1,by omega,by go_num,by rw [h1.out],trivial⟩
       case measure=>simp [intOf];omega
     ·have h1:f_ (kQ rs (j+1) l=true):=by rw [f_,AY.out,hu];rfl
      clear AY hu z1 z6
      go_wp2_with fail
      go_roundw
      case rel=>exact ⟨j+1,by omega,by go_num,by rw [h1.out],trivial⟩
      case measure=>simp [intOf];omega
    ·obtain rfl:j=rs.length:=by omega
     have ub:=aa hT.out.2.size
     have FT:f_ (kQ rs rs.length l=lM rs l):=GQ
     cases hu:kQ rs rs.length l
     ·have h1:f_ (AD (k+1) rs=AD k rs++[l]):=by rw [f_,AZ.out,<-FT.out,hu];rfl
      clear hu FT AZ
      go_wp2_with (at_builtin;refine wpList_append_lies _ rfl (.tmp 44) (.tmp 46) 26 rfl w1.heap.size 3 i0 _ 1 8 Tryz.underlying26 qJ tX rm uF rfl (by decide) _ _ _ rfl (hT.out.1.alloc _) ⟨wr.heap.size,0,none⟩ 1 1 [.int .i64 l] rfl rfl (fY wr _ _ rfl) ?c1 (by omega) ?c3 ?c4 ?c5 _ rfl ?_)
      case c1=>first|rfl|(intro u hu;simp at hu;subst hu;rfl)
      case c3=>have:=yK.out;unfold maxLen;omega
      case c4=>have:=yK.out;omega
      case c5=>have:=ub.out;(try rw [B_]);omega
      intro gg mW w6 jl kh iP mR
      have EU:f_ (w6.ownsRow w1.heap.size 3 1 (.slice (some ⟨gg,0,none⟩) ((AD k rs).length+1) mW) (AD (k+1) rs).length ((AD (k+1) rs).map (ah .i64))/\g_ w1.heap.size w1 w6):=by
       refine ⟨?_,(hT.out.2.alloc ub.out _).grown kh (by have:=ub.out;rw [B_];omega) fun g e=>(hT.out.1.lt g e).1⟩
       rw [h1.out,K_,List.map_append];exact jl
      clear jl kh iP mR hT
      go_wp2_with fail
      go_roundw
      case rel=>exact ⟨k+1,by omega,by have:=Nk.out;go_num,EU⟩
      case measure=>have:=Nk.out;simp [intOf];omega
     ·have h1:f_ (AD (k+1) rs=AD k rs):=by rw [f_,AZ.out,<-FT.out,hu];simp
      clear hu FT AZ
      go_wp2_with fail
      go_roundw
      case rel=>exact ⟨k+1,by omega,by have:=Nk.out;go_num,by rw [h1.out];exact hT⟩
      case measure=>have:=Nk.out;simp [intOf];omega
  ·have h1:f_ (wr.ownsRow w.heap.size 3 1 u3 (AD nl rs).length ((AD nl rs).map (ah .i64))/\g_ w.heap.size w wr):=by
    have:=hT.out
    rw [show k=nl by omega] at this
    exact ⟨gG this.1 (by have:=lr.out;omega),eo.out.trans (this.2.mono (by have:=lr.out;omega))⟩
   have Nr:¬((k+1:Nat):Int)<=(nl:Int):=by omega
   clear hT
   go_wp2
   go_ret
   exact ⟨_,rfl,h1.out⟩
noncomputable def Gw:Code:=f112.body.getD .skip
noncomputable def V4:Code:=ai 3 Gw
variable {ga:Nat}
theorem MH {cap:Nat} (h:gL w (.slice (some ⟨ga,0,none⟩) ws.length cap) ws.length (ax ws)) (k:Nat):∀j u,(ax (ws.take k))[j]?=some u->w.cell? ((⟨ga,0,none⟩:Addr).add j)=some u:=by
 intro j u hj
 rw [jb,List.getElem?_take] at hj
 split at hj
 ·have hlt:=(List.getElem?_eq_some_iff.1 hj).1
  obtain ⟨g,c,hv,_,hc⟩:=h.2 (by omega)
  injection hv with e1 e2 e3
  injection e1 with e1
  injection e1 with e1
  subst e1
  have:=(hc j hlt).trans hj
  by_cases h0:j=0
  ·subst h0;simpa [Addr.add] using this
  ·simpa [Addr.add,h0] using this
 ·cases hj
variable {ad:Addr}
theorem MI {cap:Nat} (h:gL w (.slice (some ⟨ga,0,none⟩) ws.length cap) ws.length (ax ws)) (lJ:ws.length<=cap) (had:ad=if cap=k then ⟨ga,0,none⟩ else ⟨ga,k * 2,none⟩):∀j u,(ax (ws.drop k))[j]?=some u->w.cell? (ad.add j)=some u:=by
 intro j u hj
 rw [kU,List.getElem?_drop] at hj
 have hlt:=(List.getElem?_eq_some_iff.1 hj).1
 have yd:=pT ws
 rw [if_neg (by omega)] at had
 subst had
 obtain ⟨g,c,hv,_,hc⟩:=h.2 (by omega)
 injection hv with e1 e2 e3
 injection e1 with e1
 injection e1 with e1
 subst e1
 have:=(hc (k * 2+j) hlt).trans hj
 by_cases h0:j=0
 ·subst h0;simpa [Addr.add] using this
 ·simpa [Addr.add,h0] using this
structure Qx where
 u1:M'
 u2:M'
 u3:M'
 u4:M'
 g:Nat
structure Gz (w1:J') (ws:List (Int × Int)) (k:Nat) (y:Int × Int) (D:Array Bool) (q:Qx) (w:J'):Prop where
 vP:g_ w1.heap.size w1 w
 ord:(D.getD 4 false=true->D.getD 0 false=true)/\(D.getD 7 false=true->D.getD 4 false=true/\D.getD 6 false=true)/\(D.getD 11 false=true->D.getD 7 false=true)/\(D.getD 12 false=true->D.getD 11 false=true)
 r0:D.getD 0 false=true->D.getD 4 false=false->w.ownsRow w1.heap.size 114 2 q.u1 0 []
 r4:D.getD 4 false=true->D.getD 7 false=false->w.ownsRow w1.heap.size 114 2 q.u2 k (ax (ws.take k))
 r7:D.getD 7 false=true->D.getD 11 false=false->w.ownsRow w1.heap.size 114 2 q.u3 (k+1) (ax (ws.take k++[y]))
 Tp:D.getD 11 false=true->w.ownsRow w1.heap.size 114 2 q.u4 (ws.length+1) (ax (gY ws k y))
 n6:D.getD 6 false=true->D.getD 7 false=false->w.heap[q.g]?=some (.cells #[.int .i64 y.1,.int .i64 y.2] 114 (0,0))
 a0:D.getD 0 false=true->D.getD 6 false=true->D.getD 4 false=false->q.u1.ownBlock≠some q.g
 a4:D.getD 4 false=true->D.getD 6 false=true->D.getD 7 false=false->q.u2.ownBlock≠some q.g
variable {w1:J'}
theorem Gz.same {y:Int × Int} {D D':Array Bool} {q:Qx} (h:Gz w1 ws k y D q w) (qn:∀j,j≠i->D'.getD j false=D.getD j false) (hi:i∉[0,4,6,7,11,12]):Gz w1 ws k y D' q w:=by
 have e:∀j,j∈[0,4,6,7,11,12]->D'.getD j false=D.getD j false:=fun j hj=>qn j (fun e=>hi (e▸hj))
 have e0:=e 0 (by decide)
 have e4:=e 4 (by decide)
 have e6:=e 6 (by decide)
 have e7:=e 7 (by decide)
 have jZ:=e 11 (by decide)
 have xR:=e 12 (by decide)
 exact ⟨h.vP,by rw [e0,e4,e6,e7,jZ,xR];exact h.ord,by rw [e0,e4];exact h.r0,by rw [e4,e7];exact h.r4,by rw [e7,jZ];exact h.r7,by rw [jZ];exact h.Tp,by rw [e6,e7];exact h.n6,by rw [e0,e6,e4];exact h.a0,by rw [e4,e6,e7];exact h.a4⟩
variable {g:Nat}
theorem br {o o':Obj} (h:w.heap[g]?=some o):(w.alloc o').heap[g]?=some o:=by
 exact ((World.grownBy_alloc w o' none).block g (cI h) (by simp)).trans h
def ny (ws:List (Int × Int)) (k:Nat) (y:Int × Int) (ga cap:Nat) (ad:Addr) (x:Qx):Nat->M'
 |0=>x.u1
 |1=>.slice (some ⟨ga,0,none⟩) ws.length cap
 |2=>.int .i64 (k:Nat)
 |3=>.slice (some ⟨ga,0,none⟩) k cap
 |4=>x.u2
 |5=>.agg #[.int .i64 y.1,.int .i64 y.2]
 |6=>.slice (some ⟨x.g,0,none⟩) 1 1
 |7=>x.u3
 |8=>.slice (some ⟨ga,0,none⟩) ws.length cap
 |9=>.int .i64 (k:Nat)
 |10=>.slice (some ad) (ws.length - k) (cap - k)
 |11=>x.u4
 |12=>x.u4
 |_=>undef
theorem Jl (cf:w1=w) {cap bx:Nat} {y:Int × Int} (hr:gL w1 (.slice (some ⟨ga,0,none⟩) ws.length cap) ws.length (ax ws)) (hl:Low w1 (.slice (some ⟨ga,0,none⟩) ws.length cap)) (hn:ws.length<=1000) (hk:k<=ws.length) (had:ad=if cap=k then ⟨ga,0,none⟩ else ⟨ga,k * 2,none⟩) (lJ:ws.length<=cap) (BJ:cap<=maxLen) (lF:bx<w1.heap.size) (BL:w1.cell? ⟨bx,0,none⟩=some (.int .i64 y.1)) (eo:w1.cell? ⟨bx,1,none⟩=some (.int .i64 y.2)) {z1 z2 z4 z6 z7 z8 z9 dB cZ z12 de dn dm dk dj dA dz z20 z21 z22 z23 z24 z25 z26 dD z28 dC dM z31 dQ dK:M'} {Q:Exit->Act->J'->Prop}
 (hQ:∀w' (v Yp Yo Yn Ym Yl Yk Yj Yi Yh Yg Sn Sm:M'),w'.ownsRow w1.heap.size 114 2 v (ws.length+1) (ax (gY ws k y))->g_ w1.heap.size w1 w'->Q .normal ⟨#[.slice (some ⟨ga,0,none⟩) ws.length cap,z1,z2,.pointer (some ⟨bx,0,none⟩),v,.int .i64 (k:Nat),z6,z7,z8,z9,dB,cZ,z12,de,dn,dm,dk,dj,dA,dz,z20,z21,Yp,Yo,Yn,Ym,Yl,Yk,Yj,Yi,Yh,Yg,Sn,Sm],[]⟩ w'):
 Code.wp p_ V4 Q ⟨#[.slice (some ⟨ga,0,none⟩) ws.length cap,z1,z2,.pointer (some ⟨bx,0,none⟩),z4,.int .i64 (k:Nat),z6,z7,z8,z9,dB,cZ,z12,de,dn,dm,dk,dj,dA,dz,z20,z21,z22,z23,z24,z25,z26,dD,z28,dC,dM,z31,dQ,dK],[]⟩ w:=by
 subst cf
 have hR:=aa hr
 have hL:=aa hl
 clear hr hl
 unfold maxLen at BJ
 refine wpN 34 fun bs cn oq HI=> ?_
 simp only [V4,ai,Gw,f112,Option.getD_some]
 refine mA (by kernel_rfl) (kP:=⟨undef,undef,undef,undef,0⟩) (base:=bs) (by rw [oq];kernel_rfl) (by kernel_rfl) (fun x=>ny ws k y ga cap ad x) (Gz w1 ws k y)
  (by
   exact ⟨(h_ _ _).drew,⟨E5,E5,E5,E5⟩,E5,E5,E5,E5,E5,E5,E5⟩) ?_ ?_
 ·intro i o' ho D x w a hD bc hw bH aD K k
  have hlt:i<13:=(cI ho)
  have Gl:=bT oq
  have qi:=qI hD hlt
  have qn:=qN D i
  have aA:=aa k
  clear k
  obtain rfl|rfl|rfl|rfl|rfl|rfl|rfl|rfl|rfl|rfl|rfl|rfl|rfl:i=0\/i=1\/i=2\/i=3\/i=4\/i=5\/i=6\/i=7\/i=8\/i=9\/i=10\/i=11\/i=12:=by omega
  all_goals obtain rfl:=so ho rfl
  ·clear aD ho
   have e0:=qi
   have e4:=qn 4 (by decide)
   have e6:=qn 6 (by decide)
   have e7:=qn 7 (by decide)
   have jZ:=qn 11 (by decide)
   have xR:=qn 12 (by decide)
   refine bj (v:=.slice (some ⟨w.heap.size,0,none⟩) 0 0) (w':=w.alloc (.cells #[] 114)) rfl rfl ?_ ?_
   ·clear bc hw aA bH qi qn e0 e4 e6 e7 jZ xR
    go_simp
   ·refine aA.out ⟨.slice (some ⟨w.heap.size,0,none⟩) 0 0,x.u2,x.u3,x.u4,x.g⟩ _ (fun j hj=>by
     have hne:j≠0:=fun e=>by rw [e,bH] at hj;cases hj
     unfold ny;split<;>first|rfl|exact absurd rfl hne) ⟨hw.vP.alloc hw.vP.size _, ?_, ?_, ?_, ?_, ?_, ?_, ?_, ?_⟩
    ·rw [e0,e4,e6,e7,jZ,xR];exact ⟨fun _=>rfl,hw.ord.2⟩
    ·intro _ _;exact World.ownsRow_lit w #[] 0 hw.vP.size (by decide) (by simp)
    ·rw [e4,e7];exact fun h1 h2=>(hw.r4 h1 h2).alloc _
    ·rw [e7,jZ];exact fun h1 h2=>(hw.r7 h1 h2).alloc _
    ·rw [jZ];exact fun h1=>(hw.Tp h1).alloc _
    ·rw [e6,e7];exact fun h1 h2=>br (hw.n6 h1 h2)
    ·rw [e6,e4];intro _ h2 h3 e
     have h7:=ff h3 fun hx=>(hw.ord.2.1 hx).1
     have:=(Array.getElem?_eq_some_iff.1 (hw.n6 h2 h7)).1
     have e':w.heap.size=x.g:=by simpa [Value.ownBlock] using e
     omega
    ·rw [e4,e6,e7];exact hw.a4
  ·obtain ⟨v0,w0⟩:=bc.oo (.slice (some ⟨ga,0,none⟩) ws.length cap) 0
   exact iY rfl (.slice (some ⟨ga,0,none⟩) ws.length cap) (aA.out x w (fun _ _=>rfl) (hw.same qn (by decide)))
  ·obtain ⟨v5,w5⟩:=bc.oo (.int .i64 (k:Nat)) 5
   exact iY rfl (.int .i64 (k:Nat)) (aA.out x w (fun _ _=>rfl) (hw.same qn (by decide)))
  ·have d1:=dq aD 1
   have d2:=dq aD 2
   obtain ⟨v23,XY⟩:=bc.vv (.slice (some ⟨ga,0,none⟩) ws.length cap) 23 1 d1
   obtain ⟨v24,w24⟩:=bc.vv (.int .i64 (k:Nat)) 24 2 d2
   have hkc:¬cap<k:=by omega
   have Zn:k<=cap:=by omega
   exact iY rfl (.slice (some ⟨ga,0,none⟩) k cap) (aA.out x w (fun _ _=>rfl) (hw.same qn (by decide)))
  ·have d0:=dq aD 0
   have d3:=dq aD 3
   obtain ⟨v22,w22⟩:=bc.vv (x.u1) 22 0 d0
   obtain ⟨v25,w25⟩:=bc.vv (.slice (some ⟨ga,0,none⟩) k cap) 25 3 d3
   clear aD ho
   have e0:=qn 0 (by decide)
   have e4:=qi
   have e6:=qn 6 (by decide)
   have e7:=qn 7 (by decide)
   have jZ:=qn 11 (by decide)
   have xR:=qn 12 (by decide)
   have hr:=hR.out.below hL.out hw.vP
   obtain ⟨i9,A5,nR,nQ,nP⟩:=info_parts pX
   obtain ⟨v',w',hrun,yI,pZ,_,iP⟩:=run_append_own_at (P:=p_) w w1.heap.size 61 61 114 i9 _ 2 16 Tryz.underlying61 A5 nR nQ nP rfl (by decide) x.u1 0 [] (hw.r0 d0 bH) ⟨ga,0,none⟩ k cap (ax (ws.take k)) (by rw [pT,Q_,Nat.min_eq_left hk]) (MH hr k) (vY _) (by unfold maxLen;omega) (by omega) hw.vP.size
   rw [Nat.zero_add,List.nil_append] at yI
   refine bj (v:=v') (w':=w') rfl rfl ?_ ?_
   ·clear bc hw aA bH qi qn e0 e4 e6 e7 jZ xR
    simp only [List.getElem_toArray,List.getElem_cons_succ,List.getElem_cons_zero,execOp,resolve,invoke,builtin,Sem.run_bind,Sem.run_pure,Result.andThen_ok,List.map_toArray,S_,List.map_nil,v22,v25,hrun]
   ·have bR:∀g,x.u1.ownBlock=some g->w1.heap.size<=g:=fun g e=>((hw.r0 d0 bH).lt g e).1
    have h7:=ff bH fun hx=>(hw.ord.2.1 hx).1
    have WS:=ff h7 fun hx=>hw.ord.2.2.1 hx
    refine aA.out ⟨x.u1,v',x.u3,x.u4,x.g⟩ _ (fun j hj=>by
     have hne:j≠4:=fun e=>by rw [e,bH] at hj;cases hj
     unfold ny;split<;>first|rfl|exact absurd rfl hne) ⟨hw.vP.grown pZ hw.vP.size bR, ?_, ?_, ?_, ?_, ?_, ?_, ?_, ?_⟩
    ·rw [e0,e4,e6,e7,jZ,xR];exact ⟨fun _=>d0,fun h=>⟨rfl,(hw.ord.2.1 h).2⟩,hw.ord.2.2⟩
    ·rw [e4];exact fun _ h=>by cases h
    ·intro _ _;exact yI
    ·rw [e7,h7];exact fun h=>by cases h
    ·rw [jZ,WS];exact fun h=>by cases h
    ·rw [e6,e7];exact fun h1 h2=>by
      rw [pZ.block x.g (Array.getElem?_eq_some_iff.1 (hw.n6 h1 h2)).1 (fun e=>hw.a0 d0 h1 bH e.symm)];exact hw.n6 h1 h2
    ·rw [e4];exact fun _ _ h=>by cases h
    ·rw [e6,e7];intro _ h2 h3 e
     have hlt:=(Array.getElem?_eq_some_iff.1 (hw.n6 h2 h3)).1
     rcases iP with h|h
     ·exact hw.a0 d0 h2 bH (h▸e)
     ·rw [h] at e;have:w.heap.size=x.g:=M_ e;omega
  ·obtain ⟨v3,w3⟩:=bc.oo (.pointer (some ⟨bx,0,none⟩)) 3
   have BL:w.cell? ⟨bx,0,none⟩=some (.int .i64 y.1):=(hw.vP.cell (p:=⟨bx,0,none⟩) lF).trans BL
   have eo:w.cell? ⟨bx,1,none⟩=some (.int .i64 y.2):=(hw.vP.cell (p:=⟨bx,1,none⟩) lF).trans eo
   exact iY rfl (.agg #[.int .i64 y.1,.int .i64 y.2]) (aA.out x w (fun _ _=>rfl) (hw.same qn (by decide)))
  ·have d5:=dq aD 5
   obtain ⟨v27,w27⟩:=bc.vv (.agg #[.int .i64 y.1,.int .i64 y.2]) 27 5 d5
   clear aD ho
   have e0:=qn 0 (by decide)
   have e4:=qn 4 (by decide)
   have e6:=qi
   have e7:=qn 7 (by decide)
   have jZ:=qn 11 (by decide)
   have xR:=qn 12 (by decide)
   have h7:=ff bH fun hx=>(hw.ord.2.1 hx).2
   refine bj (v:=.slice (some ⟨w.heap.size,0,none⟩) 1 1) (w':=w.alloc (.cells #[.int .i64 y.1,.int .i64 y.2] 114)) rfl rfl ?_ ?_
   ·clear bc hw aA bH qi qn e0 e4 e6 e7 jZ xR
    go_simp
   ·refine aA.out ⟨x.u1,x.u2,x.u3,x.u4,w.heap.size⟩ _ (fun j hj=>by
     have hne:j≠6:=fun e=>by rw [e,bH] at hj;cases hj
     unfold ny;split<;>first|rfl|exact absurd rfl hne) ⟨hw.vP.alloc hw.vP.size _, ?_, ?_, ?_, ?_, ?_, ?_, ?_, ?_⟩
    ·rw [e0,e4,e6,e7,jZ,xR];exact ⟨hw.ord.1,fun h=>⟨(hw.ord.2.1 h).1,rfl⟩,hw.ord.2.2⟩
    ·rw [e0,e4];exact fun h1 h2=>(hw.r0 h1 h2).alloc _
    ·rw [e4,e7];exact fun h1 h2=>(hw.r4 h1 h2).alloc _
    ·rw [e7,jZ];exact fun h1 h2=>(hw.r7 h1 h2).alloc _
    ·rw [jZ];exact fun h1=>(hw.Tp h1).alloc _
    ·intro _ _;exact Z' w _
    ·rw [e0,e4];exact fun h1 _ h3 e=>Nat.lt_irrefl _ ((hw.r0 h1 h3).lt _ e).2
    ·rw [e4,e7];exact fun h1 _ h3 e=>Nat.lt_irrefl _ ((hw.r4 h1 h3).lt _ e).2
  ·have d4:=dq aD 4
   have d6:=dq aD 6
   obtain ⟨v26,w26⟩:=bc.vv (x.u2) 26 4 d4
   obtain ⟨v28,w28⟩:=bc.vv (.slice (some ⟨x.g,0,none⟩) 1 1) 28 6 d6
   clear aD ho
   have e0:=qn 0 (by decide)
   have e4:=qn 4 (by decide)
   have e6:=qn 6 (by decide)
   have e7:=qi
   have jZ:=qn 11 (by decide)
   have xR:=qn 12 (by decide)
   have WS:=ff bH fun hx=>hw.ord.2.2.1 hx
   obtain ⟨i9,A5,nR,nQ,nP⟩:=info_parts pX
   obtain ⟨v',w',hrun,yI,pZ,_,iP⟩:=run_append_own_at (P:=p_) w w1.heap.size 61 61 114 i9 _ 2 16 Tryz.underlying61 A5 nR nQ nP rfl (by decide) x.u2 k _ (hw.r4 d4 bH) ⟨x.g,0,none⟩ 1 1 [.int .i64 y.1,.int .i64 y.2] rfl (World.news_of_block (w:=w) (hw.n6 d6 bH)) (by intro u hu;simp at hu;rcases hu with rfl|rfl<;>rfl) (by unfold maxLen;omega) (by omega) hw.vP.size
   refine bj (v:=v') (w':=w') rfl rfl ?_ ?_
   ·clear bc hw aA bH qi qn e0 e4 e6 e7 jZ xR
    simp only [List.getElem_toArray,List.getElem_cons_succ,List.getElem_cons_zero,execOp,resolve,invoke,builtin,Sem.run_bind,Sem.run_pure,Result.andThen_ok,List.map_toArray,S_,List.map_nil,v26,v28,hrun]
   ·have bR:∀g,x.u2.ownBlock=some g->w1.heap.size<=g:=fun g e=>((hw.r4 d4 bH).lt g e).1
    refine aA.out ⟨x.u1,x.u2,v',x.u4,x.g⟩ _ (fun j hj=>by
     have hne:j≠7:=fun e=>by rw [e,bH] at hj;cases hj
     unfold ny;split<;>first|rfl|exact absurd rfl hne) ⟨hw.vP.grown pZ hw.vP.size bR, ?_, ?_, ?_, ?_, ?_, ?_, ?_, ?_⟩
    ·rw [e0,e4,e6,e7,jZ,xR];exact ⟨hw.ord.1,fun _=>⟨d4,d6⟩,fun _=>rfl,hw.ord.2.2.2⟩
    ·rw [e4,d4];exact fun _ h=>by cases h
    ·rw [e7];exact fun _ h=>by cases h
    ·intro _ _;rw [gE];exact yI
    ·rw [jZ,WS];exact fun h=>by cases h
    ·rw [e7];exact fun _ h=>by cases h
    ·rw [e4,d4];exact fun _ _ h=>by cases h
    ·rw [e7];exact fun _ _ h=>by cases h
  ·obtain ⟨v0,w0⟩:=bc.oo (.slice (some ⟨ga,0,none⟩) ws.length cap) 0
   exact iY rfl (.slice (some ⟨ga,0,none⟩) ws.length cap) (aA.out x w (fun _ _=>rfl) (hw.same qn (by decide)))
  ·obtain ⟨v5,w5⟩:=bc.oo (.int .i64 (k:Nat)) 5
   exact iY rfl (.int .i64 (k:Nat)) (aA.out x w (fun _ _=>rfl) (hw.same qn (by decide)))
  ·have d8:=dq aD 8
   have d9:=dq aD 9
   obtain ⟨v30,w30⟩:=bc.vv (.slice (some ⟨ga,0,none⟩) ws.length cap) 30 8 d8
   obtain ⟨v31,w31⟩:=bc.vv (.int .i64 (k:Nat)) 31 9 d9
   clear aD ho
   have hkc:¬cap<k:=by omega
   have Zn:k<=cap:=by omega
   refine bj (v:=.slice (some ad) (ws.length - k) (cap - k)) (w':=w) rfl rfl ?_ (aA.out x w (fun _ _=>rfl) (hw.same qn (by decide)))
   clear bc hw aA bH qi qn
   rw [had]
   go_simp
   split<;>rfl
  ·have d7:=dq aD 7
   have d10:=dq aD 10
   obtain ⟨v29,w29⟩:=bc.vv (x.u3) 29 7 d7
   obtain ⟨v32,w32⟩:=bc.vv (.slice (some ad) (ws.length - k) (cap - k)) 32 10 d10
   clear aD ho
   have e0:=qn 0 (by decide)
   have e4:=qn 4 (by decide)
   have e6:=qn 6 (by decide)
   have e7:=qn 7 (by decide)
   have jZ:=qi
   have xR:=qn 12 (by decide)
   have h12:=ff bH fun hx=>hw.ord.2.2.2 hx
   have hr:=hR.out.below hL.out hw.vP
   have d4:=(hw.ord.2.1 d7).1
   obtain ⟨i9,A5,nR,nQ,nP⟩:=info_parts pX
   obtain ⟨v',w',hrun,yI,pZ,_,iP⟩:=run_append_own_at (P:=p_) w w1.heap.size 61 61 114 i9 _ 2 16 Tryz.underlying61 A5 nR nQ nP rfl (by decide) x.u3 (k+1) _ (hw.r7 d7 bH) ad (ws.length - k) (cap - k) (ax (ws.drop k)) (by rw [pT,List.length_drop]) (MI hr lJ had) (vY _) (by unfold maxLen;omega) (by omega) hw.vP.size
   refine bj (v:=v') (w':=w') rfl rfl ?_ ?_
   ·clear bc hw aA bH qi qn e0 e4 e6 e7 jZ xR
    simp only [List.getElem_toArray,List.getElem_cons_succ,List.getElem_cons_zero,execOp,resolve,invoke,builtin,Sem.run_bind,Sem.run_pure,Result.andThen_ok,List.map_toArray,S_,List.map_nil,v29,v32,hrun]
   ·have bR:∀g,x.u3.ownBlock=some g->w1.heap.size<=g:=fun g e=>((hw.r7 d7 bH).lt g e).1
    refine aA.out ⟨x.u1,x.u2,x.u3,v',x.g⟩ _ (fun j hj=>by
     have hne:j≠11:=fun e=>by rw [e,bH] at hj;cases hj
     unfold ny;split<;>first|rfl|exact absurd rfl hne|(rw [h12] at hj;cases hj)) ⟨hw.vP.grown pZ hw.vP.size bR, ?_, ?_, ?_, ?_, ?_, ?_, ?_, ?_⟩
    ·rw [e0,e4,e6,e7,jZ,xR];exact ⟨hw.ord.1,hw.ord.2.1,fun _=>d7,fun _=>rfl⟩
    ·rw [e4,d4];exact fun _ h=>by cases h
    ·rw [e7,d7];exact fun _ h=>by cases h
    ·rw [jZ];exact fun _ h=>by cases h
    ·intro _
     have e1:k+1+(ws.length - k)=ws.length+1:=by omega
     rw [e1,<-gE] at yI
     exact yI
    ·rw [e7,d7];exact fun _ h=>by cases h
    ·rw [e4,d4];exact fun _ _ h=>by cases h
    ·rw [e7,d7];exact fun _ _ h=>by cases h
  ·have d11:=dq aD 11
   obtain ⟨v33,w33⟩:=bc.vv (x.u4) 33 11 d11
   clear aD ho
   have e0:=qn 0 (by decide)
   have e4:=qn 4 (by decide)
   have e6:=qn 6 (by decide)
   have e7:=qn 7 (by decide)
   have jZ:=qn 11 (by decide)
   have xR:=qi
   refine bj (v:=x.u4) (w':=w) rfl rfl ?_ (aA.out x w (fun _ _=>rfl) ⟨hw.vP,by rw [e0,e4,e6,e7,jZ,xR];exact ⟨hw.ord.1,hw.ord.2.1,hw.ord.2.2.1,fun _=>d11⟩,by rw [e0,e4];exact hw.r0,by rw [e4,e7];exact hw.r4,by rw [e7,jZ];exact hw.r7,by rw [jZ];exact hw.Tp,by rw [e6,e7];exact hw.n6,by rw [e0,e6,e4];exact hw.a0,by rw [e4,e6,e7];exact hw.a4⟩)
   clear bc hw aA bH qi qn e0 e4 e6 e7 jZ xR
   go_simp
 ·intro D x w hd hw
  have:=hQ w x.u4 (x.u1) (.slice (some ⟨ga,0,none⟩) ws.length cap) (.int .i64 (k:Nat)) (.slice (some ⟨ga,0,none⟩) k cap) (x.u2) (.agg #[.int .i64 y.1,.int .i64 y.2]) (.slice (some ⟨x.g,0,none⟩) 1 1) (x.u3) (.slice (some ⟨ga,0,none⟩) ws.length cap) (.int .i64 (k:Nat)) (.slice (some ad) (ws.length - k) (cap - k)) (x.u4) (hw.Tp (hd 11 (by decide))) hw.vP
  generalize bc:slotsOf _ bs (ny ws k y ga cap ad x)=sl
  have eS:sl=#[.slice (some ⟨ga,0,none⟩) ws.length cap,z1,z2,.pointer (some ⟨bx,0,none⟩),x.u4,.int .i64 (k:Nat),z6,z7,z8,z9,dB,cZ,z12,de,dn,dm,dk,dj,dA,dz,z20,z21,x.u1,.slice (some ⟨ga,0,none⟩) ws.length cap,.int .i64 (k:Nat),.slice (some ⟨ga,0,none⟩) k cap,x.u2,.agg #[.int .i64 y.1,.int .i64 y.2],.slice (some ⟨x.g,0,none⟩) 1 1,x.u3,.slice (some ⟨ga,0,none⟩) ws.length cap,.int .i64 (k:Nat),.slice (some ad) (ws.length - k) (cap - k),x.u4]:=by rw [<-bc,<-cn];kernel_rfl
  rw [eS]
  exact this
theorem AK {cap:Nat} {y:Int × Int} (hr:gL w (.slice (some ⟨ga,0,none⟩) ws.length cap) ws.length (ax ws)) (hl:Low w (.slice (some ⟨ga,0,none⟩) ws.length cap)) (hn:ws.length<=1000) (lJ:ws.length<=cap) (BJ:cap<=maxLen):
 d_ p_ 112 #[.slice (some ⟨ga,0,none⟩) ws.length cap,.agg #[.int .i64 y.1,.int .i64 y.2]] w fun e w'=>∃u,e=.returned u/\w'.ownsRow w.heap.size 114 2 u (ws.length+1) (ax (gY ws (placeOf ws y.2) y))/\g_ w.heap.size w w':=by
 obtain ⟨w1,cf⟩:∃w1,w.alloc (.cells #[.int .i64 y.1,.int .i64 y.2] 114)=w1:=⟨_,rfl⟩
 have lr:f_ (w1.heap.size=w.heap.size+1):=by rw [<-cf];exact B_ ..
 have c0:w1.cell? ⟨w.heap.size,0,none⟩=some (.int .i64 y.1):=by rw [<-cf];exact bJ rfl
 have c1:w1.cell? ⟨w.heap.size,1,none⟩=some (.int .i64 y.2):=by rw [<-cf];exact bJ rfl
 have eo:g_ w.heap.size w w1:=by rw [<-cf];exact (h_ _ _).alloc (C_ _) _
 have hR:=aa (hr.below hl eo)
 have hL:f_ (Low w1 (.slice (some ⟨ga,0,none⟩) ws.length cap)):=fun g hg=>by have:=hl g hg;have:=lr.out;omega
 have eo:=aa eo
 have BJ:=aa BJ
 clear hr hl
 go_enter func112,ntmps112
 go_wp2_with fail
 clear cf
 go_loopw [5] (fun i wr=>∃k:Nat,k<=ws.length/\i=.int .i64 (k:Nat)/\f_ (∀j (hj:j<ws.length),j<k->y.2<=(ws[j]).2)/\f_ (wr.heap=w1.heap/\wr.os=w1.os/\wr.tape=w1.tape/\wr.output=w1.output)) (fun i _=>ws.length - (intOf i).toNat)
 case atStart=>exact ⟨0,nz _,rfl,fun j hj h=>by omega,rfl,rfl,rfl,rfl⟩
 case round=>
  obtain ⟨k,hk,rfl,hT,hW⟩:=hrel
  by_cases hlt:k<ws.length
  ·have gJ:(k:Int)<(ws.length:Int):=by omega
   have SG:f_ (gL wr (.slice (some ⟨ga,0,none⟩) ws.length cap) ws.length (ax ws)):=hR.out.keep fun g _=>by rw [hW.out.1]
   have d1:wr.cell? ⟨w.heap.size,1,none⟩=some (.int .i64 y.2):=(J_ (by rw [hW.out.1])).trans c1
   obtain ⟨g,cap',hv,Vh,z0,z1⟩:=pR SG.out hlt
   injection hv with e1 e2 e3
   injection e1 with e1
   injection e1 with e1
   subst e1 e3
   have dS:f_ (∀h:y.2<=(ws[k]).2,∀j (hj:j<ws.length),j<k+1->y.2<=(ws[j]).2):=fun h0 j hj Dy=>by
    by_cases e:j=k
    ·subst e;exact h0
    ·exact hT.out j hj (by omega)
   have yd:f_ (¬y.2<=(ws[k]).2->placeOf ws y.2=k):=fun h=>nI hk (fun j hj h=>hT.out j hj h) (fun _=>h)
   generalize ws[k]=p at z0 z1 dS yd
   by_cases hc:y.2<=p.2
   ·have h1:=aa (dS.out hc)
    clear dS yd z0
    go_wp2_with fail
    go_region
    go_wp2_with fail
    go_roundw
    case rel=>exact ⟨k+1,by omega,by go_num,h1,hW⟩
    case measure=>simp [intOf];omega
   ·have h1:=aa (yd.out hc)
    clear dS yd z0
    go_wp2_with fail
    go_region
    go_wp2_with fail
    have C8:wr.drew.heap=w1.heap:=hW.out.1
    have ZK:f_ (g_ w.heap.size w wr.drew):=⟨hW.out.2.1.trans eo.out.os,hW.out.2.2.1.trans eo.out.tape,hW.out.2.2.2.trans eo.out.output,by rw [C8];exact eo.out.size,fun g hg=>by rw [C8];exact eo.out.block g hg⟩
    refine Jl (w1:=wr.drew) rfl (ga:=ga) (cap:=cap) (bx:=w.heap.size) (y:=y) (k:=k) (SG.out.keep fun g _=>rfl) (fun g hg=>by rw [C8];exact hL.out g hg) hn hk rfl lJ BJ.out (by rw [C8,lr.out];omega) ((J_ (by rw [C8])).trans c0) ((J_ (by rw [C8])).trans c1) fun w2 v Yp Yo Yn Ym Yl Yk Yj Yi Yh Yg Sn Sm ho hb=> ?_
    have h2:f_ (w2.ownsRow w.heap.size 114 2 v (ws.length+1) (ax (gY ws (placeOf ws y.2) y))/\g_ w.heap.size w w2):=by
     rw [h1.out]
     exact ⟨gG ho (by rw [C8,lr.out];omega),ZK.out.trans (hb.mono (by rw [C8,lr.out];omega))⟩
    clear ho hb
    go_wp2_with fail
    go_ret
    exact ⟨_,rfl,h2.out⟩
  ·obtain rfl:k=ws.length:=by omega
   have h1:f_ (placeOf ws y.2=ws.length):=nI (C_ _) (fun j hj h=>hT.out j hj h) (fun h=>absurd h (Nat.lt_irrefl _))
   have SG:f_ (gL wr (.slice (some ⟨ga,0,none⟩) ws.length cap) ws.length (ax ws)):=hR.out.keep fun g _=>by rw [hW.out.1]
   go_wp2_with fail
   go_region
   go_wp2_with fail
   have C8:wr.drew.heap=w1.heap:=hW.out.1
   have ZK:f_ (g_ w.heap.size w wr.drew):=⟨hW.out.2.1.trans eo.out.os,hW.out.2.2.1.trans eo.out.tape,hW.out.2.2.2.trans eo.out.output,by rw [C8];exact eo.out.size,fun g hg=>by rw [C8];exact eo.out.block g hg⟩
   refine Jl (w1:=wr.drew) rfl (ga:=ga) (cap:=cap) (bx:=w.heap.size) (y:=y) (k:=ws.length) (SG.out.keep fun g _=>rfl) (fun g hg=>by rw [C8];exact hL.out g hg) hn (C_ _) rfl lJ BJ.out (by rw [C8,lr.out];omega) ((J_ (by rw [C8])).trans c0) ((J_ (by rw [C8])).trans c1) fun w2 v Yp Yo Yn Ym Yl Yk Yj Yi Yh Yg Sn Sm ho hb=> ?_
   have h2:f_ (w2.ownsRow w.heap.size 114 2 v (ws.length+1) (ax (gY ws (placeOf ws y.2) y))/\g_ w.heap.size w w2):=by
    rw [h1.out]
    exact ⟨gG ho (by rw [C8,lr.out];omega),ZK.out.trans (hb.mono (by rw [C8,lr.out];omega))⟩
   clear ho hb
   go_wp2_with fail
   go_ret
   exact ⟨_,rfl,h2.out⟩
structure bA (B:Nat) (m:Rm) (vr vw vb:M') (w:J'):Prop where
 big:B<=w.heap.size
 recs:w.ownsRow B 44 7 vr m.recs.length (cj m.recs)
 wait:w.ownsRow B 114 2 vw m.wait.length (ax m.wait)
 back:w.ownsRow B 114 2 vb m.back.length (ax m.back)
 apart:∀g,vw.ownBlock=some g->vb.ownBlock≠some g
 iQ:∃g,vw.ownBlock=some g
structure bg (vr vb:M') (w w':J'):Prop where
 os:w'.os=w.os
 tape:w'.tape=w.tape
 output:w'.output=w.output
 size:w.heap.size<=w'.heap.size
 block:∀g,g<w.heap.size->vr.ownBlock≠some g->vb.ownBlock≠some g->w'.heap[g]?=w.heap[g]?
theorem bg.refl (vr vb:M') (w:J'):bg vr vb w w:=⟨rfl,rfl,rfl,C_ _,fun _ _ _ _=>rfl⟩
variable {a:J'}
theorem bg.trans {b c:J'} (h:bg vr vb a b) (k:bg vr vb b c):bg vr vb a c:=⟨k.os.trans h.os,k.tape.trans h.tape,k.output.trans h.output,D_ h.size k.size,fun g hg h1 h2=>(k.block g (E_ hg h.size) h1 h2).trans (h.block g hg h1 h2)⟩
theorem bg.then {qb qS:M'} {b c:J'} (h:bg vr vb a b) (k:bg qb qS b c) (hr:∀g,g<a.heap.size->qb.ownBlock=some g->vr.ownBlock=some g) (hb:∀g,g<a.heap.size->qS.ownBlock=some g->vb.ownBlock=some g):bg vr vb a c:=
 ⟨k.os.trans h.os,k.tape.trans h.tape,k.output.trans h.output,D_ h.size k.size,fun g hg h1 h2=>(k.block g (E_ hg h.size) (fun e=>h1 (hr g hg e)) (fun e=>h2 (hb g hg e))).trans (h.block g hg h1 h2)⟩
theorem bg.bW (h:g_ w.heap.size w w'):bg vr vb w w':=⟨h.os,h.tape,h.output,h.size,fun g hg _ _=>h.block g hg⟩
theorem bg.drew:bg vr vb w w.drew:=⟨rfl,rfl,rfl,C_ _,fun _ _ _ _=>rfl⟩
theorem bg.alloc (o:Obj):bg vr vb w (w.alloc o):=.bW ((h_ _ _).alloc (C_ _) o)
theorem bg.te {n:Nat} {v:M'} (h:vr.ownBlock=some g):bg vr vb w (w.setCell ⟨g,n,none⟩ v):=⟨rfl,rfl,rfl,by simp,fun i _ h1 _=>a_ w ⟨g,n,none⟩ i v (fun e=>h1 (by rw [h,show i=g from e]))⟩
theorem bg.i7 {n:Nat} {v:M'} (h:bg vr vb a w) (hg:a.heap.size<=g):bg vr vb a (w.setCell ⟨g,n,none⟩ v):=⟨h.os,h.tape,h.output,by rw [o_];exact h.size,fun i hi h1 h2=>(a_ w ⟨g,n,none⟩ i v (fun e=>by have:i=g:=e;omega)).trans (h.block i hi h1 h2)⟩
theorem fE {e n:Nat} {v:M'} (h:w.ownsRow B e sz v n xs) (hk:∀g,v.ownBlock=some g->w'.heap[g]?=w.heap[g]?):w'.ownsRow B e sz v n xs:=by
 refine ⟨h.1, ?_⟩
 rcases h.2 with h0|⟨g,cap,cur,h1,h2,h3,h4⟩
 ·exact .inl h0
 ·exact .inr ⟨g,cap,cur,h1,h2,by rw [hk g (by rw [h1];rfl)];exact h3,h4⟩
variable {m:Rm}
theorem bA.keep {vw:M'} (R:bA B m vr vw vb w) (hs:w.heap.size<=w'.heap.size) (hk:∀g,B<=g->g<w.heap.size->w'.heap[g]?=w.heap[g]?):bA B m vr vw vb w':=
 ⟨D_ R.big hs,fE R.recs fun g e=>hk g (R.recs.lt g e).1 (R.recs.lt g e).2,fE R.wait fun g e=>hk g (R.wait.lt g e).1 (R.wait.lt g e).2,fE R.back fun g e=>hk g (R.back.lt g e).1 (R.back.lt g e).2,R.apart,R.iQ⟩
theorem bA.below {vw:M'} (R:bA B m vr vw vb w) (h:g_ w.heap.size w w'):bA B m vr vw vb w':=R.keep h.size fun g _ hg=>h.block g hg
theorem bA.alloc {vw:M'} (R:bA B m vr vw vb w) (o:Obj):bA B m vr vw vb (w.alloc o):=R.below ((h_ _ _).alloc (C_ _) o)
theorem bA.drew {vw:M'} (R:bA B m vr vw vb w):bA B m vr vw vb w.drew:=R.keep (C_ _) fun _ _ _=>rfl
variable {b:Nat}
theorem bA.cell {vw:M'} (R:bA B m vr vw vb w) {n:Nat} {v:M'} (h1:vr.ownBlock≠some b) (h2:vw.ownBlock≠some b) (h3:vb.ownBlock≠some b):bA B m vr vw vb (w.setCell ⟨b,n,none⟩ v):=
 ⟨by rw [o_];exact R.big,fE R.recs fun g e=>a_ w ⟨b,n,none⟩ g v (fun x=>h1 (by rw [e,show g=b from x])),fE R.wait fun g e=>a_ w ⟨b,n,none⟩ g v (fun x=>h2 (by rw [e,show g=b from x])),fE R.back fun g e=>a_ w ⟨b,n,none⟩ g v (fun x=>h3 (by rw [e,show g=b from x])),R.apart,R.iQ⟩
theorem bA.nN {vw:M'} (R:bA B m vr vw vb w):Low w vr/\Low w vw/\Low w vb:=⟨fun g e=>(R.recs.lt g e).2,fun g e=>(R.wait.lt g e).2,fun g e=>(R.back.lt g e).2⟩
theorem bA.set {vw:M'} (R:bA B m vr vw vb w) {cap:Nat} (hv:vr=.slice (some ⟨g,0,none⟩) m.recs.length cap) (hi:i<m.recs.length) (hk:k<7) {v:M'} {r:Rec} (hr:r.cells=(m.recs[i]).cells.set k v):
 bA B {m with recs:=m.recs.set i r} vr vw vb (w.setCell ⟨g,i * 7+k,none⟩ v):=by
 have ho:=R.recs
 have hg:vr.ownBlock=some g:=by rw [hv];rfl
 have n1:=gF R.wait ho (by decide)
 have n2:=gF R.back ho (by decide)
 have hs:∀j,j≠g->(w.setCell ⟨g,i * 7+k,none⟩ v).heap[j]?=w.heap[j]?:=fun j hj=>a_ w ⟨g,i * 7+k,none⟩ j v hj
 refine ⟨by rw [o_];exact R.big, ?_,fE R.wait fun j e=>hs j fun x=> ?_,fE R.back fun j e=>hs j fun x=> ?_,R.apart,R.iQ⟩
 ·rw [hv] at ho ⊢
  have:=(ho.stored (i * 7+k) v).1
  simpa [cj,sK Rec.cells 7 (fun _=>rfl) _ _ _ hi hk v r hr] using this
 ·subst x;rcases n1 with h|h
  ·rw [h] at e;cases e
  ·exact h (e.trans hg.symm)
 ·subst x;rcases n2 with h|h
  ·rw [h] at e;cases e
  ·exact h (e.trans hg.symm)
theorem bA.rd {vw:M'} (R:bA B m vr vw vb w):gL w vr m.recs.length (cj m.recs)/\gL w vw m.wait.length (ax m.wait)/\gL w vb m.back.length (ax m.back):=by
 have l1:=Ad m.recs
 have l2:=pT m.wait
 have l3:=pT m.back
 exact ⟨Ed R.recs (by omega),Ed R.wait (by omega),Ed R.back (by omega)⟩
theorem bA.waits {vw:M'} (R:bA B m vr vw vb w) (hb:g_ w.heap.size w w') {u:M'} (h:w'.ownsRow w.heap.size 114 2 u ws.length (ax ws)) (hu:∃g,u.ownBlock=some g):bA B {m with wait:=ws} vr u vb w':=by
 have R':=R.below hb
 exact ⟨R'.big,R'.recs,gG h R.big,R'.back,fun g e e2=>by have:=(h.lt g e).1;have:=(R.back.lt g e2).2;omega,hu⟩
theorem bA.Gx {vw:M'} (R:bA B m vr vw vb w) (hb:g_ w.heap.size w w') {u:M'} (h:w'.ownsRow w.heap.size 114 2 u ws.length (ax ws)):bA B {m with back:=ws} vr vw u w':=by
 have R':=R.below hb
 exact ⟨R'.big,R'.recs,R'.wait,gG h R.big,fun g e e2=>by have:=(h.lt g e2).1;have:=(R.wait.lt g e).2;omega,R'.iQ⟩
theorem sM {q:Bs} (hi:i<m.recs.length):jJ m i q={m with recs:=m.recs.set i {m.recs[i] with wI:=m.clock,fin:=q},wait:=aJ m.wait (m.recs[i]).call}:=by
 unfold jJ;rw [G_ hi]
def aEi (w:J') (b:Nat) (c:Array M'):Prop:=∃t,w.heap[b]?=some (.cells c t (0,0))
def ia:Array M':=#[.int .i64 0,.int .i64 0,.int .i64 0,.int .i64 0,.slice none 0 0,.slice none 0 0,.slice none 0 0,.slice none 0 0]
def b8 (w:J') (b:Nat) (v0 v1 v2 v3 v4 v5 v6 v7:M'):J':=(((((((w.setCell ⟨b,0,none⟩ v0).setCell ⟨b,1,none⟩ v1).setCell ⟨b,2,none⟩ v2).setCell ⟨b,3,none⟩ v3).setCell ⟨b,4,none⟩ v4).setCell ⟨b,5,none⟩ v5).setCell ⟨b,6,none⟩ v6).setCell ⟨b,7,none⟩ v7
theorem lB {o0 o1 o2 o3 o4 o5 o6 o7:M'} {t:TypeId} (h:w.heap[b]?=some (.cells #[o0,o1,o2,o3,o4,o5,o6,o7] t (0,0))) (v0 v1 v2 v3 v4 v5 v6 v7:M'):(b8 w b v0 v1 v2 v3 v4 v5 v6 v7).heap[b]?=some (.cells #[v0,v1,v2,v3,v4,v5,v6,v7] t (0,0)):=by
 have h0:=Go.heap_setCell_same w b 0 _ t v0 h
 simp at h0
 have h1:=Go.heap_setCell_same _ b 1 _ t v1 h0
 simp at h1
 have h2:=Go.heap_setCell_same _ b 2 _ t v2 h1
 simp at h2
 have h3:=Go.heap_setCell_same _ b 3 _ t v3 h2
 simp at h3
 have h4:=Go.heap_setCell_same _ b 4 _ t v4 h3
 simp at h4
 have h5:=Go.heap_setCell_same _ b 5 _ t v5 h4
 simp at h5
 have h6:=Go.heap_setCell_same _ b 6 _ t v6 h5
 simp at h6
 have h7:=Go.heap_setCell_same _ b 7 _ t v7 h6
 simp at h7
 exact h7
variable {v1 v2 v3 v4 v5 v6 v7:M'}
theorem kN {v0:M'} (h:j≠b):(b8 w b v0 v1 v2 v3 v4 v5 v6 v7).heap[j]?=w.heap[j]?:=by
 unfold b8
 iterate 8 rw [a_ _ ⟨b,_,none⟩ j _ h]
theorem aG {v0:M'} {t:TypeId} (h:w.heap[b]?=some (.cells #[v0,v1,v2,v3,v4,v5,v6,v7] t (0,0))):
 (w.cell? ⟨b,0,none⟩=some v0/\w.cell? ⟨b,1,none⟩=some v1/\w.cell? ⟨b,2,none⟩=some v2/\w.cell? ⟨b,3,none⟩=some v3/\w.cell? ⟨b,4,none⟩=some v4/\w.cell? ⟨b,5,none⟩=some v5/\w.cell? ⟨b,6,none⟩=some v6/\w.cell? ⟨b,7,none⟩=some v7)/\
 (w.frozen? ⟨b,0,none⟩=false/\w.frozen? ⟨b,1,none⟩=false/\w.frozen? ⟨b,2,none⟩=false/\w.frozen? ⟨b,3,none⟩=false/\w.frozen? ⟨b,4,none⟩=false/\w.frozen? ⟨b,5,none⟩=false/\w.frozen? ⟨b,6,none⟩=false/\w.frozen? ⟨b,7,none⟩=false):=
 ⟨⟨aB h,aB h,aB h,aB h,aB h,aB h,aB h,aB h⟩,bX h,bX h,bX h,bX h,bX h,bX h,bX h,bX h⟩
theorem bA.b8 {vw:M'} (R:bA B m vr vw vb w) {v0:M'} (h1:vr.ownBlock≠some b) (h2:vw.ownBlock≠some b) (h3:vb.ownBlock≠some b):bA B m vr vw vb (b8 w b v0 v1 v2 v3 v4 v5 v6 v7):=by
 unfold Of.b8
 exact (((((((R.cell h1 h2 h3).cell h1 h2 h3).cell h1 h2 h3).cell h1 h2 h3).cell h1 h2 h3).cell h1 h2 h3).cell h1 h2 h3).cell h1 h2 h3
theorem bg.b8 (h:bg vr vb a w) {v0:M'} (hg:a.heap.size<=b):bg vr vb a (b8 w b v0 v1 v2 v3 v4 v5 v6 v7):=by
 unfold Of.b8
 exact (((((((h.i7 hg).i7 hg).i7 hg).i7 hg).i7 hg).i7 hg).i7 hg).i7 hg
theorem EZ {c:Array M'} {t:TypeId} (h:w.heap[b]?=some (.cells c t (0,0))) (n:Nat):w.frozen? ⟨b,n,none⟩=false:=by
 unfold World.frozen?
 rw [show (⟨b,n,none⟩:Addr).block=b from rfl,h]
 simp
theorem xm {vw:M'} {L:Int} (R:bA B m vr vw vb w) (hi:i<m.recs.length) (hn:m.recs.length<=1000) (L9:m.wait.length<=1000) (mP:∃a n c,vl=.slice a n c) (q:Bs):
 d_ p_ 116 #[jD L O P m.clock vr vw vb vl,.int .i64 (i:Nat),.string ⟨q.toArray⟩] w fun e w'=>∃jA,e=.returned (jD L O P m.clock vr jA vb vl)/\bA B (jJ m i q) vr jA vb w'/\bg vr (.slice none 0 0) w w'/\(∀g,jA.ownBlock=some g->w.heap.size<=g):=by
 rw [sM hi]
 obtain ⟨al,bM,cl,rfl⟩:=mP
 obtain ⟨ab,cb,oK⟩:=aE R.back
 subst oK
 obtain ⟨g,cap,hv,lJ,z0,z1,z2,z3,z4,z5,z6⟩:=nH R.rd.1 hi
 have f5:w.frozen? ⟨g,i * 7+5,none⟩=false:=by have:=R.recs;rw [hv] at this;exact this.frozenAt _
 have f6:w.frozen? ⟨g,i * 7+6,none⟩=false:=by have:=R.recs;rw [hv] at this;exact this.frozenAt _
 have hgw:=R.nN.1 g (by rw [hv];rfl)
 obtain ⟨w1,cf⟩:∃w1,(w.alloc (.cells (gi L O P m.clock vr vw (.slice ab m.back.length cb) (.slice al bM cl)) 63)).alloc (.cells ia 63)=w1:=⟨_,rfl⟩
 have lr:f_ (w1.heap.size=w.heap.size+2):=by rw [f_,<-cf,B_,B_]
 have eo:g_ w.heap.size w w1:=by rw [<-cf];exact ((h_ _ _).alloc (C_ _) _).alloc (by rw [B_];exact Nat.le_succ _) _
 have DF:f_ (w1.heap[w.heap.size]?=some (.cells (gi L O P m.clock vr vw (.slice ab m.back.length cb) (.slice al bM cl)) 63 (0,0))):=by rw [f_,<-cf];exact br (Z' w _)
 have jx:f_ (w1.heap[w.heap.size+1]?=some (.cells ia 63 (0,0))):=by
  have:=Z' (w.alloc (.cells (gi L O P m.clock vr vw (.slice ab m.back.length cb) (.slice al bM cl)) 63)) (.cells ia 63)
  rw [B_,cf] at this
  exact this
 have R1:=R.below eo
 obtain ⟨g',cap',hv',Vh,y0,y1,y2,y3,y4,y5,y6⟩:=nH R1.rd.1 hi
 rw [hv] at hv'
 injection hv' with e1 e2 e3
 injection e1 with e1
 injection e1 with e1
 subst e1 e3
 have x5:w1.frozen? ⟨g,i * 7+5,none⟩=false:=by have:=R1.recs;rw [hv] at this;exact this.frozenAt _
 have x6:w1.frozen? ⟨g,i * 7+6,none⟩=false:=by have:=R1.recs;rw [hv] at this;exact this.frozenAt _
 have d3:w1.cell? ⟨w.heap.size,3,none⟩=some (.int .i64 m.clock):=by rw [aB DF.out];rfl
 have d4:w1.cell? ⟨w.heap.size,4,none⟩=some vr:=by rw [aB DF.out];rfl
 have d5:w1.cell? ⟨w.heap.size,5,none⟩=some vw:=by rw [aB DF.out];rfl
 have hne:w.heap.size≠g:=by omega
 have RA:=R1.set hv hi (k:=5) (by decide) (v:=.int .i64 m.clock) (r:={m.recs[i] with wI:=m.clock}) rfl
 have RB:=RA.set (i:=i) (g:=g) (cap:=cap) (by rw [hv];simp) (by simpa using hi) (k:=6) (by decide) (v:=.string ⟨q.toArray⟩) (r:={m.recs[i] with wI:=m.clock,fin:=q}) (by simp [Rec.cells])
 simp only [List.set_set] at RB
 have Nq:=aa hi
 have RB:=aa RB
 have Qs:=aa hv
 have jX:f_ (((m.recs[i]).call=(m.recs[i]).call)):=rfl
 have WQ:f_ (bg vr (.slice none 0 0) w ((w1.setCell ⟨g,i * 7+5,none⟩ (.int .i64 m.clock)).setCell ⟨g,i * 7+6,none⟩ (.string ⟨q.toArray⟩))):=(bg.bW eo).trans ((bg.te (by rw [hv];rfl)).trans (bg.te (by rw [hv];rfl)))
 generalize m.recs[i]=r at *
 have eo:=aa eo
 have Rq:=aa R
 have hnv:f_ (m.recs.length=m.recs.length):=rfl
 clear R RA R1 hv z0 z1 z2 z3 z4 z5 z6 f5 f6
 rw [Qs.out] at d4
 unfold gi ia at cf
 rw [Qs.out] at cf
 unfold jD
 rw [Qs.out]
 go_enter func116,ntmps116
 go_wp2_with fail
 have D4:((w1.setCell ⟨g,i * 7+5,none⟩ (.int .i64 m.clock)).setCell ⟨g,i * 7+6,none⟩ (.string ⟨q.toArray⟩)).cell? ⟨w.heap.size,4,none⟩=some (.slice (some ⟨g,0,none⟩) m.recs.length cap):=by rw [di _ _ (.inl (Ne.symm hne)),di _ _ (.inl (Ne.symm hne))];exact d4
 have D5:((w1.setCell ⟨g,i * 7+5,none⟩ (.int .i64 m.clock)).setCell ⟨g,i * 7+6,none⟩ (.string ⟨q.toArray⟩)).cell? ⟨w.heap.size,5,none⟩=some vw:=by rw [di _ _ (.inl (Ne.symm hne)),di _ _ (.inl (Ne.symm hne))];exact d5
 have Y0:((w1.setCell ⟨g,i * 7+5,none⟩ (.int .i64 m.clock)).setCell ⟨g,i * 7+6,none⟩ (.string ⟨q.toArray⟩)).cell? ⟨g,i * 7,none⟩=some (.int .i64 r.call):=by rw [di _ _ (.inr (by simp)),di _ _ (.inr (by simp))];exact y0
 have hH:f_ (∀b,b≠g->((w1.setCell ⟨g,i * 7+5,none⟩ (.int .i64 m.clock)).setCell ⟨g,i * 7+6,none⟩ (.string ⟨q.toArray⟩)).heap[b]?=w1.heap[b]?):=fun b hb=>(a_ _ ⟨g,i * 7+6,none⟩ b _ hb).trans (a_ _ ⟨g,i * 7+5,none⟩ b _ hb)
 have hS:f_ (((w1.setCell ⟨g,i * 7+5,none⟩ (.int .i64 m.clock)).setCell ⟨g,i * 7+6,none⟩ (.string ⟨q.toArray⟩)).heap.size=w.heap.size+2):=by rw [f_,o_,o_];exact lr.out
 generalize (w1.setCell ⟨g,i * 7+5,none⟩ (.int .i64 m.clock)).setCell ⟨g,i * 7+6,none⟩ (.string ⟨q.toArray⟩)=w3 at *
 clear y0 y1 y2 y3 y4 y5 y6 x5 x6 d3 d4 d5 cf
 have G':w3.frozen? ⟨w.heap.size,5,none⟩=false:=by
  rw [World.frozen?_of_block (w:=w1) (hH.out w.heap.size hne)]
  exact EZ DF.out 5
 obtain ⟨aw,cw,qG⟩:=aE RB.out.wait
 simp only at qG
 subst qG
 have sY:f_ (d_ p_ 115 #[.slice aw m.wait.length cw,.int .i64 r.call] w3.drew fun e w'=>∃u,e=.returned u/\w'.ownsRow w3.drew.heap.size 114 2 u (aJ m.wait r.call).length (ax (aJ m.wait r.call))/\g_ w3.drew.heap.size w3.drew w'/\∃g,u.ownBlock=some g):=jR (w:=w3.drew) RB.out.drew.rd.2.1 (fun g e=>RB.out.nN.2.1 g e) L9 r.call
 have Z0:w3.drew.cell? ⟨w.heap.size,4,none⟩=some (.slice (some ⟨g,0,none⟩) m.recs.length cap)/\w3.drew.cell? ⟨w.heap.size,5,none⟩=some (.slice aw m.wait.length cw)/\w3.drew.cell? ⟨g,i * 7,none⟩=some (.int .i64 r.call):=⟨D4,D5,Y0⟩
 have Vs:f_ (w3.drew.heap.size=w.heap.size+2):=hS.out
 have FL:f_ (∀b,b≠g->w3.drew.heap[b]?=w1.heap[b]?):=hH.out
 have RBd:f_ (bA B {m with recs:=m.recs.set i {r with wI:=m.clock,fin:=q}} vr (.slice aw m.wait.length cw) (.slice ab m.back.length cb) w3.drew):=RB.out.drew
 have EX:f_ (bg vr (.slice none 0 0) w w3.drew):=WQ.out.trans .drew
 have hfd:w3.drew.frozen? ⟨w.heap.size,5,none⟩=false:=G'
 clear D4 D5 Y0 G'
 obtain ⟨Z1,Z2,Z3⟩:=Z0
 go_still_tail 8,(by kernel_rfl)
 change wpList _ _ _ _ _ w3.drew
 generalize w3.drew=w4 at *
 have iI:f_ (∀w5,g_ w4.heap.size w4 w5->w5.heap[w.heap.size]?=some (.cells (gi L O P m.clock vr (.slice aw m.wait.length cw) (.slice ab m.back.length cb) (.slice al bM cl)) 63 (0,0))/\w5.heap[w.heap.size+1]?=some (.cells ia 63 (0,0))):=fun w5 qo=>⟨(qo.block _ (by rw [Vs.out];omega)).trans ((FL.out _ hne).trans DF.out),(qo.block _ (by rw [Vs.out];omega)).trans ((FL.out _ (by omega)).trans jx.out)⟩
 rw [Qs.out] at iI
 clear Z1 Z2 Z3 hfd
 go_wp2_with (go_at_call 115;(with_reducible refine sY.out.mono ?_);rintro e w5 ⟨u,rfl,Nd,qo,YP⟩;obtain ⟨a5,H8,hu5⟩:=aE Nd;subst hu5;obtain ⟨⟨a0,a1,a2,a3,a4,a6,a7,a8⟩,f0,f1,f2,f3,f4,f5,f6,f7⟩:=aG (iI.out w5 qo).1;obtain ⟨⟨b0,b1,b2,b3,b4,b5,b6,b7⟩,t0,t1,t2,t3,t4,t5,t6,t7⟩:=aG (iI.out w5 qo).2)
 clear a0 a1 a2 a3 a4 a6 a7 a8 f0 f1 f2 f3 f4 f5 f6 f7 b0 b1 b2 b3 b4 b5 b6 b7 t0 t1 t2 t3 t4 t5 t6 t7
 obtain ⟨AP,M0⟩:=iI.out w5 qo
 have R5:=RBd.out.waits qo Nd YP
 have lH:vr.ownBlock=some g:=by rw [Qs.out];rfl
 have YK:∀j,w.heap.size<=j->j<w.heap.size+2->vr.ownBlock≠some j/\(mN a5 (aJ m.wait r.call).length H8).ownBlock≠some j/\(mN ab m.back.length cb).ownBlock≠some j:=fun j h1 h2=>⟨fun e=>by have:=M_ (lH.symm.trans e);omega,fun e=>by have:=(Nd.lt j e).1;rw [Vs.out] at this;omega,fun e=>by have:=Rq.out.nN.2.2 j e;omega⟩
 have q0:=YK w.heap.size (C_ _) (by omega)
 have q1:=YK (w.heap.size+1) (Nat.le_succ _) (by omega)
 have R6:=R5.cell (b:=w.heap.size) (n:=5) (v:=.slice a5 (aJ m.wait r.call).length H8) q0.1 q0.2.1 q0.2.2
 have F6:bg vr (.slice none 0 0) w (w5.setCell ⟨w.heap.size,5,none⟩ (.slice a5 (aJ m.wait r.call).length H8)):=(EX.out.trans (bg.bW qo)).i7 (C_ _)
 have Qo:(w5.setCell ⟨w.heap.size,5,none⟩ (.slice a5 (aJ m.wait r.call).length H8)).heap[w.heap.size+1]?=some (.cells ia 63 (0,0)):=(a_ w5 ⟨w.heap.size,5,none⟩ _ _ (by show w.heap.size+1≠w.heap.size;omega)).trans M0
 have lG:f_ (∀j,(mN a5 (aJ m.wait r.call).length H8).ownBlock=some j->w.heap.size<=j):=fun j e=>by have:=(Nd.lt j e).1;rw [Vs.out] at this;omega
 have R7:=aa (R6.b8 (v0:=.int .i64 L) (v1:=.int .i64 O) (v2:=.int .i64 P) (v3:=.int .i64 m.clock) (v4:=.slice (some ⟨g,0,none⟩) m.recs.length cap) (v5:=.slice a5 (aJ m.wait r.call).length H8) (v6:=.slice ab m.back.length cb) (v7:=.slice al bM cl) q1.1 q1.2.1 q1.2.2)
 have F7:=aa (F6.b8 (b:=w.heap.size+1) (v0:=.int .i64 L) (v1:=.int .i64 O) (v2:=.int .i64 P) (v3:=.int .i64 m.clock) (v4:=.slice (some ⟨g,0,none⟩) m.recs.length cap) (v5:=.slice a5 (aJ m.wait r.call).length H8) (v6:=.slice ab m.back.length cb) (v7:=.slice al bM cl) (Nat.le_succ _))
 obtain ⟨⟨s0,s1,s2,s3,s4,s5,s6,s7⟩,_⟩:=aG (lB (show _=some (Obj.cells #[.int .i64 0,.int .i64 0,.int .i64 0,.int .i64 0,.slice none 0 0,.slice none 0 0,.slice none 0 0,.slice none 0 0] 63 (0,0)) from Qo) (.int .i64 L) (.int .i64 O) (.int .i64 P) (.int .i64 m.clock) (.slice (some ⟨g,0,none⟩) m.recs.length cap) (.slice a5 (aJ m.wait r.call).length H8) (.slice ab m.back.length cb) (.slice al bM cl))
 change bodyPost p_ f116 _ .ret _ (Of.b8 (w5.setCell ⟨w.heap.size,5,none⟩ (.slice a5 (aJ m.wait r.call).length H8)) (w.heap.size+1) (.int .i64 L) (.int .i64 O) (.int .i64 P) (.int .i64 m.clock) (.slice (some ⟨g,0,none⟩) m.recs.length cap) (.slice a5 (aJ m.wait r.call).length H8) (.slice ab m.back.length cb) (.slice al bM cl))
 generalize Of.b8 (w5.setCell ⟨w.heap.size,5,none⟩ (.slice a5 (aJ m.wait r.call).length H8)) (w.heap.size+1) (.int .i64 L) (.int .i64 O) (.int .i64 P) (.int .i64 m.clock) (.slice (some ⟨g,0,none⟩) m.recs.length cap) (.slice a5 (aJ m.wait r.call).length H8) (.slice ab m.back.length cb) (.slice al bM cl)=W at R7 F7 s0 s1 s2 s3 s4 s5 s6 s7 ⊢
 clear R5 R6 F6 Qo AP M0 q0 q1 YK Nd qo iI sY Vs FL RBd EX
 refine bodyPost_ret (v:=jD L O P m.clock (.slice (some ⟨g,0,none⟩) m.recs.length cap) (.slice a5 (aJ m.wait r.call).length H8) (.slice ab m.back.length cb) (.slice al bM cl)) (by simp [results,Tryz.results116,go_sem,jD,s0,s1,s2,s3,s4,s5,s6,s7]) rfl ?_
 exact ⟨_,rfl,by rw [<-Qs.out];exact R7.out,by rw [<-Qs.out];exact F7.out,lG.out⟩
end
end Go.aC.Of
