/-
  The office, plainly: hall and room stay together, whatever happens.
-/
import Derived.Below
import Derived.Test.YtnjkbffmmgckeaaGreatDoorPaa
import Derived.Test.YtnjkbffmmgckeaaGreatDoorPag
import Derived.Test.YtnjkbffmmgckeaaGreatDoorPar
set_option linter.all false
set_option maxRecDepth 100000
set_option maxHeartbeats 32000000
open Go renaming Value->M',Calls->d_
open Go.RowKit renaming Hid->f_,Below->g_
open Go.RowKit.Below renaming refl->h_
open Go.World renaming size_alloc->B_
open Nat renaming le_refl->C_,le_trans->D_
open List renaming getElem?_eq_getElem->G_,length_append->K_,map_cons->S_
open Go.Lib renaming itoa->L_
open Go.Proofs.Tryz renaming prog->p_
open Go.Proofs.Tryz
namespace Go.aC.Of
section
open Go
variable {ws:List (Int × Int)}
theorem nM {c:Int} {p:Int × Int}:p∈aJ ws c↔p∈ws/\p.1≠c:=by
 unfold aJ;rw [List.mem_filter];simp
theorem nK (h:(ws.map (·.1)).Nodup) (c:Int):((aJ ws c).map (·.1)).Nodup:=by
 unfold aJ;exact List.Nodup.sublist (List.Sublist.map _ List.filter_sublist) h
theorem jQ (ws:List (Int × Int)) (c:Int):(aJ ws c).length<=ws.length:=List.length_filter_le _ _
theorem rj {c:Int} (h:∀p,p∈ws->p.1≠c):aJ ws c=ws:=by
 unfold aJ;rw [List.filter_eq_self];intro p hp;exact decide_eq_true (h p hp)
theorem lT {p:Int × Int} (h:((p::ws).map (·.1)).Nodup):aJ (p::ws) p.1=ws:=by
 rw [S_,List.nodup_cons] at h
 have:aJ (p::ws) p.1=aJ ws p.1:=by unfold aJ;rw [List.filter_cons];simp
 rw [this]
 exact rj fun q hq e=>h.1 (List.mem_map.2 ⟨q,hq,e⟩)
theorem rk {p:Int × Int} {vs:List (Int × Int)} (h:((vs++p::ws).map (·.1)).Nodup):aJ (vs++p::ws) p.1=vs++ws:=by
 rw [List.map_append,List.nodup_append] at h
 obtain ⟨h1,h2,h3⟩:=h
 have:aJ (vs++p::ws) p.1=aJ vs p.1++aJ (p::ws) p.1:=by unfold aJ;rw [List.filter_append]
 rw [this,lT h2,rj fun q hq e=>h3 q.1 (List.mem_map.2 ⟨q,hq,rfl⟩) p.1 (by simp) e]
theorem sg:∀(ws:List (Int × Int)) (k:Nat) (c:Int),(ws.map (·.1)).Nodup->(ws.map (·.1))[k]?=some c->(ws.map (·.1)).eraseIdx k=(aJ ws c).map (·.1)
 |[],_,_,_,h=>by simp at h
 |p::ws,0,c,hn,h=>by
  have:p.1=c:=by simpa using h
  subst this
  rw [lT hn];simp
 |p::ws,k+1,c,hn,h=>by
  rw [S_,List.nodup_cons] at hn
  have h':(ws.map (·.1))[k]?=some c:=by simpa using h
  have hne:p.1≠c:=fun e=>hn.1 (e▸List.mem_iff_getElem?.2 ⟨k,h'⟩)
  have e:aJ (p::ws) c=p::aJ ws c:=by unfold aJ;rw [List.filter_cons];simp [hne]
  rw [e,S_,S_,List.eraseIdx_cons_succ,sg ws k c hn.2 h']
variable {i:Nat} {x:Int × Int}
theorem xj {p:Int × Int}:p∈gY ws i x↔p=x\/p∈ws:=by
 unfold gY
 conv=>rhs;rw [<-List.take_append_drop i ws]
 simp only [List.mem_append,List.mem_singleton]
 constructor
 ·rintro ((h|h)|h)
  ·exact .inr (.inl h)
  ·exact .inl h
  ·exact .inr (.inr h)
 ·rintro (h|h|h)
  ·exact .inl (.inr h)
  ·exact .inl (.inl h)
  ·exact .inr h
theorem uA (ws:List (Int × Int)) (i:Nat) (x:Int × Int):(gY ws i x).length=ws.length+1:=by
 unfold gY
 simp only [K_,List.length_take,List.length_drop,List.length_singleton]
 omega
theorem Ep (h:(ws.map (·.1)).Nodup) (hx:∀p,p∈ws->p.1≠x.1) (i:Nat):((gY ws i x).map (·.1)).Nodup:=by
 have e:(gY ws i x).Perm (x::ws):=by
  unfold gY
  rw [List.append_assoc]
  refine List.perm_middle.trans ?_
  show (x::(List.take i ws++List.drop i ws)).Perm _
  rw [List.take_append_drop]
 refine (e.map (·.1)).nodup_iff.2 ?_
 rw [S_,List.nodup_cons]
 refine ⟨fun hm=> ?_,h⟩
 obtain ⟨p,hp,e⟩:=List.mem_map.1 hm
 exact hx p hp e
variable {us:List Od} {k:Nat}
theorem zV {c:Int} {u:Od} (h:(told us i 1 c)[k]?=some u):(i=k/\u.k=c)\/(i≠k/\us[k]?=some u):=by
 unfold told at h
 rw [List.getElem?_modify] at h
 cases hx:us[k]? with
 |none=>rw [hx] at h;cases h
 |some v=>
  rw [hx] at h
  have h':(if i=k then (⟨v.bt,v.x,if (1:Int)=1 then c else v.k⟩:Od) else v)=u:=Option.some.inj h
  by_cases e:i=k
  ·rw [if_pos e] at h'
   exact .inl ⟨e,by rw [<-h'];rfl⟩
  ·rw [if_neg e] at h'
   exact .inr ⟨e,by rw [h']⟩
theorem wH (us:List Od) (i:Nat) (k c:Int):(told us i k c).length=us.length:=by unfold told;rw [List.length_modify]
section
variable {nl no n:Nat} {S:Hs} {m:Rm}
theorem Rel.P5 (R:Rel nl no n S us m) {r:Rec} (h:iA m.recs i r):S.rc r.call=some i/\∃x,S.of r.call=some x/\S.lines[(r.line - 1).toNat]?=some x:=by
 obtain ⟨x,hx⟩:=R.MQ i r h
 obtain ⟨j,s,h1,h2,h3,h4⟩:=R.JE _ x hx
 obtain rfl:=R.good.qM j i s r h1 h h2
 obtain rfl:=iA.one h h1
 exact ⟨h4,x,hx,h3⟩
theorem Rel.FI (R:Rel nl no n S us m) {c:Int} (h:S.of c=none):∀i r,iA m.recs i r->r.call≠c:=by
 intro i r hr e
 obtain ⟨x,hx⟩:=R.MQ i r hr
 rw [e,h] at hx;cases hx
theorem Rel.ofc (R:Rel nl no n S us m) (c:Int):(S.of c).isSome=(dE m.recs c).isSome:=by
 cases h:S.of c with
 |none=>rw [uy (R.FI h)]
 |some x=>
  obtain ⟨i,r,h1,h2,_⟩:=R.JE c x h
  rw [kX R.good h1 h2];rfl
theorem Rel.CG (R:Rel nl no n S us m) (c:Int):S.back.contains c=im m c:=by
 rw [R.back]
 unfold im
 rw [Bool.eq_iff_iff,List.contains_iff_mem,List.mem_map,List.any_eq_true]
 constructor
 ·rintro ⟨p,hp,e⟩;exact ⟨p,hp,decide_eq_true e⟩
 ·rintro ⟨p,hp,e⟩;exact ⟨p,hp,of_decide_eq_true e⟩
theorem Rel.nobody (R:Rel nl no n S us m) {u:Od} (h:us[k]?=some u) (h0:u.k=0):∀i r,iA m.recs i r->r.op≠((k+1:Nat):Int):=by
 intro i r hr e
 have:=R.LY k u i r h hr e
 have:=R.good.G8 i r hr.1
 omega
theorem Rel.N5 (R:Rel nl no n S us m) {u:Od} (h:us[k]?=some u):ez m.recs ((k+1:Nat):Int)=u.k:=by
 by_cases h0:u.k=0
 ·rw [BW (R.nobody h h0),h0]
 ·obtain ⟨i,r,h1,h2⟩:=R.MV k u h h0
  rw [BV R.good (by omega) h1 h2,R.LY k u i r h h1 h2]
theorem Rel.pos (R:Rel nl no n S us m) {u:Od} (h:us[k]?=some u):(u.k≠0)↔u.k>0:=by
 constructor
 ·intro h0
  obtain ⟨i,r,h1,h2⟩:=R.MV k u h h0
  have:=R.LY k u i r h h1 h2
  have:=R.good.G8 i r h1.1
  omega
 ·intro h0;omega
variable {l:Nat}
theorem Rel.used (R:Rel nl no n S us m) (hl:l<S.lines.length):lM m.recs ((l+1:Nat):Int)=(S.on S.lines[l]).isSome:=by
 rw [Bool.eq_iff_iff,GR]
 constructor
 ·rintro ⟨i,r,h1,h2⟩
  rw [R.MN i r S.lines[l] h1 (by rw [h2,show ((((l+1:Nat):Int)) - 1).toNat=l by omega];exact G_ _)]
  rfl
 ·intro h
  cases hx:S.on S.lines[l] with
  |none=>rw [hx] at h;cases h
  |some c=>
   obtain ⟨i,r,h1,h2,h3⟩:=R.Oq _ c hx
   refine ⟨i,r,h1, ?_⟩
   have:=(List.getElem?_inj hl R.nd).1 ((G_ hl).trans h3.symm)
   have:=R.good.G8 i r h1.1
   omega
theorem Rel.zv (R:Rel nl no n S us m) (h:gf S= -1):bT nl m.recs=[]:=by
 have h1:S.lines.findIdx? (fun x=>(S.on x).isNone)=none:=by
  unfold gf at h
  cases hx:S.lines.findIdx? (fun x=>(S.on x).isNone) with
  |none=>rfl
  |some k=>rw [hx] at h;simp only at h;omega
 rw [List.findIdx?_eq_none_iff] at h1
 unfold bT
 rw [List.filter_eq_nil_iff]
 intro a ha
 obtain ⟨i,hi,rfl⟩:=List.mem_map.1 ha
 rw [List.mem_range] at hi
 have lE:i<S.lines.length:=by rw [R.ll];exact hi
 rw [R.used lE]
 have:=h1 _ (List.getElem_mem lE)
 cases hx:S.on S.lines[i] with
 |none=>rw [hx] at this;cases this
 |some c=>simp
theorem Rel.zu (R:Rel nl no n S us m) (h:gf S=(l:Nat)):∃t,bT nl m.recs=((l+1:Nat):Int)::t:=by
 have h1:S.lines.findIdx? (fun x=>(S.on x).isNone)=some l:=by
  unfold gf at h
  cases hx:S.lines.findIdx? (fun x=>(S.on x).isNone) with
  |none=>rw [hx] at h;simp only at h;omega
  |some k=>rw [hx] at h;simp only at h;rw [show k=l by omega]
 obtain ⟨hl,h2,h3⟩:=List.findIdx?_eq_some_iff_getElem.1 h1
 have hh:(bT nl m.recs).head?=some ((l+1:Nat):Int):=by
  unfold bT
  rw [List.head?_filter,List.find?_map]
  have:(List.range nl).find? ((fun l=> !lM m.recs l) ∘ fun i=>((i+1:Nat):Int))=some l:=by
   rw [List.find?_range_eq_some]
   refine ⟨?_,by rw [List.mem_range,<-R.ll];exact hl,fun j hj=> ?_⟩
   ·show (!lM m.recs ((l+1:Nat):Int))=true
    rw [R.used hl]
    cases hx:S.on S.lines[l] with
    |none=>rfl
    |some c=>rw [hx] at h2;cases h2
   ·show (!(!lM m.recs ((j+1:Nat):Int)))=true
    rw [R.used (by omega)]
    have:=h3 j hj
    cases hx:S.on (S.lines[j]'(by omega)) with
    |none=>rw [hx] at this;simp at this
    |some c=>rfl
  rw [this];rfl
 cases hx:bT nl m.recs with
 |nil=>rw [hx] at hh;cases hh
 |cons a t=>rw [hx] at hh;exact ⟨t,by rw [Option.some.inj hh]⟩
def Same (nl no n:Nat) (R:Hs × List Od × Bs) (q:Rm × Bs):Prop:=Rel nl no n R.1 R.2.1 q.1/\R.2.2=q.2
theorem Rel.ring (R:Rel nl no n S us m) {c pt:Int} (c0:1<=c) (c1:c<=99):Same nl no (n+1) (oe S us c pt) (kS nl m c pt):=by
 unfold oe kS
 rw [R.ofc c,R.CG c]
 by_cases hk:((dE m.recs c).isSome||im m c)=true
 ·rw [if_pos hk,if_pos hk];exact ⟨R.mono,rfl⟩
 rw [if_neg hk,if_neg hk]
 rw [Bool.or_eq_true,not_or] at hk
 have hno:∀i r,iA m.recs i r->r.call≠c:=Ej (by
  cases hx:dE m.recs c with
  |none=>rfl
  |some i=>rw [hx] at hk;exact absurd rfl hk.1)
 have BH:∀p,p∈m.back->p.1≠c:=fun p hp e=>hk.2 (by unfold im;rw [List.any_eq_true];exact ⟨p,hp,decide_eq_true e⟩)
 rcases lX S with h|⟨l,hl,h,h0⟩
 ·rw [if_pos (by omega),R.zv h]
  refine ⟨?_,rfl⟩
  show Rel nl no (n+1) {S with back:=S.back++[c]} us {m with back:=m.back++[(c,pt)]}
  have e:S.back++[c]=(m.back++[(c,pt)]).map (·.1):=by rw [R.back];simp
  rw [e]
  refine R.Gx ?_ ?_ ?_
  ·rw [List.map_append,List.nodup_append]
   refine ⟨R.b0,by simp, ?_⟩
   intro a ha b hb
   obtain ⟨p,hp,rfl⟩:=List.mem_map.1 ha
   simp at hb
   rw [hb];exact BH p hp
  ·intro p hp
   rw [List.mem_append,List.mem_singleton] at hp
   rcases hp with hp|rfl
   ·exact .inl hp
   ·exact .inr ⟨⟨c0,c1⟩,hno⟩
  ·have:=R.n2
   rw [K_,List.length_singleton];omega
 ·obtain ⟨t,ht⟩:=R.zu h
  rw [if_neg (by omega),ht,h,Int.toNat_natCast,G_ hl]
  refine ⟨?_,by show jj++L_ _=jj++L_ _;congr 2⟩
  have hw:∀p,p∈m.wait->p.1≠c:=fun p hp e=>by
   obtain ⟨i,r,h1,h2,_⟩:=R.w1 p hp
   exact hno i r h1 (h2.trans e)
  have A:=R.add (yW:=us) (w':=gY m.wait (placeOf m.wait pt) (c,pt)) (b':=m.back) (o:=0) (hd:= -1) hl h0 hno c0 c1 (.inl rfl) rfl (fun k u HE=>.inr ⟨by omega,HE⟩)
   (Ep R.w0 hw _) (fun p hp=>by
    rcases xj.1 hp with rfl|hp
    ·exact .inr ⟨rfl,rfl⟩
    ·exact .inl hp) (fun p hp=>xj.2 (.inr hp)) (fun _=>List.mem_map.2 ⟨(c,pt),xj.2 (.inl rfl),rfl⟩) R.b0 (fun p hp=>⟨hp,BH p hp⟩)
   (by rw [uA];have:=R.n2;omega)
  have e:({conn S c l S.lines[l] with wait:=gY S.wait (placeOf S.wait pt) (c,pt)}:Hs)={S with on:=fun y=>if y=S.lines[l] then some c else S.on y,of:=fun y=>if y=c then some S.lines[l] else S.of y,rc:=fun y=>if y=c then some S.recs.length else S.rc y,recs:=S.recs++[⟨c,(l:Int)+1,0,S.clock, -1, -1,eR⟩],wait:=gY m.wait (placeOf m.wait pt) (c,pt),back:=m.back.map (·.1)}:=by
   unfold conn kT;rw [R.wait,<-R.back]
  show Rel nl no (n+1) ({conn S c l S.lines[l] with wait:=gY S.wait (placeOf S.wait pt) (c,pt)}:Hs) us _
  rw [e];exact A
theorem Rel.answer (R:Rel nl no n S us m) (hi:i<no):Same nl no (n+1) (og S us i) (hZ m ((i+1:Nat):Int)):=by
 have hu:i<us.length:=by rw [R.ul];exact hi
 have hg:us[i]?=some us[i]:=G_ hu
 unfold og hZ
 rw [hg,R.N5 hg]
 simp only
 by_cases h0:us[i].k≠0
 ·rw [if_pos h0,if_pos ((R.pos hg).1 h0)];exact ⟨R.mono,rfl⟩
 rw [if_neg h0,if_neg (fun h=>h0 ((R.pos hg).2 h)),R.wait]
 cases hw:m.wait with
 |nil=>exact ⟨R.mono,rfl⟩
 |cons p ws=>
  obtain ⟨j,r,h1,h2,h3⟩:=R.w1 p (by rw [hw];exact List.mem_cons_self)
  have mj:=(R.P5 h1).1
  rw [h2] at mj
  simp only
  rw [mj,kX R.good h1 h2]
  simp only
  rw [show S.recs[j]?=some r by rw [R.recs];exact h1.1,h1.1]
  have hn:=R.w0
  rw [hw] at hn
  have A:=R.S6 (yW:=told us i 1 p.1) (w':=ws) (o:=((i+1:Nat):Int)) (hd:=m.clock) h1 (by omega) (by omega) (R.nobody hg (Decidable.not_not.1 h0)) h3 (wH us i 1 p.1)
   (fun k u hk=>by
    rcases zV hk with ⟨e,h⟩|⟨e,h⟩
    ·exact .inl ⟨by omega,by rw [h,h2]⟩
    ·exact .inr ⟨by omega,h⟩) (by rw [S_,List.nodup_cons] at hn;exact hn.2)
   (fun q hq=>⟨by rw [hw];exact List.mem_cons_of_mem _ hq,fun e=>by rw [S_,List.nodup_cons] at hn;exact hn.1 (List.mem_map.2 ⟨q,hq,e.trans h2⟩)⟩)
   (fun q hq e=>by
    rw [hw] at hq
    rcases List.mem_cons.1 hq with rfl|hq
    ·exact absurd h2.symm e
    ·exact hq) (by rw [hw];simp)
  refine ⟨?_,rfl⟩
  show Rel nl no (n+1) (iZ {S with wait:=ws} j r ((i+1:Nat):Int)) (told us i 1 p.1) {m with recs:=m.recs.set j {r with op:=((i+1:Nat):Int),heard:=m.clock},wait:=aJ (p::ws) p.1}
  rw [lT hn]
  have e:iZ {S with wait:=ws} j r ((i+1:Nat):Int)={S with recs:=S.recs.set j {r with op:=((i+1:Nat):Int),heard:=m.clock},wait:=ws}:=by
   unfold iZ;rw [R.clock]
  rw [e]
  exact A.mono
theorem Rel.calls (R:Rel nl no n S us m) (hi:i<no):Same nl no (n+1) (lY S us i) (lD nl m ((i+1:Nat):Int)):=by
 have hu:i<us.length:=by rw [R.ul];exact hi
 have hg:us[i]?=some us[i]:=G_ hu
 unfold lY lD
 rw [hg,R.N5 hg]
 simp only
 by_cases h0:us[i].k≠0
 ·rw [if_pos h0,if_pos ((R.pos hg).1 h0)];exact ⟨R.mono,rfl⟩
 rw [if_neg h0,if_neg (fun h=>h0 ((R.pos hg).2 h)),R.back]
 cases hw:m.back with
 |nil=>exact ⟨R.mono,rfl⟩
 |cons p bs=>
  simp only [S_]
  have hn:=R.b0
  rw [hw] at hn
  rcases lX S with h|⟨l,hl,h,b9⟩
  ·rw [if_pos (by omega),R.zv h];exact ⟨R.mono,rfl⟩
  ·obtain ⟨t,ht⟩:=R.zu h
   rw [if_neg (by omega),ht,h,Int.toNat_natCast,G_ hl]
   simp only
   have Uk:p∈m.back:=by rw [hw];exact List.mem_cons_self
   have h99:=R.b2 p Uk
   have A:=R.add (yW:=told us i 1 p.1) (w':=m.wait) (b':=bs) (o:=((i+1:Nat):Int)) (hd:=m.clock) hl b9 (R.b1 p Uk) h99.1 h99.2 (.inr ⟨⟨by omega,by omega⟩,R.nobody hg (Decidable.not_not.1 h0)⟩) (wH us i 1 p.1)
    (fun k u hk=>by
     rcases zV hk with ⟨e,h⟩|⟨e,h⟩
     ·exact .inl ⟨by omega,h⟩
     ·exact .inr ⟨by omega,h⟩) R.w0 (fun _ h=>.inl h) (fun _ h=>h) (fun e=>by omega) (by rw [S_,List.nodup_cons] at hn;exact hn.2)
    (fun q hq=>⟨by rw [hw];exact List.mem_cons_of_mem _ hq,fun e=>by rw [S_,List.nodup_cons] at hn;exact hn.1 (List.mem_map.2 ⟨q,hq,e⟩)⟩)
    (by have:=R.n2;rw [hw,List.length_cons] at this;omega)
   refine ⟨?_,rfl⟩
   show Rel nl no (n+1) (iZ (conn {S with back:=bs.map (·.1)} p.1 l S.lines[l]) S.recs.length (kT {S with back:=bs.map (·.1)} p.1 l) ((i+1:Nat):Int)) (told us i 1 p.1) {m with back:=aJ (p::bs) p.1,recs:=m.recs++[⟨p.1,((l+1:Nat):Int),((i+1:Nat):Int),m.clock,m.clock, -1,eR⟩]}
   rw [lT hn]
   have e:iZ (conn {S with back:=bs.map (·.1)} p.1 l S.lines[l]) S.recs.length (kT {S with back:=bs.map (·.1)} p.1 l) ((i+1:Nat):Int)={S with on:=fun y=>if y=S.lines[l] then some p.1 else S.on y,of:=fun y=>if y=p.1 then some S.lines[l] else S.of y,rc:=fun y=>if y=p.1 then some S.recs.length else S.rc y,recs:=S.recs++[⟨p.1,(l:Int)+1,((i+1:Nat):Int),S.clock,m.clock, -1,eR⟩],wait:=m.wait,back:=bs.map (·.1)}:=by
    unfold iZ conn kT
    simp only [List.set_append_right _ _ (C_ _),Nat.sub_self,List.set_cons_zero,R.clock,R.wait]
   rw [e];exact A
theorem Rel.hangs (R:Rel nl no n S us m) (c:Int):Same nl no (n+1) (ou S us c) (lv m c):=by
 unfold ou lv
 cases kE:S.of c with
 |none=>
  have hno:=R.FI kE
  rw [uy hno]
  simp only
  rcases uE S.back c with ⟨h1,h2⟩|⟨k,hk,h1,h2,_⟩
  ·rw [if_pos (by omega),if_pos (by omega),<-R.CG c,h2]
   exact ⟨R.mono,rfl⟩
  ·have Nq:im m c=true:=by rw [<-R.CG c,List.contains_iff_mem,<-h2];exact List.getElem_mem hk
   rw [if_neg (by omega),if_neg (by omega),Nq,h1,Int.toNat_natCast]
   refine ⟨?_,rfl⟩
   have yL:(m.back.map (·.1))[k]?=some c:=by rw [<-R.back,G_ hk,h2]
   show Rel nl no (n+1) {S with back:=S.back.eraseIdx k} us {m with back:=aJ m.back c}
   rw [R.back,sg m.back k c R.b0 yL]
   refine R.Gx (nK R.b0 c) (fun p hp=>.inl (nM.1 hp).1) ?_
   have:=R.n2;have:=jQ m.back c;omega
 |some x=>
  obtain ⟨i,r,h1,h2,h3,h4⟩:=R.JE c x kE
  simp only
  rw [h4,kX R.good h1 h2]
  simp only
  rw [show S.recs[i]?=some r by rw [R.recs];exact h1.1,h1.1]
  simp only
  subst h2
  have hr:=R.good.G8 i r h1.1
  by_cases hop:r.op≠0
  ·rw [if_pos hop,if_pos (by omega)]
   have hw:∀p,p∈m.wait->p.1≠r.call:=fun p hp e=>by
    obtain ⟨j,s,a1,a2,a3⟩:=R.w1 p hp
    obtain rfl:=R.good.qM j i s r a1 h1 (a2.trans e)
    obtain rfl:=iA.one h1 a1
    exact hop a3
   have A:=R.close (yW:=told us (r.op.toNat - 1) 1 0) (w':=m.wait) (b':=m.back) (q:=iy) h1 (by decide) h3 (wH us _ 1 0)
    (fun k u hk=>by
     rcases zV hk with ⟨e,h⟩|⟨e,h⟩
     ·exact .inl ⟨by omega,h⟩
     ·exact .inr ⟨by omega,h⟩) R.w0 (fun p hp=>⟨hp,hw p hp⟩) (fun p hp _=>hp) R.b0 (fun p hp=>.inl hp) R.n2
   refine ⟨?_,rfl⟩
   have e1:(jJ m i iy)={m with recs:=m.recs.set i {r with wI:=m.clock,fin:=iy},wait:=m.wait,back:=m.back}:=by
    unfold jJ;rw [h1.1];simp only;rw [rj hw]
   have e2:uk S r.call x i r iy={uk S r.call x i r iy with wait:=m.wait,back:=m.back.map (·.1)}:=by
    rw [<-R.wait,<-R.back];rfl
   show Rel nl no (n+1) (uk S r.call x i r iy) _ (jJ m i iy)
   rw [e1,e2];exact A.mono
  ·rw [if_neg hop,if_neg (by omega)]
   have A:=R.close (yW:=us) (w':=aJ m.wait r.call) (b':=m.back) (q:=ie) h1 (by decide) h3 rfl
    (fun k u hk=>.inr ⟨by omega,hk⟩) (nK R.w0 _) (fun p hp=>nM.1 hp) (fun p hp h=>nM.2 ⟨hp,h⟩) R.b0 (fun p hp=>.inl hp) (by have:=R.n2;have:=jQ m.wait r.call;omega)
   refine ⟨?_,rfl⟩
   have e1:(jJ m i ie)={m with recs:=m.recs.set i {r with wI:=m.clock,fin:=ie},wait:=aJ m.wait r.call,back:=m.back}:=by
    unfold jJ;rw [h1.1]
   have e2:({uk S r.call x i r ie with wait:=aJ S.wait r.call}:Hs)={uk S r.call x i r ie with wait:=aJ m.wait r.call,back:=m.back.map (·.1)}:=by
    rw [<-R.wait,<-R.back];rfl
   show Rel nl no (n+1) ({uk S r.call x i r ie with wait:=aJ S.wait r.call}:Hs) _ (jJ m i ie)
   rw [e1,e2];exact A.mono
theorem Rel.wD (P:Int):∀(rest:List (Int × Int)) (q:Wq) (mm:Rm) (t:Bs),Rel nl no n {q.S with wait:=q.keep++rest} us mm->q.text=t->
 Rel nl no n {(rest.foldl (bP P) q).S with wait:=(rest.foldl (bP P) q).keep} us (rest.foldl (fB P) (mm,t)).1/\(rest.foldl (bP P) q).text=(rest.foldl (fB P) (mm,t)).2
 |[],q,mm,t,R,ht=>by
  rw [List.append_nil] at R
  exact ⟨R,ht⟩
 |p::rest,q,mm,t,R,ht=>by
  rw [List.foldl_cons,List.foldl_cons]
  have hw:mm.wait=q.keep++p::rest:=R.wait.symm
  obtain ⟨i,r,h1,h2,h3⟩:=R.w1 p (by rw [hw];simp)
  obtain ⟨mj,x,kE,hx⟩:=R.P5 h1
  rw [h2] at mj kE
  have Y6:q.S.of p.1=some x:=kE
  have YY:q.S.rc p.1=some i:=mj
  have QG:q.S.recs=mm.recs:=R.recs
  have gv:q.S.clock=mm.clock:=R.clock
  have sD:q.S.back=mm.back.map (·.1):=R.back
  have es:bP P q p=if q.S.clock - r.jy<P then {q with keep:=q.keep++[p]} else ⟨{uk q.S p.1 x i r eT with back:=q.S.back++[p.1]},q.keep,q.text++(32::L_ p.1)⟩:=by
   unfold bP;rw [Y6,YY];simp only;rw [QG,h1.1]
  have er:fB P (mm,t) p=if mm.clock - r.jy>=P then ({jJ mm i eT with back:=mm.back++[p]},t++(32::L_ p.1)) else (mm,t):=by
   unfold fB;simp only;rw [kX R.good h1 h2];simp only;rw [h1.1]
  rw [es,er]
  by_cases hlt:q.S.clock - r.jy<P
  ·rw [if_pos hlt,if_neg (by omega)]
   refine Rel.wD P rest _ mm t ?_ ht
   show Rel nl no n {q.S with wait:=(q.keep++[p])++rest} us mm
   rw [List.append_assoc];exact R
  ·rw [if_neg hlt,if_pos (by omega)]
   have hn:=R.w0
   rw [hw] at hn
   refine Rel.wD P rest _ _ _ ?_ (by show q.text++_=_;rw [ht])
   have yJ:∀p',p'∈q.keep++rest↔p'∈mm.wait/\p'.1≠r.call:=by
    intro p'
    rw [<-rk hn,nM,hw,h2]
   have A:=R.close (yW:=us) (w':=q.keep++rest) (b':=mm.back++[p]) (q:=eT) h1 (by decide) hx rfl
    (fun k u hk=>.inr ⟨by omega,hk⟩) (by rw [<-rk hn];exact nK hn _) (fun p' Sx=>(yJ p').1 Sx) (fun p' a b=>(yJ p').2 ⟨a,b⟩)
    (by
     rw [List.map_append,List.nodup_append]
     refine ⟨R.b0,by simp, ?_⟩
     intro a ha b hb
     obtain ⟨p',Sx,rfl⟩:=List.mem_map.1 ha
     simp at hb
     rw [hb]
     exact fun e=>R.b1 p' Sx i r h1 (h2.trans e.symm))
    (fun p' Sx=>by
     rw [List.mem_append,List.mem_singleton] at Sx
     rcases Sx with h|rfl
     ·exact .inl h
     ·exact .inr h2.symm)
    (by
     have:=R.n2
     rw [hw] at this
     simp only [K_,List.length_cons,List.length_nil] at this ⊢
     omega)
   have e1:({jJ mm i eT with back:=mm.back++[p]}:Rm)={mm with recs:=mm.recs.set i {r with wI:=mm.clock,fin:=eT},wait:=q.keep++rest,back:=mm.back++[p]}:=by
    unfold jJ;rw [h1.1];simp only;rw [h2,hw,rk hn]
   have e2:({({uk q.S p.1 x i r eT with back:=q.S.back++[p.1]}:Hs) with wait:=q.keep++rest}:Hs)={uk {q.S with wait:=q.keep++p::rest} r.call x i r eT with wait:=q.keep++rest,back:=(mm.back++[p]).map (·.1)}:=by
    rw [h2,sD];simp [uk]
   show Rel nl no n ({({uk q.S p.1 x i r eT with back:=q.S.back++[p.1]}:Hs) with wait:=q.keep++rest}:Hs) us ({jJ mm i eT with back:=mm.back++[p]}:Rm)
   rw [e1,e2];exact A
theorem Rel.waits (R:Rel nl no n S us m) (P:Int) {d:Int} (h0:0<=d) (h1:d<=60):Rel nl no (n+1) (waited P S d).1 us (mB P m d).1/\(waited P S d).2=(mB P m d).2:=by
 have hw:S.wait=m.wait:=R.wait
 have:=Rel.wD P m.wait ⟨{S with clock:=S.clock+d},[],rI++L_ (S.clock+d)⟩ {m with clock:=m.clock+d} (rI++L_ (m.clock+d)) (by
  have e:({({S with clock:=S.clock+d}:Hs) with wait:=[]++m.wait}:Hs)={S with clock:=S.clock+d}:=by rw [List.nil_append,<-hw]
  show Rel nl no (n+1) {({S with clock:=S.clock+d}:Hs) with wait:=[]++m.wait} us _
  rw [e]
  exact R.tick h0 h1) (by show _++_=_;rw [R.clock])
 unfold waited waitAll mB
 rw [<-hw] at this ⊢
 exact this
end
theorem yi (P:Int) (q:Rm × Bs) (p:Int × Int):(fB P q p).1.log=q.1.log:=by
 unfold fB
 split
 ·rfl
 ·split
  ·rfl
  ·split
   ·show (jJ q.1 _ eT).log=_
    unfold jJ;split<;>rfl
   ·rfl
theorem GN (P:Int) (m:Rm) (d:Int):(mB P m d).1.log=m.log:=by
 have:∀(ws:List (Int × Int)) (q:Rm × Bs),(ws.foldl (fB P) q).1.log=q.1.log:=by
  intro ws
  induction ws with
  |nil=>intro q;rfl
  |cons p ws ih=>intro q;rw [List.foldl_cons,ih,yi]
 unfold mB
 exact this _ _
theorem yZ (nl:Nat) (P:Int) (m:Rm) (e:Ev):(qy nl P m e).1.log=m.log:=by
 have he:∀i q,(jJ m i q).log=m.log:=fun i q=>by unfold jJ;split<;>rfl
 cases e with
 |ring c pt=>
  show (kS nl m c pt).1.log=_
  unfold kS
  split
  ·rfl
  ·split<;>rfl
 |hang c=>
  show (lv m c).1.log=_
  unfold lv
  split
  ·split
   ·rfl
   ·split<;>exact he _ _
  ·split<;>rfl
 |answer i=>
  show (hZ m _).1.log=_
  unfold hZ
  split
  ·rfl
  ·split
   ·rfl
   ·split
    ·rfl
    ·split<;>rfl
 |back i=>
  show (lD nl m _).1.log=_
  unfold lD
  split
  ·rfl
  ·split
   ·rfl
   ·split<;>rfl
 |wait d=>exact GN P m d
section
variable {nl no n:Nat} {S:Hs} {m:Rm}
theorem Rel.A9 (R:Rel nl no n S us m) (P:Int) {e:Ev} (h:e.good no):Same nl no (n+1) (gZ P S us e) (qy nl P m e):=by
 cases e with
 |ring c pt=>exact R.ring h.1.1 h.1.2
 |hang c=>exact R.hangs c
 |answer i=>exact R.answer h
 |back i=>exact R.calls h
 |wait d=>exact R.waits P (by have:=h.1;omega) h.2
theorem Rel.step (R:Rel nl no n S us m) (P:Int) {e:Ev} (h:e.good no):Rel nl no (n+1) (B6 P (S,us) e).1 (B6 P (S,us) e).2 (Ca nl P m e):=by
 obtain ⟨A,e2⟩:=R.A9 P h
 unfold B6 Ca
 exact ⟨A.good,A.recs,A.clock,A.wait,A.back,by show _++_=_++_;rw [A.log,e2],A.cg,A.ll,A.nd,A.ul,A.JE,A.MQ,A.Oq,A.MN,A.LY,A.MV,A.w0,A.w1,A.w2,A.b0,A.b1,A.b2,A.jy,A.cl,A.n1,A.n2,A.n4⟩
theorem Rel.Ro (R:Rel nl no n S us m) (hn:n<=60) (hl:nl<=1000):BA S us:=by
 have h1:=R.n1;have h2:=R.n2;have h4:=R.n4
 have e1:S.recs.length=m.recs.length:=by rw [R.recs]
 have e2:S.wait.length=m.wait.length:=by rw [R.wait]
 have e3:S.back.length=m.back.length:=by rw [R.back,List.length_map]
 have e4:=R.ll
 have e5:=R.clock
 have e6:=R.cl
 refine ⟨⟨by omega,by omega,by omega,by omega⟩,⟨by omega,by omega,by omega, ?_⟩,⟨by rw [R.wait];exact R.w0, ?_, ?_, ?_,by omega,by omega,by omega⟩,⟨by omega,by omega, ?_⟩,by omega,by omega⟩
 ·intro c x hx
  obtain ⟨i,r,a1,a2,a3,a4⟩:=R.JE c x hx
  obtain ⟨hlt,e⟩:=List.getElem?_eq_some_iff.1 a1.1
  have hg:S.recs[i]'(by omega)=r:=by
   have:S.recs[i]?=some r:=by rw [R.recs];exact a1.1
   exact (List.getElem?_eq_some_iff.1 this).2
  refine ⟨i,by omega,a4, ?_⟩
  rw [hg]
  have:=R.good.G8 i r a1.1
  by_cases h0:r.op=0
  ·exact .inl h0
  ·have:=R.ul
   exact .inr ⟨(r.op - 1).toNat,by omega,by omega⟩
 ·intro j hj
  have hp:S.wait[j]∈m.wait:=by rw [<-R.wait];exact List.getElem_mem hj
  obtain ⟨i,r,a1,a2,a3⟩:=R.w1 _ hp
  obtain ⟨b1,x,b2,b3⟩:=R.P5 a1
  rw [a2] at b1 b2
  have:=(List.getElem?_eq_some_iff.1 a1.1).1
  exact ⟨x,i,b2,b1,by omega⟩
 ·intro j hj
  have hp:S.wait[j]∈m.wait:=by rw [<-R.wait];exact List.getElem_mem hj
  obtain ⟨i,r,a1,a2,a3⟩:=R.w1 _ hp
  have:=R.good.G8 i r a1.1
  omega
 ·intro i hi
  have hg:m.recs[i]?=some S.recs[i]:=by rw [<-R.recs];exact G_ hi
  have:=R.jy i _ hg
  omega
 ·intro c hc
  rw [R.back] at hc
  obtain ⟨p,hp,rfl⟩:=List.mem_map.1 hc
  have:=R.b2 p hp
  omega
end
variable {nl no:Nat} {ls:List Nat}
theorem Rel.zero (hd:ls.Nodup) (hl:ls.length=nl) (hu:us.length=no) (h0:∀u∈us,Od.k u=0):Rel nl no 0 (LK ls) us ⟨[],[],[],0,[]⟩:=by
 have hno:∀{i:Nat} {r:Rec},¬iA [] i r:=fun h=>by have:=h.1;simp at this
 refine ⟨⟨fun _ _ _ _ h=>absurd h hno,fun _ _ _ _ h=>absurd h hno,fun _ _ _ _ h=>absurd h hno,fun i r h=>by simp at h⟩,rfl,rfl,rfl,rfl,rfl,rfl,hl,hd,hu,fun c x h=>(by cases h),fun i r h=>absurd h hno,fun x c h=>(by cases h),fun _ _ _ h=>absurd h hno,fun _ _ _ _ _ h=>absurd h hno,fun q u hq hk=>absurd (h0 u (List.mem_iff_getElem?.2 ⟨q,hq⟩)) hk,by simp,fun p h=>(by cases h),fun _ _ h=>absurd h hno,by simp,fun p h=>(by cases h),fun p h=>(by cases h),fun i r h=>by simp at h,Int.le_refl _,C_ _,C_ _,Int.le_refl _⟩
variable {P:Int} {evs:List Ev}
theorem G6 (hk:k<evs.length):ja nl P (evs.take (k+1))=Ca nl P (ja nl P (evs.take k)) evs[k]:=by
 unfold ja
 rw [List.take_succ_eq_append_getElem hk,List.foldl_append];rfl
theorem wO {nl no:Nat} {ls:List Nat} {us:List Od} {P:Int} {evs:List Ev} (hd:ls.Nodup) (hl:ls.length=nl) (hu:us.length=no) (h0:∀u∈us,Od.k u=0) (he:∀e∈evs,Ev.good no e):
 ∀k,k<=evs.length->Rel nl no k (eC P (LK ls,us) (evs.take k)).1 (eC P (LK ls,us) (evs.take k)).2 (ja nl P (evs.take k))/\(ja nl P (evs.take k)).log.length=k
 |0,_=>⟨by rw [List.take_zero];exact Rel.zero hd hl hu h0,by rw [List.take_zero];rfl⟩
 |k+1,hk=>by
  obtain ⟨R,h2⟩:=wO (P:=P) hd hl hu h0 he k (by omega)
  rw [zd (by omega),G6 (by omega)]
  refine ⟨R.step P (he _ (List.getElem_mem _)), ?_⟩
  show ((qy nl P _ _).1.log++[(qy nl P _ _).2]).length=_
  rw [yZ,K_,List.length_singleton,h2]
theorem Ag (hd:ls.Nodup) (hl:ls.length=nl) (hu:us.length=no) (h0:∀u∈us,Od.k u=0) (he:∀e∈evs,Ev.good no e) (hn:evs.length<=60) (rp:nl<=1000) (hno:no<=999):
 GG P ls us evs/\Rel nl no evs.length (eC P (LK ls,us) evs).1 (eC P (LK ls,us) evs).2 (ja nl P evs):=by
 have eU:=(wO (P:=P) hd hl hu h0 he evs.length (C_ _)).1
 rw [List.take_length] at eU
 refine ⟨⟨fun k hk=> ?_,by rw [eU.ul];exact hno,eU.cg⟩,eU⟩
 obtain ⟨R,h2⟩:=wO (P:=P) hd hl hu h0 he k (by omega)
 have hg:=he _ (List.getElem_mem hk)
 refine ⟨?_,R.Ro (by omega) rp, ?_⟩
 ·rw [R.ul]
  cases hx:evs[k] with
  |ring c pt=>rw [hx] at hg;have:=hg.1;exact ⟨by omega,by omega⟩
  |hang c=>trivial
  |answer i=>rw [hx] at hg;exact hg
  |back i=>rw [hx] at hg;exact hg
  |wait d=>rw [hx] at hg;have:=hg.1;have:=hg.2;exact ⟨by omega,by omega⟩
 ·rw [(R.A9 P hg).1.log,yZ,h2];omega
end
section
open Go Go.Conc Go.Conc.Lib Go.ConcR Go.ConcR.Gen Go.aC Go.Proofs
open Go.RowKit hiding Hid
open Go.ConcN (upd upd_ne upd_same)
theorem dx (n lo hi:Int) (w:World):d_ p_ 52 #[.int .i64 n,.int .i64 lo,.int .i64 hi] w fun e w'=>e=.returned (.bool (decide (lo<=n)&&decide (n<=hi)))/\w'=w:=by
 by_cases h:lo<=n
 ·have hd:decide (lo<=n)=true:=by simpa using h
  go_enter func52,ntmps52
  go_wp2
  go_ret
  exact ⟨by first|rfl|(rw [hd];rfl),rfl⟩
 ·have hd:decide (lo<=n)=false:=by simpa using h
  go_enter func52,ntmps52
  go_wp2
  go_ret
  exact ⟨by first|rfl|(rw [hd];rfl),rfl⟩
def ox (u:Nat) (tail:Bs):Bs:=Lib.decDigits u++tail
theorem Gv (c:UInt8) (l:Bs):(⟨#[c]⟩:ByteArray)++⟨l.toArray⟩=⟨(c::l).toArray⟩:=vQ [c] l
theorem xT (u:Nat) (tail:Bs) (h:9<u):ox (u / 10) (UInt8.ofNat (48+u % 10)::tail)=ox u tail:=by
 unfold ox
 conv=>rhs;rw [Lib.decDigits,dif_neg (by omega)]
 simp
theorem xU (u:Nat) (tail:Bs) (h:u<=9):ox u tail=UInt8.ofNat (48+u)::tail:=by
 unfold ox;rw [Lib.decDigits,dif_pos (by omega)];rfl
theorem zD {v u:Nat} {l:Bs} (h:ox v l=Lib.decDigits u) (hu:u<=9223372036854775807):l.length<=21:=by
 have h1:=Lib.itoa_length_le (u:Int) (by omega) (by omega)
 unfold L_ at h1
 rw [if_neg (by omega),Int.toNat_natCast,<-h] at h1
 unfold ox at h1
 rw [K_] at h1
 omega
theorem uj (w:World) (n:Int):(convert 42 9 (.slice (some ⟨w.heap.size,0,none⟩) 1 1)).run p_ (w.alloc (.cells #[.int .u8 n] 5))=.ok (.string ⟨#[UInt8.ofNat n.toNat]⟩) (w.alloc (.cells #[.int .u8 n] 5)):=by
 rw [run_convert_bytes_string _ 42 9 5 _ _ _ Tryz.underlying42 Tryz.underlying5 Tryz.underlying9]
 rw [run_bytesToString _ _ 1 1 [n]]
 ·rfl
 ·have:=run_loadCells_list (P:=p_) (w.alloc (.cells #[.int .u8 n] 5)) ⟨w.heap.size,0,none⟩ [.int .u8 n] (by
   intro j v hj
   match j,hj with
   |0,hj=>simp at hj;subst hj;simp [Addr.add])
  simpa using this
theorem NQ (u:Nat) (w:World) (hu:u<=9223372036854775807):
 d_ p_ 113 #[.int .i64 (u:Int)] w fun e w'=>e=.returned (.string ⟨(Lib.decDigits u).toArray⟩)/\g_ w.heap.size w w':=by
 have h1:decide ((u:Int)< -9223372036854775807)=false:=by simp
 have h2:decide ((u:Int)<0)=false:=by simp
 go_enter func113,ntmps113
 go_wp2
 go_loopw [0,3] (fun n out wr=>∃(v:Nat) (l:Bs),n=.int .i64 (v:Int)/\v<=9223372036854775807/\out=.string ⟨l.toArray⟩/\f_ (ox v l=Lib.decDigits u)/\g_ w.heap.size w wr) (fun n _ _=>(intOf n).toNat)
 case atStart=>exact ⟨u,[],rfl,hu,rfl,by simp [f_,ox],h_ _ _⟩
 case round=>
  obtain ⟨v,l,rfl,hv,rfl,H,hb⟩:=hrel
  have Ma:=zD H.out hu
  by_cases hlt:9<v
  ·have gJ:(9:Int)<(v:Int):=by omega
   obtain ⟨c,hc⟩:∃c:UInt8,UInt8.ofNat (48+v % 10)=c:=⟨_,rfl⟩
   have hcv:=uj wr (48+(v:Int) % 10)
   rw [show (48+(v:Int) % 10).toNat=48+v % 10 from by omega,hc] at hcv
   have H2:f_ (ox (v / 10) (c::l)=Lib.decDigits u):=by rw [f_,<-hc,xT _ _ hlt];exact H.out
   clear hc
   go_wp2
   go_roundw
   case rel=>exact ⟨v / 10,c::l,by go_num,by omega,by congr 1,H2,hb.alloc hb.size _⟩
   case measure=>simp [intOf];omega
  ·have gJ:¬(9:Int)<(v:Int):=by omega
   obtain ⟨c,hc⟩:∃c:UInt8,UInt8.ofNat (48+v)=c:=⟨_,rfl⟩
   have hcv:=uj wr (48+(v:Int))
   rw [show (48+(v:Int)).toNat=48+v from by omega,hc] at hcv
   have H2:f_ (c::l=Lib.decDigits u):=by rw [f_,<-hc,<-H.out,xU _ _ (by omega)]
   clear hc
   go_wp2
   go_ret
   exact ⟨by (rw [<-H2.out];congr 2),hb.alloc hb.size _⟩
theorem lp (n:Int) (w:World) (h0:0<=n) (h1:n<=1000000000):
 d_ p_ 113 #[.int .i64 n] w fun e w'=>e=.returned (.string ⟨(L_ n).toArray⟩)/\g_ w.heap.size w w':=by
 obtain ⟨u,rfl⟩:=Int.eq_ofNat_of_zero_le h0
 rw [show L_ (u:Int)=Lib.decDigits u by unfold L_;rw [if_neg (by omega),Int.toNat_natCast]]
 exact NQ u w (by omega)
def gL (w:World) (v:M') (n:Nat) (xs:List M'):Prop:=(∃a cap,v=.slice a n cap)/\(0<xs.length->∃g cap,v=.slice (some ⟨g,0,none⟩) n cap/\n<=cap/\∀j (_:j<xs.length),w.cell? ⟨g,j,none⟩=xs[j]?)
variable {w:World} {B sz:Nat} {xs:List M'}
theorem Ed {e n:Nat} {v:M'} (h:w.ownsRow B e sz v n xs) (hs:0<xs.length->0<n):gL w v n xs:=by
 refine ⟨aE h,fun hl=> ?_⟩
 obtain ⟨g,cap,cur,hv,_,_,hc,_⟩:=cz h (hs hl)
 subst hv
 have hx:xs.length=n * sz:=h.1
 exact ⟨g,cap,rfl,hc,fun j hj=>h.cellAt j (by rw [<-hx];exact hj)⟩
variable {w':World}
theorem gL.keep {v:M'} {n:Nat} (h:gL w v n xs) (hk:∀g,v.ownBlock=some g->w'.heap[g]?=w.heap[g]?):gL w' v n xs:=by
 refine ⟨h.1,fun hl=> ?_⟩
 obtain ⟨g,cap,hv,hc,hcell⟩:=h.2 hl
 exact ⟨g,cap,hv,hc,fun j hj=>(World.cell?_of_block (hk g (by rw [hv];rfl))).trans (hcell j hj)⟩
theorem Ad (rs:List Rec):(cj rs).length=rs.length * 7:=by
 unfold cj;induction rs with
 |nil=>rfl
 |cons r rs ih=>rw [List.flatMap_cons,K_,ih];simp [Rec.cells];omega
theorem pT (ws:List (Int × Int)):(ax ws).length=ws.length * 2:=by
 unfold ax;induction ws with
 |nil=>rfl
 |cons r rs ih=>rw [List.flatMap_cons,K_,ih];simp;omega
variable {rs:List Rec} {i:Nat}
theorem nH {v:M'} (h:gL w v rs.length (cj rs)) (hi:i<rs.length):∃g cap,v=.slice (some ⟨g,0,none⟩) rs.length cap/\rs.length<=cap/\(w.cell? ⟨g,i * 7,none⟩=some (.int .i64 (rs[i]).call)/\w.cell? ⟨g,i * 7+1,none⟩=some (.int .i64 (rs[i]).line)/\w.cell? ⟨g,i * 7+2,none⟩=some (.int .i64 (rs[i]).op)/\w.cell? ⟨g,i * 7+3,none⟩=some (.int .i64 (rs[i]).jy)/\w.cell? ⟨g,i * 7+4,none⟩=some (.int .i64 (rs[i]).heard)/\w.cell? ⟨g,i * 7+5,none⟩=some (.int .i64 (rs[i]).wI)/\w.cell? ⟨g,i * 7+6,none⟩=some (.string ⟨(rs[i]).fin.toArray⟩)):=by
 have hl:=Ad rs
 obtain ⟨g,cap,hv,hc,hcell⟩:=h.2 (by omega)
 have hx:∀k,k<7->w.cell? ⟨g,i * 7+k,none⟩=((rs[i]).cells)[k]?:=fun k hk=>(hcell _ (by omega)).trans (jr Rec.cells 7 (fun _=>rfl) rs i k hi hk)
 exact ⟨g,cap,hv,hc,hx 0 (by omega),hx 1 (by omega),hx 2 (by omega),hx 3 (by omega),hx 4 (by omega),hx 5 (by omega),hx 6 (by omega)⟩
variable {ws:List (Int × Int)}
theorem pR {v:M'} (h:gL w v ws.length (ax ws)) (hi:i<ws.length):∃g cap,v=.slice (some ⟨g,0,none⟩) ws.length cap/\ws.length<=cap/\(w.cell? ⟨g,i * 2,none⟩=some (.int .i64 (ws[i]).1)/\w.cell? ⟨g,i * 2+1,none⟩=some (.int .i64 (ws[i]).2)):=by
 have hl:=pT ws
 obtain ⟨g,cap,hv,hc,hcell⟩:=h.2 (by omega)
 have hx:∀k,k<2->w.cell? ⟨g,i * 2+k,none⟩=([Value.int .i64 (ws[i]).1,Value.int .i64 (ws[i]).2])[k]?:=fun k hk=>(hcell _ (by omega)).trans (jr (fun p:Int × Int=>[Value.int .i64 p.1,Value.int .i64 p.2]) 2 (fun _=>rfl) ws i k hi hk)
 exact ⟨g,cap,hv,hc,hx 0 (by omega),hx 1 (by omega)⟩
theorem Ak {q:Bs} (h:q≠eR):((⟨q.toArray⟩:ByteArray).toList==[111,112,101,110])=false:=by
 rw [<-(show (⟨#[111,112,101,110]⟩:ByteArray).toList=[111,112,101,110] from ByteArray.toList_eq ⟨#[111,112,101,110]⟩)]
 refine (Lib.bytes_beq_false_iff _ ⟨#[111,112,101,110]⟩).2 fun e=>h ?_
 have:=congrArg (fun b:ByteArray=>b.data.toList) e
 simpa [eR] using this
def qA (rs:List Rec) (c:Int):Int:=match dE rs c with|some i=>(i:Nat)|none=> -1
def kG (ws:List (Int × Int)) (c:Int):Int:=match ws.findIdx? (fun p=>decide (p.1=c)) with|some i=>(i:Nat)|none=> -1
variable {k:Nat}
theorem Ek {c:Int} (hk:k<rs.length) (h:(decide ((rs[k]).call=c)&&isOpen rs[k])=true) (hb:∀j (hj:j<k),(decide ((rs[j]'(by omega)).call=c)&&isOpen (rs[j]'(by omega)))=false):qA rs c=(k:Nat):=by
 have:dE rs c=some k:=by
  unfold dE
  rw [List.findIdx?_eq_some_iff_getElem]
  exact ⟨hk,h,fun j hj=>by simp only [hb j hj];simp⟩
 unfold qA;rw [this]
theorem El {c:Int} (hb:∀j (hj:j<rs.length),(decide ((rs[j]).call=c)&&isOpen rs[j])=false):qA rs c= -1:=by
 have:dE rs c=none:=by
  unfold dE
  rw [List.findIdx?_eq_none_iff]
  intro r hr
  obtain ⟨j,hj,rfl⟩:=List.mem_iff_getElem.1 hr
  exact hb j hj
 unfold qA;rw [this]
theorem E2 {c:Int} (hk:k<ws.length) (h:(ws[k]).1=c) (hb:∀j (hj:j<k),(ws[j]'(by omega)).1≠c):kG ws c=(k:Nat):=by
 have:ws.findIdx? (fun p=>decide (p.1=c))=some k:=by
  rw [List.findIdx?_eq_some_iff_getElem]
  exact ⟨hk,decide_eq_true h,fun j hj=>by simp [hb j hj]⟩
 unfold kG;rw [this]
theorem E3 {c:Int} (hb:∀j (hj:j<ws.length),(ws[j]).1≠c):kG ws c= -1:=by
 have:ws.findIdx? (fun p=>decide (p.1=c))=none:=by
  rw [List.findIdx?_eq_none_iff]
  intro r hr
  obtain ⟨j,hj,rfl⟩:=List.mem_iff_getElem.1 hr
  simp [hb j hj]
 unfold kG;rw [this]
theorem GV {o:Int} (hk:k<rs.length) (h:(decide ((rs[k]).op=o)&&isOpen rs[k])=true) (hb:∀j (hj:j<k),(decide ((rs[j]'(by omega)).op=o)&&isOpen (rs[j]'(by omega)))=false):ez rs o=(rs[k]).call:=by
 have:rs.find? (fun r=>decide (r.op=o)&&isOpen r)=some rs[k]:=by
  rw [List.find?_eq_some_iff_getElem]
  exact ⟨h,k,hk,rfl,fun j hj=>by rw [hb j hj];rfl⟩
 unfold ez;rw [this]
theorem GU {o:Int} (hb:∀j (hj:j<rs.length),(decide ((rs[j]).op=o)&&isOpen rs[j])=false):ez rs o=0:=by
 have:rs.find? (fun r=>decide (r.op=o)&&isOpen r)=none:=by
  rw [List.find?_eq_none]
  intro r hr
  obtain ⟨j,hj,rfl⟩:=List.mem_iff_getElem.1 hr
  rw [hb j hj];simp
 unfold ez;rw [this]
theorem nO {v:M'} (hr:gL w v rs.length (cj rs)) (hn:rs.length<=1000) (c:Int):
 d_ p_ 110 #[v,.int .i64 c] w fun e w'=>e=.returned (.int .i64 (qA rs c))/\w'=w:=by
 obtain ⟨a₁,pC,sn⟩:=hr.1
 subst sn
 have hR:=aa hr
 clear hr
 go_enter func110,ntmps110
 go_wp2
 go_loopw [5] (fun i wr=>∃k:Nat,k<=rs.length/\i=.int .i64 k/\f_ (∀j (hj:j<k) (Dy:j<rs.length),(decide ((rs[j]).call=c)&&isOpen rs[j])=false)/\w=wr) (fun i _=>rs.length - (intOf i).toNat)
 case atStart=>exact ⟨0,Nat.zero_le _,rfl,fun j hj=>by omega,rfl⟩
 case round=>
  obtain ⟨k,hk,rfl,hT,rfl⟩:=hrel
  by_cases hlt:k<rs.length
  ·have gJ:(k:Int)<(rs.length:Int):=by omega
   obtain ⟨g,cap,hv,lJ,z0,z1,z2,z3,z4,z5,z6⟩:=nH hR.out hlt
   injection hv with e1 e2 e3
   subst e1
   have dS:f_ ((decide ((rs[k]).call=c)&&isOpen rs[k])=true->qA rs c=((k:Nat):Int)):=fun h0=>Ek hlt h0 (fun j hj=>hT.out j hj (by omega))
   have eF:f_ ((decide ((rs[k]).call=c)&&isOpen rs[k])=false->∀j (hj:j<k+1) (Dy:j<rs.length),(decide ((rs[j]).call=c)&&isOpen rs[j])=false):=fun h0 j hj Dy=>by
    by_cases e:j=k
    ·subst e;exact h0
    ·exact hT.out j (by omega) Dy
   generalize rs[k]=r at z0 z1 z2 z3 z4 z5 z6 dS eF
   by_cases hc:r.call=c
   ·by_cases hf:r.fin=eR
    ·have h1:=dS.out (by simp [isOpen,hc,hf])
     rw [hf] at z6
     unfold eR at z6
     clear dS eF z1 z3 z4 z5
     go_wp2
     go_ret
     exact ⟨by first|rfl|(rw [h1];rfl),rfl⟩
    ·have h1:=aa (eF.out (by simp [isOpen,hf]))
     have hne:=Ak hf
     generalize r.fin.toArray=q at z6 hne
     clear dS eF z1 z3 z4 z5
     go_wp2
     go_roundw
     case rel=>first|exact ⟨k+1,by omega,by go_num,h1,trivial⟩|exact ⟨k+1,by omega,by go_num,aa (by simpa using h1.out)⟩|exact ⟨k+1,by omega,by go_num,aa (by simpa using h1.out),trivial⟩
     case measure=>simp [intOf];omega
   ·have h1:=aa (eF.out (by simp [hc]))
    clear dS eF z1 z3 z4 z5 z6
    go_wp2
    go_roundw
    case rel=>first|exact ⟨k+1,by omega,by go_num,h1,trivial⟩|exact ⟨k+1,by omega,by go_num,aa (by simpa using h1.out)⟩|exact ⟨k+1,by omega,by go_num,aa (by simpa using h1.out),trivial⟩
    case measure=>simp [intOf];omega
  ·have h1:=El (rs:=rs) fun j hj=>hT.out j (by omega) hj
   go_wp2
   go_ret
   exact ⟨by first|rfl|(rw [h1];rfl),rfl⟩
theorem uB {v:M'} (hr:gL w v rs.length (cj rs)) (hn:rs.length<=1000) (c:Int):
 d_ p_ 114 #[v,.int .i64 c] w fun e w'=>e=.returned (.int .i64 (ez rs c))/\w'=w:=by
 obtain ⟨a₁,pC,sn⟩:=hr.1
 subst sn
 have hR:=aa hr
 clear hr
 go_enter func114,ntmps114
 go_wp2
 go_loopw [5] (fun i wr=>∃k:Nat,k<=rs.length/\i=.int .i64 k/\f_ (∀j (hj:j<k) (Dy:j<rs.length),(decide ((rs[j]).op=c)&&isOpen rs[j])=false)/\w=wr) (fun i _=>rs.length - (intOf i).toNat)
 case atStart=>exact ⟨0,Nat.zero_le _,rfl,fun j hj=>by omega,rfl⟩
 case round=>
  obtain ⟨k,hk,rfl,hT,rfl⟩:=hrel
  by_cases hlt:k<rs.length
  ·have gJ:(k:Int)<(rs.length:Int):=by omega
   obtain ⟨g,cap,hv,lJ,z0,z1,z2,z3,z4,z5,z6⟩:=nH hR.out hlt
   injection hv with e1 e2 e3
   subst e1
   have dS:f_ ((decide ((rs[k]).op=c)&&isOpen rs[k])=true->ez rs c=(rs[k]).call):=fun h0=>GV hlt h0 (fun j hj=>hT.out j hj (by omega))
   have eF:f_ ((decide ((rs[k]).op=c)&&isOpen rs[k])=false->∀j (hj:j<k+1) (Dy:j<rs.length),(decide ((rs[j]).op=c)&&isOpen rs[j])=false):=fun h0 j hj Dy=>by
    by_cases e:j=k
    ·subst e;exact h0
    ·exact hT.out j (by omega) Dy
   generalize rs[k]=r at z0 z1 z2 z3 z4 z5 z6 dS eF
   by_cases hc:r.op=c
   ·by_cases hf:r.fin=eR
    ·have h1:=dS.out (by simp [isOpen,hc,hf])
     rw [hf] at z6
     unfold eR at z6
     clear dS eF z1 z3 z4 z5
     go_wp2
     go_ret
     exact ⟨by first|rfl|(rw [h1];rfl),rfl⟩
    ·have h1:=aa (eF.out (by simp [isOpen,hf]))
     have hne:=Ak hf
     generalize r.fin.toArray=q at z6 hne
     clear dS eF z1 z3 z4 z5
     go_wp2
     go_roundw
     case rel=>first|exact ⟨k+1,by omega,by go_num,h1,trivial⟩|exact ⟨k+1,by omega,by go_num,aa (by simpa using h1.out)⟩|exact ⟨k+1,by omega,by go_num,aa (by simpa using h1.out),trivial⟩
     case measure=>simp [intOf];omega
   ·have h1:=aa (eF.out (by simp [hc]))
    clear dS eF z1 z3 z4 z5 z6
    go_wp2
    go_roundw
    case rel=>first|exact ⟨k+1,by omega,by go_num,h1,trivial⟩|exact ⟨k+1,by omega,by go_num,aa (by simpa using h1.out)⟩|exact ⟨k+1,by omega,by go_num,aa (by simpa using h1.out),trivial⟩
    case measure=>simp [intOf];omega
  ·have h1:=GU (rs:=rs) fun j hj=>hT.out j (by omega) hj
   go_wp2
   go_ret
   exact ⟨by first|rfl|(rw [h1];rfl),rfl⟩
theorem xl {v:M'} (hr:gL w v ws.length (ax ws)) (hn:ws.length<=1000) (c:Int):
 d_ p_ 111 #[v,.int .i64 c] w fun e w'=>e=.returned (.int .i64 (kG ws c))/\w'=w:=by
 obtain ⟨a₁,pC,sn⟩:=hr.1
 subst sn
 have hR:=aa hr
 clear hr
 go_enter func111,ntmps111
 go_wp2
 go_loopw [5] (fun i wr=>∃k:Nat,k<=ws.length/\i=.int .i64 k/\f_ (∀j (hj:j<k) (Dy:j<ws.length),(ws[j]).1≠c)/\w=wr) (fun i _=>ws.length - (intOf i).toNat)
 case atStart=>exact ⟨0,Nat.zero_le _,rfl,fun j hj=>by omega,rfl⟩
 case round=>
  obtain ⟨k,hk,rfl,hT,rfl⟩:=hrel
  by_cases hlt:k<ws.length
  ·have gJ:(k:Int)<(ws.length:Int):=by omega
   obtain ⟨g,cap,hv,lJ,z0,z1⟩:=pR hR.out hlt
   injection hv with e1 e2 e3
   subst e1
   have dS:f_ ((ws[k]).1=c->kG ws c=(k:Nat)):=fun h0=>E2 hlt h0 (fun j hj=>hT.out j hj (by omega))
   have eF:f_ ((ws[k]).1≠c->∀j (hj:j<k+1) (Dy:j<ws.length),(ws[j]).1≠c):=fun h0 j hj Dy=>by
    by_cases e:j=k
    ·subst e;exact h0
    ·exact hT.out j (by omega) Dy
   generalize ws[k]=r at z0 z1 dS eF
   by_cases hc:r.1=c
   ·have h1:=dS.out hc
    clear dS eF z1
    go_wp2
    go_ret
    exact ⟨by first|rfl|(rw [h1];rfl),rfl⟩
   ·have h1:=aa (eF.out hc)
    clear dS eF z1
    go_wp2
    go_roundw
    case rel=>first|exact ⟨k+1,by omega,by go_num,h1,trivial⟩|exact ⟨k+1,by omega,by go_num,aa (by simpa using h1.out)⟩|exact ⟨k+1,by omega,by go_num,aa (by simpa using h1.out),trivial⟩
    case measure=>simp [intOf];omega
  ·have h1:=E3 (ws:=ws) fun j hj=>hT.out j (by omega) hj
   go_wp2
   go_ret
   exact ⟨by first|rfl|(rw [h1];rfl),rfl⟩
theorem pX:(Tryz.prog.info? 114).map (fun i=>(i.zero,i.size,i.bytes))=some (some (.agg #[.int .i64 0,.int .i64 0]),2,16):=by kernel_rfl
def Low (w:World) (v:M'):Prop:=∀g,v.ownBlock=some g->g<w.heap.size
theorem gL.below {v:M'} {n:Nat} (h:gL w v n xs) (hl:Low w v) (hb:g_ w.heap.size w w'):gL w' v n xs:=h.keep fun g hg=>hb.block g (hl g hg)
theorem CB {c:Int} (hk:k<ws.length):aJ (ws.take (k+1)) c=aJ (ws.take k) c++(if (ws[k]).1=c then [] else [ws[k]]):=by
 unfold aJ
 rw [List.take_succ_eq_append_getElem hk,List.filter_append]
 congr 1
 by_cases h:(ws[k]).1=c<;>simp [h]
theorem gE (a b:List (Int × Int)):ax (a++b)=ax a++ax b:=by simp [ax]
theorem jR {v:M'} (hr:gL w v ws.length (ax ws)) (hl:Low w v) (hn:ws.length<=1000) (c:Int):
 d_ p_ 115 #[v,.int .i64 c] w fun e w'=>∃u,e=.returned u/\w'.ownsRow w.heap.size 114 2 u (aJ ws c).length (ax (aJ ws c))/\g_ w.heap.size w w'/\∃g,u.ownBlock=some g:=by
 obtain ⟨a₁,pC,sn⟩:=hr.1
 subst sn
 have hR:=aa hr
 have hL:=aa hl
 clear hr hl
 have e0:f_ ((w.alloc (.cells #[] 114)).ownsRow w.heap.size 114 2 (.slice (some ⟨w.heap.size,0,none⟩) 0 0) 0 []):=World.ownsRow_lit w #[] 0 (C_ _) (by decide) (by simp)
 have b0:f_ (g_ w.heap.size w (w.alloc (.cells #[] 114))):=(h_ _ _).alloc (C_ _) _
 go_enter func115,ntmps115
 go_wp2
 obtain ⟨i0,qJ,tX,rm,uF⟩:=info_parts pX
 go_loopw [5,6] (fun u i wr=>∃k:Nat,k<=ws.length/\i=.int .i64 k/\f_ (wr.ownsRow w.heap.size 114 2 u (aJ (ws.take k) c).length (ax (aJ (ws.take k) c))/\g_ w.heap.size w wr)/\f_ (∃g,u.ownBlock=some g)) (fun _ i _=>ws.length - (intOf i).toNat)
 case atStart=>exact ⟨0,Nat.zero_le _,rfl,⟨e0.out,b0.out⟩,aa ⟨_,rfl⟩⟩
 case round=>
  clear e0 b0
  obtain ⟨k,hk,rfl,hT,hG⟩:=hrel
  by_cases hlt:k<ws.length
  ·have gJ:(k:Int)<(ws.length:Int):=by omega
   obtain ⟨g,cap,hv,lJ,z0,z1⟩:=pR (hR.out.below hL.out hT.out.2) hlt
   injection hv with e1 e2 e3
   subst e1 e3
   have AZ:f_ (aJ (ws.take (k+1)) c=aJ (ws.take k) c++(if (ws[k]).1=c then [] else [ws[k]])):=CB hlt
   have yK:f_ ((aJ (ws.take k) c).length<=k):=D_ (jQ _ _) (List.length_take_le _ _)
   generalize ws[k]=r at z0 z1 AZ
   by_cases hc:r.1=c
   ·have h1:f_ (aJ (ws.take (k+1)) c=aJ (ws.take k) c):=by rw [f_,AZ.out,if_pos hc,List.append_nil]
    clear AZ z1
    go_wp2
    go_roundw
    case rel=>exact ⟨k+1,by omega,by go_num,by rw [h1.out];exact hT,hG⟩
    case measure=>simp [intOf];omega
   ·have h1:f_ (aJ (ws.take (k+1)) c=aJ (ws.take k) c++[r]):=by rw [f_,AZ.out,if_neg hc]
    have ub:=aa hT.out.2.size
    clear AZ
    go_wp2_with (at_builtin;refine wpList_append_lies _ rfl (.tmp 21) (.tmp 26) 61 rfl w.heap.size 114 i0 _ 2 16 Tryz.underlying61 qJ tX rm uF rfl (by decide) _ _ _ rfl (hT.out.1.alloc _) ⟨wr.heap.size,0,none⟩ 1 1 [.int .i64 r.1,.int .i64 r.2] rfl rfl (fY wr _ _ rfl) ?c1 (by omega) ?c3 ?c4 ?c5 _ rfl ?_)
    case c1=>exact ⟨rfl,rfl⟩
    case c3=>have:=yK.out;unfold maxLen;omega
    case c4=>have:=yK.out;omega
    case c5=>have:=ub.out;omega
    intro gg mW w6 jl kh iP mR
    have EU:f_ (w6.ownsRow w.heap.size 114 2 (.slice (some ⟨gg,0,none⟩) ((aJ (ws.take k) c).length+1) mW) (aJ (ws.take (k+1)) c).length (ax (aJ (ws.take (k+1)) c))/\g_ w.heap.size w w6):=by
     refine ⟨?_,(hT.out.2.alloc ub.out _).grown kh (by have:=ub.out;rw [B_];omega) fun g e=>(hT.out.1.lt g e).1⟩
     rw [h1.out,K_,gE];exact jl
    clear jl kh iP mR hT
    go_wp2_with fail
    go_roundw
    case rel=>exact ⟨k+1,by omega,by go_num,EU,aa ⟨_,rfl⟩⟩
    case measure=>simp [intOf];omega
  ·have h1:=hT.out
   rw [List.take_of_length_le (by omega)] at h1
   replace h1:=aa h1
   clear hT
   go_wp2
   go_ret
   exact ⟨_,rfl,h1.out.1,h1.out.2,hG.out⟩
theorem JJ {v:M'} (hr:gL w v ws.length (ax ws)) (hl:Low w v) (hn:ws.length<=1000):
 d_ p_ 48 #[v] w fun e w'=>∃u,e=.returned u/\w'.ownsRow w.heap.size 3 1 u ws.length (ws.map fun p=>Value.int .i64 p.1)/\g_ w.heap.size w w':=by
 obtain ⟨a₁,pC,sn⟩:=hr.1
 subst sn
 have hR:=aa hr
 have hL:=aa hl
 clear hr hl
 have e0:f_ ((w.alloc (.cells #[] 3)).ownsRow w.heap.size 3 1 (.slice (some ⟨w.heap.size,0,none⟩) 0 0) 0 []):=World.ownsRow_lit w #[] 0 (C_ _) (by decide) (by simp)
 have b0:f_ (g_ w.heap.size w (w.alloc (.cells #[] 3))):=(h_ _ _).alloc (C_ _) _
 go_enter func48,ntmps48
 go_wp2
 obtain ⟨i0,qJ,tX,rm,uF⟩:=info_parts CF
 go_loopw [3,4] (fun u i wr=>∃k:Nat,k<=ws.length/\i=.int .i64 k/\f_ (wr.ownsRow w.heap.size 3 1 u k ((ws.take k).map fun p=>Value.int .i64 p.1)/\g_ w.heap.size w wr)) (fun _ i _=>ws.length - (intOf i).toNat)
 case atStart=>exact ⟨0,Nat.zero_le _,rfl,e0.out,b0.out⟩
 case round=>
  clear e0 b0
  obtain ⟨k,hk,rfl,hT⟩:=hrel
  by_cases hlt:k<ws.length
  ·have gJ:(k:Int)<(ws.length:Int):=by omega
   obtain ⟨g,cap,hv,lJ,z0,z1⟩:=pR (hR.out.below hL.out hT.out.2) hlt
   injection hv with e1 e2 e3
   subst e1 e3
   have h1:f_ ((ws.take (k+1)).map (fun p=>Value.int .i64 p.1)=(ws.take k).map (fun p=>Value.int .i64 p.1)++[.int .i64 (ws[k]).1]):=by rw [f_,List.take_succ_eq_append_getElem hlt,List.map_append];rfl
   have ub:=aa hT.out.2.size
   generalize ws[k]=r at z0 z1 h1
   clear z1
   go_wp2_with (at_builtin;refine wpList_append_lies _ rfl (.tmp 12) (.tmp 18) 26 rfl w.heap.size 3 i0 _ 1 8 Tryz.underlying26 qJ tX rm uF rfl (by decide) _ _ _ rfl (hT.out.1.alloc _) ⟨wr.heap.size,0,none⟩ 1 1 [.int .i64 r.1] rfl rfl (fY wr _ _ rfl) ?c1 (by omega) ?c3 ?c4 ?c5 _ rfl ?_)
   case c1=>rfl
   case c3=>unfold maxLen;omega
   case c4=>omega
   case c5=>have:=ub.out;omega
   intro gg mW w6 jl kh iP mR
   have EU:f_ (w6.ownsRow w.heap.size 3 1 (.slice (some ⟨gg,0,none⟩) (k+1) mW) (k+1) ((ws.take (k+1)).map fun p=>Value.int .i64 p.1)/\g_ w.heap.size w w6):=by
    refine ⟨?_,(hT.out.2.alloc ub.out _).grown kh (by have:=ub.out;rw [B_];omega) fun g e=>(hT.out.1.lt g e).1⟩
    rw [h1.out];simpa using jl
   clear jl kh iP mR hT
   go_wp2_with fail
   go_roundw
   case rel=>exact ⟨k+1,by omega,by go_num,EU⟩
   case measure=>simp [intOf];omega
  ·have h1:=hT.out
   obtain rfl:k=ws.length:=by omega
   rw [List.take_length] at h1
   replace h1:=aa h1
   clear hT
   go_wp2
   go_ret
   exact ⟨_,rfl,h1.out⟩
def jD (L O P ck:Int) (vr vw vb vl:M'):M':=.agg #[.int .i64 L,.int .i64 O,.int .i64 P,.int .i64 ck,vr,vw,vb,vl]
def gi (L O P ck:Int) (vr vw vb vl:M'):Array M':=#[.int .i64 L,.int .i64 O,.int .i64 P,.int .i64 ck,vr,vw,vb,vl]
def kQ (rs:List Rec) (j:Nat) (l:Int):Bool:=(rs.take j).any fun r=>decide (r.line=l)&&isOpen r
theorem DX {j:Nat} {l:Int} (hj:j<rs.length):kQ rs (j+1) l=(kQ rs j l||(decide ((rs[j]).line=l)&&isOpen rs[j])):=by
 unfold kQ;rw [List.take_succ_eq_append_getElem hj,List.any_append];simp
theorem GQ {l:Int}:kQ rs rs.length l=lM rs l:=by unfold kQ lM;rw [List.take_length]
theorem xM (k:Nat) (rs:List Rec):bT (k+1) rs=bT k rs++(if lM rs ((k+1:Nat):Int)=true then [] else [((k+1:Nat):Int)]):=by
 unfold bT
 rw [List.range_succ,List.map_append,List.filter_append]
 congr 1
 by_cases h:lM rs ((k+1:Nat):Int)=true
 ·rw [if_pos h];simp only [S_,List.map_nil,List.filter_cons,h];rfl
 ·rw [if_neg h];simp only [Bool.not_eq_true] at h;simp only [S_,List.map_nil,List.filter_cons,h];rfl
theorem mV (k:Nat) (rs:List Rec):(bT k rs).length<=k:=by
 unfold bT
 exact D_ (List.length_filter_le _ _) (by simp)
theorem gG {B':Nat} {e n:Nat} {v:M'} (h:w.ownsRow B e sz v n xs) (hb:B'<=B):w.ownsRow B' e sz v n xs:=
 ⟨h.1,h.2.imp id fun ⟨g,cap,cur,h1,h2,h3⟩=>⟨g,cap,cur,h1,D_ hb h2,h3⟩⟩
variable {nl:Nat} {P:Int}
theorem rf {O ck:Int} {vr vw vb vl:M'} (hr:gL w vr rs.length (cj rs)) (hl:Low w vr) (hn:rs.length<=1000) (rp:nl<=1000):
 d_ p_ 43 #[jD (nl:Nat) O P ck vr vw vb vl] w fun e w'=>∃u,e=.returned u/\w'.ownsRow w.heap.size 3 1 u (bT nl rs).length ((bT nl rs).map (Value.int .i64))/\g_ w.heap.size w w':=by
 obtain ⟨a₁,pC,sn⟩:=hr.1
 subst sn
 obtain ⟨w1,cf⟩:∃w1,w.alloc (.cells (gi (nl:Nat) O P ck (.slice a₁ rs.length pC) vw vb vl) 63)=w1:=⟨_,rfl⟩
 have lr:f_ (w1.heap.size=w.heap.size+1):=by rw [<-cf];exact B_ ..
 have c0:w1.cell? ⟨w.heap.size,0,none⟩=some (.int .i64 (nl:Nat)):=by rw [<-cf];exact bJ rfl
 have c4:w1.cell? ⟨w.heap.size,4,none⟩=some (.slice a₁ rs.length pC):=by rw [<-cf];exact bJ rfl
 have eo:g_ w.heap.size w w1:=by rw [<-cf];exact (h_ _ _).alloc (C_ _) _
 have hR:=aa (hr.below hl eo)
 have hL:f_ (Low w1 (.slice a₁ rs.length pC)):=fun g hg=>by have:=hl g hg;have:=lr.out;omega
 have eo:=aa eo
 clear hr hl
 have e0:f_ ((w1.alloc (.cells #[] 3)).ownsRow w1.heap.size 3 1 (.slice (some ⟨w1.heap.size,0,none⟩) 0 0) 0 []):=World.ownsRow_lit w1 #[] 0 (C_ _) (by decide) (by simp)
 have b0:f_ (g_ w1.heap.size w1 (w1.alloc (.cells #[] 3))):=(h_ _ _).alloc (C_ _) _
 unfold gi at cf
 unfold jD
 go_enter func43,ntmps43
 go_wp2_with fail
 obtain ⟨i0,qJ,tX,rm,uF⟩:=info_parts CF
 clear cf
 go_loopw [3,4] (fun u i wr=>∃k:Nat,k<=nl/\i=.int .i64 ((k+1:Nat):Int)/\f_ (wr.ownsRow w1.heap.size 3 1 u (bT k rs).length ((bT k rs).map (Value.int .i64))/\g_ w1.heap.size w1 wr)) (fun _ i _=>nl+1 - (intOf i).toNat)
 case atStart=>exact ⟨0,Nat.zero_le _,rfl,e0.out,b0.out⟩
 case round=>
  clear e0 b0
  obtain ⟨k,hk,rfl,hT⟩:=hrel
  have d0:wr.cell? ⟨w.heap.size,0,none⟩=some (.int .i64 (nl:Nat)):=(hT.out.2.cell (p:=⟨w.heap.size,0,none⟩) (by have:=lr.out;show w.heap.size<_;omega)).trans c0
  have d4:wr.cell? ⟨w.heap.size,4,none⟩=some (.slice a₁ rs.length pC):=(hT.out.2.cell (p:=⟨w.heap.size,4,none⟩) (by have:=lr.out;show w.heap.size<_;omega)).trans c4
  have SG:=aa (hR.out.below hL.out hT.out.2)
  by_cases hlt:k<nl
  ·have gJ:((k+1:Nat):Int)<=(nl:Int):=by omega
   obtain ⟨l,hle⟩:∃l:Int,l=((k+1:Nat):Int):=⟨_,rfl⟩
   have Nk:=aa hle
   have Mb:1<=l:=by omega
   have Iv:l<=1001:=by omega
   rw [<-hle] at gJ ⊢
   have AZ:f_ (bT (k+1) rs=bT k rs++(if lM rs l=true then [] else [l])):=by rw [hle];exact xM k rs
   have yK:f_ ((bT k rs).length<=k):=mV k rs
   clear hle
   go_wp2_with fail
   go_loopw [5,6] (fun u i wr'=>∃j:Nat,j<=rs.length/\i=.int .i64 (j:Nat)/\u=.bool (kQ rs j l)/\wr=wr') (fun _ i _=>rs.length - (intOf i).toNat)
   case atStart=>exact ⟨0,Nat.zero_le _,rfl,rfl,rfl⟩
   case round=>
    obtain ⟨j,hj,rfl,rfl,rfl⟩:=hrel
    by_cases hjt:j<rs.length
    ·have hjt':(j:Int)<(rs.length:Int):=by omega
     obtain ⟨g,cap,hv,lJ,z0,z1,z2,z3,z4,z5,z6⟩:=nH SG.out hjt
     injection hv with e1 e2 e3
     subst e1 e3
     have AY:f_ (kQ rs (j+1) l=(kQ rs j l||(decide ((rs[j]).line=l)&&isOpen rs[j]))):=DX hjt
     generalize rs[j]=r at z0 z1 z2 z3 z4 z5 z6 AY
     clear z0 z2 z3 z4 z5
     cases hu:kQ rs j l
     ·by_cases hc:r.line=l
      ·by_cases hf:r.fin=eR
       ·rw [hf] at z6
        unfold eR at z6
        have h1:f_ (kQ rs (j+1) l=true):=by rw [f_,AY.out,hu];simp [hc,isOpen,hf]
        clear AY hu
        go_wp2_with fail
        go_roundw
        case rel=>exact ⟨j+1,by omega,by go_num,by rw [h1.out],trivial⟩
        case measure=>simp [intOf];omega
       ·have h1:f_ (kQ rs (j+1) l=false):=by rw [f_,AY.out,hu];simp [hc,isOpen,hf]
        have hne:=Ak hf
        generalize r.fin.toArray=q at z6 hne
        clear AY hu
        go_wp2_with fail
        go_roundw
        case rel=>exact ⟨j+1,by omega,by go_num,by rw [h1.out],trivial⟩
        case measure=>simp [intOf];omega
      ·have h1:f_ (kQ rs (j+1) l=false):=by rw [f_,AY.out,hu];simp [hc]
       clear AY hu z6
       go_wp2_with fail
       go_roundw
       case rel=>exact ⟨j+1,by omega,by go_num,by rw [h1.out],trivial⟩
       case measure=>simp [intOf];omega
     ·have h1:f_ (kQ rs (j+1) l=true):=by rw [f_,AY.out,hu];rfl
      clear AY hu z1 z6
      go_wp2_with fail
      go_roundw
      case rel=>exact ⟨j+1,by omega,by go_num,by rw [h1.out],trivial⟩
      case measure=>simp [intOf];omega
    ·obtain rfl:j=rs.length:=by omega
     have ub:=aa hT.out.2.size
     have FT:f_ (kQ rs rs.length l=lM rs l):=GQ
     cases hu:kQ rs rs.length l
     ·have h1:f_ (bT (k+1) rs=bT k rs++[l]):=by rw [f_,AZ.out,<-FT.out,hu];rfl
      clear hu FT AZ
      go_wp2_with (at_builtin;refine wpList_append_lies _ rfl (.tmp 44) (.tmp 46) 26 rfl w1.heap.size 3 i0 _ 1 8 Tryz.underlying26 qJ tX rm uF rfl (by decide) _ _ _ rfl (hT.out.1.alloc _) ⟨wr.heap.size,0,none⟩ 1 1 [.int .i64 l] rfl rfl (fY wr _ _ rfl) ?c1 (by omega) ?c3 ?c4 ?c5 _ rfl ?_)
      case c1=>first|rfl|(intro u hu;simp at hu;subst hu;rfl)
      case c3=>have:=yK.out;unfold maxLen;omega
      case c4=>have:=yK.out;omega
      case c5=>have:=ub.out;(try rw [B_]);omega
      intro gg mW w6 jl kh iP mR
      have EU:f_ (w6.ownsRow w1.heap.size 3 1 (.slice (some ⟨gg,0,none⟩) ((bT k rs).length+1) mW) (bT (k+1) rs).length ((bT (k+1) rs).map (Value.int .i64))/\g_ w1.heap.size w1 w6):=by
       refine ⟨?_,(hT.out.2.alloc ub.out _).grown kh (by have:=ub.out;rw [B_];omega) fun g e=>(hT.out.1.lt g e).1⟩
       rw [h1.out,K_,List.map_append];exact jl
      clear jl kh iP mR hT
      go_wp2_with fail
      go_roundw
      case rel=>exact ⟨k+1,by omega,by have:=Nk.out;go_num,EU⟩
      case measure=>have:=Nk.out;simp [intOf];omega
     ·have h1:f_ (bT (k+1) rs=bT k rs):=by rw [f_,AZ.out,<-FT.out,hu];simp
      clear hu FT AZ
      go_wp2_with fail
      go_roundw
      case rel=>exact ⟨k+1,by omega,by have:=Nk.out;go_num,by rw [h1.out];exact hT⟩
      case measure=>have:=Nk.out;simp [intOf];omega
  ·have h1:f_ (wr.ownsRow w.heap.size 3 1 u3 (bT nl rs).length ((bT nl rs).map (Value.int .i64))/\g_ w.heap.size w wr):=by
    have:=hT.out
    rw [show k=nl by omega] at this
    exact ⟨gG this.1 (by have:=lr.out;omega),eo.out.trans (this.2.mono (by have:=lr.out;omega))⟩
   have Nr:¬((k+1:Nat):Int)<=(nl:Int):=by omega
   clear hT
   go_wp2
   go_ret
   exact ⟨_,rfl,h1.out⟩
end
end Go.aC.Of
