/-
  FnWaiting, plainly.
-/
import Derived.Conc.LeavingOf
import Derived.ChangeShapes
import Derived.ChangeSlices
import Derived.WideShapes
import Derived.ChangeArms
import Derived.Deep.Slices
import Derived.Deep.Fields
import Derived.Deep.DeepHandedRow
import Derived.LaidLaws
import Derived.Lib.LaidTab
import Derived.ChangeOld
import Derived.SevenTiedAt
import Derived.Test.YtnjkbffmmgckeaaGreatDoorQaa
import Derived.Test.YtnjkbffmmgckeaaGreatDoorQab
import Derived.Test.YtnjkbffmmgckeaaGreatDoorQaf
set_option linter.all false
set_option maxRecDepth 100000
set_option maxHeartbeats 32000000
open Go renaming undef->I',World->J',Value->M',Calls->d_,FuncId->w_,Addr->z_
open Go.RowKit renaming Below->g_
open Go.RowKit.Below renaming refl->h_
open Option renaming getD_some->A_
open Nat renaming le_refl->C_,lt_of_lt_of_le->E_,zero_le->nz
open List renaming getElem?_eq_getElem->G_,length_append->K_,take_succ_eq_append_getElem->sC
open Option.some renaming inj->M_
open Bool renaming and_eq_true->T_,false_eq_true->qp
open Go.Proofs.Tryz renaming prog->p_
open Go.Frame renaming enter->fZ
open Go.Proofs.Tryz
namespace Go.aC.Of
section
open Go
theorem η {α:Type} [DecidableEq α]:∀(a b:List α),a.Nodup->(∀x∈a,x∈b)->a.length<=b.length
 |[],_,_,_=>nz _
 |x::a,b,hn,h=>by
  have hx:=h x (List.mem_cons_self ..)
  have bH:=List.nodup_cons.1 hn
  have:=η a (b.erase x) bH.2 fun y hy=>(List.mem_erase_of_ne (by intro e;rw [e] at hy;exact bH.1 hy)).2 (h y (List.mem_cons_of_mem _ hy))
  rw [List.length_erase_of_mem hx] at this
  have:=List.length_pos_of_mem hx
  rw [List.length_cons];omega
variable {α:Type}
theorem aEn [DecidableEq α] {a b:List α} (ha:a.Nodup) (hb:b.Nodup) (h:∀x,x∈a↔x∈b):a.length=b.length:=
 Nat.le_antisymm (η a b ha fun x=>(h x).1) (η b a hb fun x=>(h x).2)
theorem Uu {α:Type} (p:α->Bool):∀l:List α,(l.filter p).length+(l.filter fun x=> !p x).length=l.length
 |[]=>rfl
 |x::l=>by
  have:=Uu p l
  rw [List.filter_cons,List.filter_cons]
  cases p x
  ·simp only [Bool.not_false,if_true,if_false,List.length_cons,qp];omega
  ·simp only [Bool.not_true,if_true,if_false,List.length_cons,qp];omega
def NK (c:Int) (r:Raw) (a:Bs):Bool:=decide (r.kind=⟨#[114,105,110,103]⟩)&&decide (r.who=c)&&(decide (4<a.length)&&decide (a.take 4=[108,105,110,101]))
def HT (c:Int) (l:List (Raw × Bs)):Int:=l.foldl (fun x p=>if NK c p.1 p.2 then p.1.word else x) (-1)
theorem WH (c:Int) (l:List (Raw × Bs)) (p:Raw × Bs):HT c (l++[p])=if NK c p.1 p.2 then p.1.word else HT c l:=by
 unfold HT;rw [List.foldl_append];rfl
def aBg (ws:List (Int × Int)):Prop:=ws.Pairwise fun a b=>b.2<=a.2
structure aHy (evs:List Ev) (m:Rm):Prop where
 len:m.log.length=evs.length
 aEs:aBg m.wait
 pr:∀p∈m.wait,HT p.1 ((evs.map Ev.raw).zip m.log)=p.2/\0<=p.2/\p.2<=9
theorem aBc:∀(ws:List (Int × Int)) (x:Int × Int),aBg ws->aBg (gY ws (placeOf ws x.2) x)
 |[],x,_=>by simp [gY,placeOf,aBg]
 |a::l,x,h=>by
  have h':=List.pairwise_cons.1 h
  by_cases e:x.2<=a.2
  ·have hp:placeOf (a::l) x.2=placeOf l x.2+1:=by
    unfold placeOf;rw [List.takeWhile_cons,if_pos (decide_eq_true e)];rfl
   rw [hp]
   have ih:=aBc l x h'.2
   show aBg (a::gY l (placeOf l x.2) x)
   refine List.pairwise_cons.2 ⟨fun q hq=> ?_,ih⟩
   rcases xj.1 hq with rfl|hq
   ·exact e
   ·exact h'.1 q hq
  ·have hp:placeOf (a::l) x.2=0:=by
    unfold placeOf;rw [List.takeWhile_cons,if_neg (by simpa using e)];rfl
   rw [hp]
   show aBg (x::a::l)
   refine List.pairwise_cons.2 ⟨fun q hq=> ?_,h⟩
   rcases List.mem_cons.1 hq with rfl|hq
   ·omega
   ·have:=h'.1 q hq;omega
theorem aCs (P:Int) (q:Rm × Bs) (p:Int × Int):((fB P q p).1.wait).Sublist q.1.wait:=by
 unfold fB
 split
 ·exact List.Sublist.refl _
 ·split
  ·exact List.Sublist.refl _
  ·split
   ·show ((jJ q.1 _ _).wait).Sublist _
    unfold jJ
    split
    ·exact List.Sublist.refl _
    ·exact List.filter_sublist
   ·exact List.Sublist.refl _
theorem Vv (P:Int):∀(l:List (Int × Int)) (q:Rm × Bs),((l.foldl (fB P) q).1.wait).Sublist q.1.wait
 |[],_=>List.Sublist.refl _
 |p::l,q=>(Vv P l _).trans (aCs P q p)
theorem aCm (m:Rm) (i:Nat) (e:Bs):((jJ m i e).wait).Sublist m.wait:=by
 unfold jJ
 split
 ·exact List.Sublist.refl _
 ·exact List.filter_sublist
theorem aEq (m:Rm) (c:Int):((lv m c).1.wait).Sublist m.wait:=by
 unfold lv
 split
 ·split
  ·exact List.Sublist.refl _
  ·split
   ·exact aCm ..
   ·exact aCm ..
 ·split
  ·exact List.Sublist.refl _
  ·exact List.Sublist.refl _
theorem aBu (m:Rm) (op:Int):((hZ m op).1.wait).Sublist m.wait:=by
 unfold hZ
 split
 ·exact List.Sublist.refl _
 ·split
  ·exact List.Sublist.refl _
  ·split
   ·exact List.Sublist.refl _
   ·split
    ·exact List.Sublist.refl _
    ·exact List.filter_sublist
theorem aEu (nl:Nat) (m:Rm) (op:Int):((lD nl m op).1.wait).Sublist m.wait:=by
 unfold lD
 split
 ·exact List.Sublist.refl _
 ·split
  ·exact List.Sublist.refl _
  ·split
   ·exact List.Sublist.refl _
   ·exact List.Sublist.refl _
theorem MB {c:Int} {r:Raw} {a:Bs} (h:r.kind≠⟨#[114,105,110,103]⟩):NK c r a=false:=by unfold NK;rw [decide_eq_false h];rfl
theorem aEk {c:Int} {r:Raw} {a:Bs} (h:r.who≠c):NK c r a=false:=by unfold NK;rw [decide_eq_false h,Bool.and_false,Bool.false_and]
theorem Θ {c:Int} {r:Raw} {a:Bs} (h:a.length<=4\/a.take 4≠[108,105,110,101]):NK c r a=false:=by
 unfold NK
 rcases h with h|h
 ·rw [decide_eq_false (show ¬4<a.length by omega),Bool.false_and,Bool.and_false]
 ·rw [decide_eq_false h,Bool.and_false,Bool.and_false]
variable {nl no:Nat} {P:Int} {us:List Od} {evs:List Ev}
theorem aCr {n:Nat} {S:Hs} {m:Rm} (R:Rel nl no n S us m) (h:aHy evs m) {e:Ev} (he:e.good no):aHy (evs++[e]) (Ca nl P m e):=by
 have hl:((evs.map Ev.raw)++[e.raw]).zip (m.log++[(qy nl P m e).2])=(evs.map Ev.raw).zip m.log++[(e.raw,(qy nl P m e).2)]:=by
  rw [List.zip_append (by rw [List.length_map,h.len])];rfl
 have key:aBg (qy nl P m e).1.wait/\∀p∈(qy nl P m e).1.wait,(p∈m.wait/\NK p.1 e.raw (qy nl P m e).2=false)\/(NK p.1 e.raw (qy nl P m e).2=true/\e.raw.word=p.2/\0<=p.2/\p.2<=9):=by
  have sub:∀{ws:List (Int × Int)},ws.Sublist m.wait->(∀c,NK c e.raw (qy nl P m e).2=false)->aBg ws/\∀p∈ws,(p∈m.wait/\NK p.1 e.raw (qy nl P m e).2=false)\/(NK p.1 e.raw (qy nl P m e).2=true/\e.raw.word=p.2/\0<=p.2/\p.2<=9):=fun hs hr=>⟨h.aEs.sublist hs,fun p hp=>.inl ⟨hs.subset hp,hr p.1⟩⟩
  cases e with
  |ring c pt=>
   have hst:qy nl P m (.ring c pt)=kS nl m c pt:=rfl
   rw [hst] at sub ⊢
   by_cases hk:((dE m.recs c).isSome||im m c)=true
   ·have e1:kS nl m c pt=(m,tT):=by unfold kS;rw [if_pos hk]
    rw [e1] at sub ⊢
    exact sub (List.Sublist.refl _) fun c=>Θ (.inr (show (tT:Bs).take 4≠[108,105,110,101] by decide))
   ·rw [Bool.or_eq_true] at hk
    cases hf:AD nl m.recs with
    |nil=>
     have e1:kS nl m c pt=({m with back:=m.back++[(c,pt)]},KQ):=by unfold kS;rw [if_neg (by rw [Bool.or_eq_true];exact hk),hf]
     rw [e1] at sub ⊢
     exact sub (List.Sublist.refl _) fun c=>Θ (.inl (show (KQ:Bs).length<=4 by decide))
    |cons l t=>
     have ho:dE m.recs c=none:=by cases hx:dE m.recs c with|none=>rfl|some i=>rw [hx] at hk;exact absurd (.inl rfl) hk
     have e1:kS nl m c pt=({m with recs:=m.recs++[⟨c,l,0,m.clock, -1, -1,eR⟩],wait:=gY m.wait (placeOf m.wait pt) (c,pt)},jj++Lib.itoa l):=by unfold kS;rw [if_neg (by rw [Bool.or_eq_true];exact hk),hf]
     rw [e1]
     refine ⟨aBc m.wait (c,pt) h.aEs,fun p hp=> ?_⟩
     rcases xj.1 hp with rfl|hp
     ·refine .inr ⟨?_,rfl,he.2.1,he.2.2⟩
      unfold NK
      simp [Ev.raw,Ev.kind,Ev.who,jj]
     ·obtain ⟨i,r,hr,hc,_⟩:=R.w1 p hp
      refine .inl ⟨hp,aEk ?_⟩
      show c≠p.1
      rw [<-hc]
      exact fun e=>Ej ho i r hr e.symm
  |hang c=>exact sub (aEq m c) fun _=>MB (by show (⟨#[104,97,110,103]⟩:ByteArray)≠_;decide)
  |answer i=>exact sub (aBu m _) fun _=>MB (by show (⟨#[97,110,115,119,101,114]⟩:ByteArray)≠_;decide)
  |back i=>exact sub (aEu nl m _) fun _=>MB (by show (⟨#[114,101,116,117,114,110]⟩:ByteArray)≠_;decide)
  |wait d=>exact sub (Vv P m.wait _) fun _=>MB (by show (⟨#[119,97,105,116]⟩:ByteArray)≠_;decide)
 refine ⟨?_,key.1,fun p hp=> ?_⟩
 ·show ((qy nl P m e).1.log++[(qy nl P m e).2]).length=_
  rw [yZ,K_,K_,h.len];rfl
 ·show HT p.1 (((evs++[e]).map Ev.raw).zip ((qy nl P m e).1.log++[(qy nl P m e).2]))=p.2/\_
  rw [yZ,List.map_append,List.map_singleton,hl,WH]
  rcases key.2 p hp with ⟨h1,h2⟩|⟨h2,h3,h4⟩
  ·rw [h2];exact h.pr p h1
  ·rw [h2,if_pos rfl];exact ⟨h3,h4⟩
theorem WL {nl no:Nat} {ls:List Nat} {us:List Od} {P:Int} {evs:List Ev} (hd:ls.Nodup) (hl:ls.length=nl) (hu:us.length=no) (h0:∀u∈us,Od.k u=0) (he:∀e∈evs,Ev.good no e):∀k,k<=evs.length->aHy (evs.take k) (ja nl P (evs.take k))
 |0,_=>by rw [List.take_zero];exact ⟨rfl,List.Pairwise.nil,fun p hp=>by cases hp⟩
 |k+1,hk=>by
  have ih:=WL (P:=P) hd hl hu h0 he k (by omega)
  obtain ⟨R,_⟩:=wO (P:=P) hd hl hu h0 he k (by omega)
  rw [G6 (by omega),sC (by omega)]
  exact aCr (P:=P) R ih (he _ (List.getElem_mem (by omega)))
theorem open_pair {rs:List Rec} (g:LP nl no rs) {β:Type} (f:Rec->β) (hf:∀(i j:Nat) (r s:Rec),iA rs i r->iA rs j s->f r=f s->i=j) (p:Rec->Bool) (hp:∀r,p r=true->isOpen r=true):((rs.filter p).map f).Nodup:=by
 unfold List.Nodup
 rw [List.pairwise_map,List.pairwise_filter,List.pairwise_iff_getElem]
 intro i j hi hj vG hpi hpj e
 have o1:iA rs i rs[i]:=⟨G_ _,by have:=hp _ hpi;simpa [isOpen] using this⟩
 have o2:iA rs j rs[j]:=⟨G_ _,by have:=hp _ hpj;simpa [isOpen] using this⟩
 have:=hf i j _ _ o1 o2 e
 omega
structure aCn (L:Int) (rs:List Raw) (W B F:List Int) (R:List Rec) (A:List Bs):Prop where
 len:A.length=rs.length
 one:∀r∈R,r.fin=eR->(r.call∈W↔r.heard<0)/\r.call∉B
 cnt:((R.filter isOpen).length:Int)+F.length=L
 aKs:(W.length:Int)=(R.filter isOpen).length - (R.filter fun r=>isOpen r&&decide (0<=r.heard)).length
 prio:∀k (h:k<W.length),0<=HT W[k] (rs.zip A)/\HT W[k] (rs.zip A)<=9
 aEs:∀j k (h:k<W.length) (hj:j<k),HT W[k] (rs.zip A)<=HT W[j] (rs.zip A)
theorem aCt (he:∀e∈evs,Ev.good no e):aCn nl (evs.map Ev.raw) ((ja nl P evs).wait.map (·.1)) ((ja nl P evs).back.map (·.1)) (AD nl (ja nl P evs).recs) (ja nl P evs).recs (ja nl P evs).log:=by
 obtain ⟨o0,ho0⟩:∃o:Od,o.k=0:=⟨⟨0,0,0⟩,rfl⟩
 have hu:(List.replicate no o0).length=no:=List.length_replicate ..
 have h0:∀u∈List.replicate no o0,Od.k u=0:=fun u h=>by rw [List.eq_of_mem_replicate h];exact ho0
 have hl:(List.range nl).length=nl:=List.length_range ..
 have hS:=RY (P:=P) List.nodup_range hl hu h0 he evs.length (C_ _)
 obtain ⟨R,_⟩:=wO (P:=P) List.nodup_range hl hu h0 he evs.length (C_ _)
 have hI:=WL (P:=P) List.nodup_range hl hu h0 he evs.length (C_ _)
 rw [List.take_length] at hS R hI
 generalize ja nl P evs=m at *
 have hop:∀r∈m.recs,r.fin=eR->(r.op=0↔r.heard<0):=fun r hr ho=>by
  obtain ⟨_,k⟩:=(hS.2 r hr).isOpen ho
  have:=(hS.2 r hr).1
  rcases k with ⟨k1,k2⟩|⟨k1,k2,k3⟩<;>omega
 have Nb:∀r∈m.recs,r.fin=eR->(r.call∈m.wait.map (·.1)↔r.heard<0):=fun r hr ho=>by
  obtain ⟨i,hi⟩:=List.mem_iff_getElem?.1 hr
  rw [<-hop r hr ho]
  constructor
  ·intro hm
   obtain ⟨p,hp,hc⟩:=List.mem_map.1 hm
   obtain ⟨j,s,hs,hsc,h0⟩:=R.w1 p hp
   obtain rfl:=R.good.qM i j r s ⟨hi,ho⟩ hs (hc.symm.trans hsc.symm)
   have:=hi.symm.trans hs.1
   cases this;exact h0
  ·exact R.w2 i r ⟨hi,ho⟩
 have nop:∀r,isOpen r=true↔r.fin=eR:=fun r=>by simp [isOpen]
 refine ⟨by rw [List.length_map];exact hI.len,fun r hr ho=>⟨Nb r hr ho,fun hm=> ?_⟩, ?_, ?_,fun k hk=> ?_,fun j k hk hj=> ?_⟩
 ·obtain ⟨p,hp,hc⟩:=List.mem_map.1 hm
  obtain ⟨i,hi⟩:=List.mem_iff_getElem?.1 hr
  exact R.b1 p hp i r ⟨hi,ho⟩ hc.symm
 ·have hlen:((List.range nl).map fun i=>((i+1:Nat):Int)).length=nl:=by rw [List.length_map,List.length_range]
  have hs:=Uu (fun l=>lM m.recs l) ((List.range nl).map fun i=>((i+1:Nat):Int))
  have QM:((List.range nl).map fun i=>((i+1:Nat):Int)).Nodup:=by
   unfold List.Nodup
   rw [List.pairwise_map]
   exact List.nodup_range.imp fun h e=>h (by omega)
  have hq:=aEn (QM.filter fun l=>lM m.recs l) (open_pair R.good (·.line) R.good.FK isOpen fun _ h=>h) (fun x=>by
   rw [List.mem_filter,List.mem_map,List.mem_map,GR]
   constructor
   ·rintro ⟨_,i,r,hr,hx⟩
    exact ⟨r,List.mem_filter.2 ⟨at_mem hr.1,(nop r).2 hr.2⟩,hx⟩
   ·rintro ⟨r,hr,hx⟩
    obtain ⟨h1,h2⟩:=List.mem_filter.1 hr
    obtain ⟨i,hi⟩:=List.mem_iff_getElem?.1 h1
    have:=(R.good.G8 i r hi).1
    exact ⟨⟨(x - 1).toNat,List.mem_range.2 (by omega),by omega⟩,i,r,⟨hi,(nop r).1 h2⟩,hx⟩)
  rw [List.length_map] at hq
  unfold AD
  omega
 ·have hs:=Uu (fun r=>decide (0<=r.heard)) (m.recs.filter isOpen)
  rw [List.filter_filter,List.filter_filter] at hs
  have hq:=aEn R.w0 (open_pair R.good (·.call) R.good.qM (fun r=>(!decide (0<=r.heard))&&isOpen r) fun _ h=>(T_ _ _▸h).2) (fun x=>by
   constructor
   ·intro hm
    obtain ⟨p,hp,hc⟩:=List.mem_map.1 hm
    obtain ⟨j,s,hs,hsc,h0⟩:=R.w1 p hp
    refine List.mem_map.2 ⟨s,List.mem_filter.2 ⟨at_mem hs.1, ?_⟩,hsc.trans hc⟩
    have:=(hop s (at_mem hs.1) hs.2).1 h0
    rw [(nop s).2 hs.2,Bool.and_true,decide_eq_false (by omega)];rfl
   ·intro hm
    obtain ⟨r,hr,hx⟩:=List.mem_map.1 hm
    obtain ⟨h1,h2⟩:=List.mem_filter.1 hr
    rw [T_,nop] at h2
    have h3:r.heard<0:=by have:=h2.1;simpa using this
    rw [<-hx]
    exact (Nb r h1 h2.2).2 h3)
  rw [List.length_map,List.length_map] at hq
  have e1:(m.recs.filter fun r=>isOpen r&&decide (0<=r.heard)).length=(m.recs.filter fun r=>decide (0<=r.heard)&&isOpen r).length:=by congr 2;funext r;rw [Bool.and_comm]
  rw [e1,List.length_map]
  omega
 ·rw [List.length_map] at hk
  rw [List.getElem_map,(hI.pr _ (List.getElem_mem hk)).1]
  exact (hI.pr _ (List.getElem_mem hk)).2
 ·rw [List.length_map] at hk
  rw [List.getElem_map,List.getElem_map,(hI.pr _ (List.getElem_mem hk)).1,(hI.pr _ (List.getElem_mem (by omega))).1]
  exact (List.pairwise_iff_getElem.1 hI.aEs) j k (by omega) hk hj
end
section
open Go Go.Conc Go.Conc.Lib Go.ConcR Go.ConcR.Gen Go.aC Go.Proofs
open Go.RowKit hiding Hid
open Go.ConcN (upd upd_ne upd_same)
variable {w:J'} {L O P:Int} {ea:Option z_} {ec:Nat} {rs:List Raw}
theorem Zk (bR:fF w ea rs) (hlen:rs.length<=1048576):
 d_ p_ 35 #[.agg #[.int .i64 L,.int .i64 O,.int .i64 P],.slice ea rs.length ec] w fun e w'=>∃u R,e=.returned u/\w'.ownsRow w.heap.size 3 1 u R.length (R.map (Value.int .i64))/\g_ w.heap.size w w'/\O7 L O P rs R:=by
 obtain ⟨w1,cf,DF,jm⟩:=aHx w L O P
 obtain ⟨g0,g1,g2⟩:=aHw jm
 have hrun:=aa (aFb (L:=L) (O:=O) (P:=P) (ec:=ec) DF.out bR hlen)
 clear bR jm
 obtain ⟨Po,EW⟩:∃Po:Ending->J'->Prop,RowKit.Hid (Po=fun e w'=>∃u R,e=.returned u/\w'.ownsRow w.heap.size 3 1 u R.length (R.map (Value.int .i64))/\g_ w.heap.size w w'/\O7 L O P rs R):=⟨_,rfl⟩
 refine Calls.mono (R:=Po) ?_ (fun e w' h=>by rw [EW.out] at h;exact h)
 obtain ⟨ok,cK⟩:∃ok,da L O P rs=ok:=⟨_,rfl⟩
 have eU:=aa cK
 clear cK
 go_enter func35,ntmps35
 go_wp2_with fail
 refine hrun.out.mono ?_
 rintro e w2 ⟨m,ar,cr,aw,cw,ab,cb,al,bM,cl,w3,rfl,CK,R3,B3,h8,TP,Sp⟩
 obtain ⟨⟨a0,a1,a2,a3,a4,a5,a6,a7⟩,_⟩:=aG h8
 clear g0 g1 g2 h8
 rw [eU.out]
 go_wp2_with fail
 have hml:m.back.length<=1000:=by
  cases hx:da L O P rs with
  |false=>rw [TP.out hx];exact nz _
  |true=>
   obtain ⟨evs,uO,_,_,_,_,_,hk⟩:=pF hx
   rw [Sp.out hx evs uO];have:=hk.n3;omega
 refine (US R3.out.rd.2.2 R3.out.nN.2.2 hml).mono ?_
 rintro e w4 ⟨u,rfl,nS,CX⟩
 replace nS:=aa nS
 replace CX:=aa CX
 clear hml
 go_wp2_with fail
 rw [EW.out]
 refine ⟨_,m.back.map (·.1),rfl, ?_,B3.out.trans (CX.out.mono B3.out.size),fun h=>by rw [TP.out h];rfl,fun h evs he=>by rw [Sp.out h evs he]⟩
 have:=gG nS.out B3.out.size
 rw [List.length_map,List.map_map];exact this
end
section
open Go Go.Conc Go.Conc.Lib Go.ConcR Go.ConcR.Gen Go.aC Go.Proofs
open Go.RowKit hiding Hid Below
open Go.ConcN (upd upd_ne upd_same)
theorem aBf (a b:Option z_) (ca cb:Nat) (zs:List Int) (w:J') (hn:zs.length<=1048576) (hA:eW w a zs) (hB:eW w b zs):
 d_ p_ 34 #[.slice a zs.length ca,.slice b zs.length cb] w fun e w'=>e=.returned (.bool true)/\g_ w.heap.size w w':=by
 go_enter func34,ntmps34
 go_wp2
 go_loopw [5] (fun i wr=>∃k:Nat,k<=zs.length/\i=.int .i64 k/\g_ w.heap.size w wr) (fun i _=>zs.length - (intOf i).toNat)
 case atStart=>exact ⟨0,nz _,rfl,h_ _ _⟩
 case round=>
  obtain ⟨k,hk,rfl,hb⟩:=hrel
  by_cases hlt:k<zs.length
  ·obtain ⟨b1,aHz,rfl,aIf,aKz⟩:=(hA.below hb (C_ _)).at hlt
   obtain ⟨b2,aKn,rfl,aKq,aKy⟩:=(hB.below hb (C_ _)).at hlt
   have gJ:(k:Int)<(zs.length:Int):=by omega
   go_wp2
   go_quiet (fail)
   go_wp2
   go_roundw
   case rel=>exact ⟨k+1,by omega,by go_num,KU hb _⟩
   case measure=>simp [intOf];omega
  ·go_wp2
   go_ret
   exact ⟨rfl,hb⟩
noncomputable def yh:Code:=f7.body.getD .skip
def opens (R:List Rec):Nat:=(R.filter isOpen).length
def NR (R:List Rec):Nat:=(R.filter fun r=>isOpen r&&decide (0<=r.heard)).length
theorem Ξ (R:List Rec):opens R<=R.length:=List.length_filter_le _ _
theorem WN (R:List Rec):NR R<=R.length:=List.length_filter_le _ _
variable {k:Nat}
theorem aBn {R:List Rec} (h:k<R.length):opens (R.take (k+1))=opens (R.take k)+if isOpen R[k] then 1 else 0:=by
 unfold opens
 rw [sC h,List.filter_append,K_,List.filter_cons]
 cases isOpen R[k]<;>rfl
theorem aAq {R:List Rec} (h:k<R.length):NR (R.take (k+1))=NR (R.take k)+if (isOpen R[k]&&decide (0<=(R[k]).heard)) then 1 else 0:=by
 unfold NR
 rw [sC h,List.filter_append,K_,List.filter_cons]
 cases (isOpen R[k]&&decide (0<=(R[k]).heard))<;>rfl
variable {zs:List Int}
theorem aEl {c:Int} (h:k<zs.length):decide (c∈zs.take (k+1))=(decide (c∈zs.take k)||decide (zs[k]=c)):=by
 rw [sC h,Bool.eq_iff_iff]
 simp only [List.mem_append,List.mem_singleton,decide_eq_true_eq,Bool.or_eq_true]
 exact ⟨fun h=>h.imp id Eq.symm,fun h=>h.imp id Eq.symm⟩
noncomputable def LB7:Code:=match ai 11 yh with| .seq _ (.block _ (.loop c))=>c|_=>.skip
noncomputable def RB7:Code:=match LB7 with| .seq _ (.seq (.block _ (.seq _ (.seq _ c))) _)=>c|_=>.skip
def aKm (s:Bs):M':=.string ⟨s.toArray⟩
variable {w:J'} {a:Option z_} {A:List Bs} {i:Nat}
theorem aHs {c:Nat} (h:gL w (.slice a A.length c) A.length (A.map aKm)) (hi:i<A.length):∃g,a=some ⟨g,0,none⟩/\A.length<=c/\w.cell? ⟨g,i,none⟩=some (.string ⟨(A[i]).toArray⟩):=by
 obtain ⟨g,cap,hv,hc,hx⟩:=h.2 (by rw [List.length_map];omega)
 injection hv with h1 _ h3
 subst h3
 refine ⟨g,h1,hc, ?_⟩
 rw [hx i (by rw [List.length_map];exact hi),List.getElem?_map,G_ hi];rfl
variable {ds:List Dd}
theorem aFd (h:fF w a (ds.map Dd.raw)) (hi:i<ds.length):∃g,a=some ⟨g,0,none⟩/\w.cell? ⟨g,i * 3,none⟩=some (.string ⟨(ds[i]).act.toArray⟩)/\w.cell? ⟨g,i * 3+1,none⟩=some (.int .i64 (ds[i]).line)/\w.cell? ⟨g,i * 3+2,none⟩=some (.int .i64 (ds[i]).word):=by
 rcases h with h|⟨eb,cs,t,f,h1,h2,h3⟩
 ·rw [List.map_eq_nil_iff.1 h] at hi;cases hi
 ·obtain ⟨k0,k1,k2⟩:=h3 i (by rw [List.length_map];exact hi)
  rw [List.getElem_map] at k0 k1 k2
  exact ⟨eb,h1,(cV h2).trans k0,(cV h2).trans k1,(cV h2).trans k2⟩
variable {w':J'} {rs:List Raw} {B:Nat}
theorem aCo (h:fF w a rs) (k:g_ B w w') (hB:w.heap.size<=B):fF w' a rs:=by
 rcases h with h|⟨eb,cs,t,f,h1,h2,h3⟩
 ·exact .inl h
 ·exact .inr ⟨eb,cs,t,f,h1,(k.block eb (E_ (fw h2) hB)).trans h2,h3⟩
theorem Wg (ak:Bs):((⟨ak.toArray⟩:ByteArray).extract 0 4).toList=ak.take 4:=by
 rw [ByteArray.toList_eq,ByteArray.data_extract]
 simp
def aCa (c:Int) (d:Dd) (a:Bs):Prop:=d.act=[114,105,110,103]/\d.line=c/\4<a.length/\a.take 4=[108,105,110,101]
theorem Δ (c:Int) (d:Dd) (a:Bs):NK c d.raw a=true↔aCa c d a:=by
 unfold NK aCa
 simp only [T_,decide_eq_true_eq]
 have:d.raw.kind=⟨#[114,105,110,103]⟩↔d.act=[114,105,110,103]:=by
  constructor
  ·intro h
   have:=congrArg (fun x:ByteArray=>x.data.toList) h
   simpa [Dd.raw] using this
  ·intro h;unfold Dd.raw;rw [h]
 rw [this]
 exact ⟨fun ⟨⟨a,b⟩,c,d⟩=>⟨a,b,c,d⟩,fun ⟨a,b,c,d⟩=>⟨⟨a,b⟩,c,d⟩⟩
open Classical in
theorem aCp {c:Int} (hl:A.length=ds.length) (hk:k<ds.length) {ak:Bs} (ha:A[k]?=some ak):HT c (((ds.map Dd.raw).zip A).take (k+1))=if aCa c ds[k] ak then (ds[k]).word else HT c (((ds.map Dd.raw).zip A).take k):=by
 have hz:k<((ds.map Dd.raw).zip A).length:=by rw [List.length_zip,List.length_map];omega
 obtain ⟨_,rfl⟩:=List.getElem?_eq_some_iff.1 ha
 rw [sC hz,WH,List.getElem_zip,List.getElem_map]
 by_cases h:aCa c ds[k] A[k]
 ·rw [if_pos h,if_pos ((Δ ..).2 h)];rfl
 ·rw [if_neg h,if_neg (fun h2=>h ((Δ ..).1 h2))]
noncomputable def yP:Code:=f6.body.getD .skip
def aBb:List w_:=[21,26,27,28,29,30,31,42,43,50,51,52,53,54,62,63,64,74,75,76,77,78,82,83,84,85,86,107,108,109,110,111,112,113,114,115,116]
def ok6 (f:w_):Bool:=aBb.contains f
theorem E6 {bs:List Int} (h:Bg w a bs) (k:cG none w w'):Bg w' a bs:=by
 rcases h with h|⟨b,off,rfl,hb,hc⟩
 ·exact .inl h
 ·exact .inr ⟨b,off,rfl,E_ hb k.size,fun i hi=>k.cell (fun e=>by cases e) (hc i hi)⟩
theorem JK (h:qO w) (k:cG none w w'):qO w':=by
 obtain ⟨g,cs,e,f,h2,h3,h4⟩:=h
 exact ⟨g,cs,e,f,h2,k.blk _ _ _ _ (fun e=>by cases e) h3,h4⟩
variable {ta:Option z_}
theorem aBm (h:fF w ta rs) (k:cG none w w'):fF w' ta rs:=by
 rcases h with h|⟨eb,cs,t,f,h1,h2,h3⟩
 ·exact .inl h
 ·exact .inr ⟨eb,cs,t,f,h1,k.blk _ _ _ _ (fun e=>by cases e) h2,h3⟩
theorem aAx {v:M'} {n:Nat} {xs:List M'} (h:gL w v n xs) (k:cG none w w'):gL w' v n xs:=by
 refine ⟨h.1,fun hl=> ?_⟩
 obtain ⟨g,cap,hv,hc,hcell⟩:=h.2 hl
 refine ⟨g,cap,hv,hc,fun j hj=> ?_⟩
 have h0:=hcell j hj
 rw [G_ hj] at h0 ⊢
 exact k.cell (fun e=>by cases e) h0
theorem aBl {v:M'} {R:List Rec} (h:w.ownsRow B 44 7 v R.length (cj R)):gL w v R.length (cj R):=Ed h (fun hl=>by rw [Ad] at hl;omega)
theorem J4 {c:Nat} {ns:List Int} (h:w.ownsRow B 3 1 (.slice a ns.length c) ns.length (ns.map (Value.int .i64))):eW w a ns:=by
 obtain ⟨a',c',e,hi⟩:=aAf h
 injection e with e1 e2 e3
 subst e1
 exact hi
variable {L O P:Int} {R:List Int}
theorem i_ (h:qa L O P rs R):R.length<=1000:=by
 cases ha:da L O P rs with
 |false=>rw [h.1 ha];exact nz _
 |true=>
  obtain ⟨evs,he,_,_,hL,_⟩:=pF ha
  rw [h.2 ha evs he]
  have:=mV L.toNat (ja L.toNat P evs).recs
  omega
theorem l' (h:Xd L O P rs R):R.length<=1000:=by
 cases ha:da L O P rs with
 |false=>rw [h.1 ha];exact nz _
 |true=>
  obtain ⟨evs,he,_,_,_,_,_,hk⟩:=pF ha
  rw [h.2 ha evs he,List.length_map]
  have:=hk.n2
  omega
theorem eW.was {x:Option Nat} (h:eW w a zs) (k:cG x w w') (hx:∀g off,a=some ⟨g,off,none⟩->x≠some g):eW w' a zs:=by
 rcases h with h|⟨b,off,rfl,hb,hc⟩
 ·exact .inl h
 ·exact .inr ⟨b,off,rfl,E_ hb k.size,fun i hi=>k.cell (hx b off rfl) (hc i hi)⟩
noncomputable def ba:Code:=f3.body.getD .skip
def aEm:List w_:=[10,19,32,34,35,42,43,48,51,52,54,62,63,64,75,77,78,82,83,84,85,86,107,108,109,110,111,112,113,114,115,116]
def ok7 (f:w_):Bool:=aEm.contains f
theorem aEv:gM p_ ok7:=zh aEm (fun f h=>by unfold ok7 at h;simpa using h) (List.all_eq_true.1 (show (aEm.all (Al ok7))=true by kernel_rfl))
noncomputable def LA7:Code:=match LB7 with| .seq a _=>a|_=>.skip
noncomputable def L34:Code:=match LB7 with| .seq _ (.seq (.block _ (.seq a _)) _)=>a|_=>.skip
noncomputable def L35:Code:=match LB7 with| .seq _ (.seq (.block _ (.seq _ (.seq a _))) _)=>a|_=>.skip
noncomputable def L33:Code:=match LB7 with| .seq _ (.seq _ a)=>a|_=>.skip
noncomputable def L31:Code:=match ai 11 yh with| .seq a _=>a|_=>.skip
theorem aHv:LB7=.seq LA7 (.seq (.block 7 (.seq L34 (.seq L35 RB7))) L33):=by kernel_rfl
structure F7 (Y:Nat) (x y z:Int) (ta:Option z_) (ds:List Dd) (aW:Option z_) (Wt:List Int) (aB:Option z_) (Bk:List Int) (aF:Option z_) (Ff:List Int) (aR:Option z_) (cR:Nat) (Rs:List Rec) (w:J'):Prop where
 t:qO w
 y:w.heap[Y]?=some (.cells #[.int .i64 x,.int .i64 y,.int .i64 z] 28 (0,0))
 r:fF w ta (ds.map Dd.raw)
 a:eW w aW Wt
 b:eW w aB Bk
 c:eW w aF Ff
 d:gL w (.slice aR Rs.length cR) Rs.length (cj Rs)
variable {Y:Nat} {x y z:Int} {aW aB aF aR:Option z_} {Wt Bk Ff:List Int} {cR:Nat} {Rs:List Rec}
theorem F7.was (h:F7 Y x y z ta ds aW Wt aB Bk aF Ff aR cR Rs w) (k:cG none w w'):F7 Y x y z ta ds aW Wt aB Bk aF Ff aR cR Rs w':=
 ⟨JK h.t k,k.blk _ _ _ _ (fun e=>by cases e) h.y,aBm h.r k,h.a.was k (fun g off _ e=>by cases e),h.b.was k (fun g off _ e=>by cases e),h.c.was k (fun g off _ e=>by cases e),aAx h.d k⟩
theorem F7.g (h:F7 Y x y z ta ds aW Wt aB Bk aF Ff aR cR Rs w):w.cell? ⟨Y,0,none⟩=some (.int .i64 x)/\w.cell? ⟨Y,1,none⟩=some (.int .i64 y)/\w.cell? ⟨Y,2,none⟩=some (.int .i64 z):=⟨cV h.y,cV h.y,cV h.y⟩
variable {C:cS} {b o Bd:Nat} {Post:M'->J'->Prop} {wl:J'} {a:Act} {K:List Item}
theorem aIg {tmps:Array M'} {todo:List Item} (hL:Lay C wl) (h4:tmps[2]?=some (.bool true)):
 Can p_ C b o (fun v _=>v=.bool true) 0 (db Bd) wl (G {(base 7).at ⟨tmps,[]⟩ todo with mode:=.returning} []):=by
 refine Can.mono (Rs:=Alone) (Can.ends (v:=.bool true) hL rfl (fun w hw=> ?_) (fun _ _=>rfl)) (fun _ _ _ h=>h.1)
 have hr:(results f7 tmps).runT p_ w #[]=(.ok (.bool true) w,#[]):=by
  simp [results,Tryz.results7,h4,Sem.runT]
 refine ⟨seen p_ 7 #[], ?_, ?_⟩
 ·simp only [stepG,G,Frame.at,base,unwind,func7]
  rw [hr]
  simp [doReturn,GStep.after,Result.D6]
 ·intro e he;rw [seen_none] at he;simp at he
theorem cd7 {x:Code} (hL:Lay C wl) (h:∀T d W B,Eqd B (Go.aC.Behind p_ C b o Post 0 (db Bd) (base 7) K [])->RowKit.Hid (Eqd W (wl.re T d))->RowKit.Hid (cG none wl W)->x.wp p_ B a W) (hf:je p_ ok7 x=true:=by kernel_rfl) (hd:a.defers=[]:=by exact rfl):Can p_ C b o Post 0 (db Bd) wl (G ((base 7).at a (.code x::K)) []):=
 Can.cY aEv (cT Bd) hL (AB hf hd rfl ⟨_,func7⟩) fun T d W hW B hB=>h T d W B hB (aa hW) (.of_heap (by rw [hW.out];rfl))
theorem WT {x y:Code} (hL:Lay C wl) (h:Can p_ C b o Post 0 (db Bd) wl (G ((base 7).at a (.code x::.code y::K)) [])):Can p_ C b o Post 0 (db Bd) wl (G ((base 7).at a (.code (.seq x y)::K)) []):=Can.ctl (cT Bd) hL rfl (fun _=>stepG_seq) h
theorem pu7 {g:Goroutine} {q:Prop} (k:q) (m:Go.aC.Hid q->Can p_ C b o Post 0 (db Bd) wl g:=by
 intro hq
 refine cd7 hL fun T d W Bh hB ij kW=> ?_
 simp only [ai,LA7,L34,L33,L31,LB7,yh,f7,A_]
 go_wp2_with fail
 have hB:=hB.out
 subst hB
 intro hcut
 have hW:=ij.out.out
 subst hW
 exact Can.re hq.out T d):Can p_ C b o Post 0 (db Bd) wl g:=m ⟨k⟩
theorem er7 {p:Prop} (m:p:=by
 go_wp2_with fail
 have hB:=hB.out
 subst hB
 intro hcut todo
 have hW:=ij.out.out
 subst hW
 exact Can.re (aIg hL rfl) T d):p:=m
theorem o7 {f:Frame} {v:M'} {ops:Array Oper} {x:Oper} {rest:List Nat} {cs:List Frame} (hL:Lay C wl) (h:Can p_ C b o Post 0 (db Bd) wl (G (f.at (a.put x.dst v) (.inRegion ops rest::K)) cs)) (ho:ops[i]?=some x:=by exact rfl) (hw:Region.wanted x (yielded ops a.tmps)=true:=by exact rfl) (hk:f.kind≠.early:=by k_ne) (cK:fN p_ il x=true:=by kernel_rfl) (hx:∀T d,(execOp a.eval x).run p_ (wl.re T d)=.ok (.value v) (wl.re T d):=by (intro T d;go_simp)):Can p_ C b o Post 0 (db Bd) wl (G (f.at a (.inRegion ops (i::rest)::K)) cs):=
 Can.op (ok:=il) (cT Bd) hL ho hw hk cK fun T d=>⟨v,wl.re T d,hx T d,fun _=>Can.re h T d⟩
theorem ca7 {c:Code} {q:List Item->Prop} (k:q K) (m:∀K,Go.aC.Hid (q K)->Can p_ C b o Post 0 (db Bd) wl (G ((base 7).at a (.code c::K)) []):=by
 intro K hq
 simp only [ai,L35,LB7,yh,f7,A_]
 refine Can.ctl (cT _) hL rfl (fun _=>zb) ?_
 refine o7 (v:=.agg #[.int .i64 x,.int .i64 y,.int .i64 z]) hL ?_ (hx:=fun T d=> ?_)
 rotate_left
 ·obtain ⟨g0,g1,g2⟩:=(hX.out.was (.of_heap (w':=World.re _ T d) rfl)).g
  go_simp
 walk_nrm
 refine o7 (v:=.slice ta ds.length tc) hL ?_
 walk_nrm
 first
  |refine Can.ctl (cT _) hL rfl (fun _=>bY (vs:=#[.agg #[.int .i64 x,.int .i64 y,.int .i64 z],.slice ta ds.length tc]) rfl rfl (by k_ne) rfl func20 rfl rfl (by kernel_rfl)) ?_
  |refine Can.ctl (cT _) hL rfl (fun _=>bY (vs:=#[.agg #[.int .i64 x,.int .i64 y,.int .i64 z],.slice ta ds.length tc]) rfl rfl (by k_ne) rfl func33 rfl rfl (by kernel_rfl)) ?_
  |refine Can.ctl (cT _) hL rfl (fun _=>bY (vs:=#[.agg #[.int .i64 x,.int .i64 y,.int .i64 z],.slice ta ds.length tc]) rfl rfl (by k_ne) rfl func13 rfl rfl (by kernel_rfl)) ?_
  |refine Can.ctl (cT _) hL rfl (fun _=>bY (vs:=#[.agg #[.int .i64 x,.int .i64 y,.int .i64 z],.slice ta ds.length tc]) rfl rfl (by k_ne) rfl func22 rfl rfl (by kernel_rfl)) ?_
  |refine Can.ctl (cT _) hL rfl (fun _=>bY (vs:=#[.agg #[.int .i64 x,.int .i64 y,.int .i64 z],.slice ta ds.length tc]) rfl rfl (by k_ne) rfl func36 rfl rfl (by kernel_rfl)) ?_
 rw [<-HD.out]
 exact hq.out):Can p_ C b o Post 0 (db Bd) wl (G ((base 7).at a (.code c::K)) []):=m K ⟨k⟩
theorem aIa {y z:Int} {tc cW cF n1 n2:Nat} {z0 z1 z2 z6 z8 z9 z12 de dn dm z22 z23 z24 z25 z26 dD z28 dC dM z31 dQ dK dP dO dV z37 ey ew z40 eu eK eJ eI eH z46 eQ eN z49 en z51 iu z53 iF iE iD iC iB z59 nv nu np nk sW sV rH rG rF uu z70 yb z72 HC EV z75 z76 Cd By AF z80 z81 z82 z83 z84 z85 z86 z87 z88 z89 z90 z91 z92 z93 z94 z95 z96 z97 z98 z99 aKl aKk aKj aKi aKh z105 aKg z107 aKf z109 aKe aKd aKc aKb aKa aJz z116 z117 aJy z119 aJx aJw aJv aJu z124 aJt aJs z127 aJr aJq z130 z131 aJp aJo aJn aJm aJl aJk z138 z139 aJj z141 aJi z143 aJh z145 z146 aJg z148 aJf aJe aJd z152 aJc z154 aJb z156 z157 aJa z159 z160 aIz z162 aIy z164 aIx aIw z167 z168 aIv aIu z236 aIt aIs aIr aIq aIp aIo aIn aIm aIl aIk aIj aIi aIh:M'} (hlen:ds.length<=1000) (hlw:Wt.length<=1000) (hlf:Ff.length<=1000) (CP:n1<=1000) (L9:n2<=1000) (hlA:A.length=ds.length)
 (Uz:∀A',aBv x y z (ds.map Dd.raw) A'->A'=A) (aEo:∀k (h:k<Wt.length),0<=HT Wt[k] ((ds.map Dd.raw).zip A)) (aEp:∀j k (h:k<Wt.length) (hj:j<k),HT Wt[k] ((ds.map Dd.raw).zip A)<=HT Wt[j] ((ds.map Dd.raw).zip A))
 (Mh:(n1:Int)+Ff.length=x) (nj:(Wt.length:Int)=n1 - n2):
 ∀m j,Wt.length - j=m->j<=Wt.length->∀(C:cS) (b o Bd:Nat) (wl:J') (l0:Int) (q18 q19 q20 q21 aHr aHq aHp aHo aHn aHm aHl aHk aHj aHi aHh aHg aHf aHe aHd aHc aHb aHa aGz aGy aGx aGw aGv aGu aGt aGs aGr aGq aGp aGo aGn aGm aGl aGk aGj aGi aGh aGg aGf aGe aGd aGc aGb aGa aFz aFy aFx aFw aFv aFu aFt aFs aFr aFq aFp aFo aFn aFm aFl aFk aFj aFi aFh aFg aFe:M'),Bd+5 * m<950000000->Lay C wl->F7 Y x y z ta ds aW Wt aB Bk aF Ff aR cR Rs wl->(∀h:j<Wt.length,HT Wt[j] ((ds.map Dd.raw).zip A)<=l0)->
  Can p_ C b o (fun v _=>v=.bool true) 0 (db Bd) wl (G ((base 7).at ⟨#[z0,z1,z2,.pointer (some ⟨Y,0,none⟩),.slice ta ds.length tc,.slice aW Wt.length cW,z6,.slice aF Ff.length cF,z8,z9,.int .i64 (n1:Nat),.int .i64 (n2:Nat),z12,de,dn,dm,.int .i64 l0,.int .i64 (j:Nat),q18,q19,q20,q21,z22,z23,z24,z25,z26,dD,z28,dC,dM,z31,dQ,dK,dP,dO,dV,z37,ey,ew,z40,eu,eK,eJ,eI,eH,z46,eQ,eN,z49,en,z51,iu,z53,iF,iE,iD,iC,iB,z59,nv,nu,np,nk,sW,sV,rH,rG,rF,uu,z70,yb,z72,HC,EV,z75,z76,Cd,By,AF,z80,z81,z82,z83,z84,z85,z86,z87,z88,z89,z90,z91,z92,z93,z94,z95,z96,z97,z98,z99,aKl,aKk,aKj,aKi,aKh,z105,aKg,z107,aKf,z109,aKe,aKd,aKc,aKb,aKa,aJz,z116,z117,aJy,z119,aJx,aJw,aJv,aJu,z124,aJt,aJs,z127,aJr,aJq,z130,z131,aJp,aJo,aJn,aJm,aJl,aJk,z138,z139,aJj,z141,aJi,z143,aJh,z145,z146,aJg,z148,aJf,aJe,aJd,z152,aJc,z154,aJb,z156,z157,aJa,z159,z160,aIz,z162,aIy,z164,aIx,aIw,z167,z168,aIv,aHr,aHq,aHp,aHo,aHn,aHm,aHl,aHk,aHj,aHi,aHh,aHg,aHf,aHe,aHd,aHc,aHb,aHa,aGz,aGy,aGx,aGw,aGv,aGu,aGt,aGs,aGr,aGq,aGp,aGo,aGn,aGm,aGl,aGk,aGj,aGi,aGh,aGg,aGf,aGe,aGd,aGc,aGb,aGa,aFz,aFy,aFx,aFw,aFv,aFu,aFt,aFs,aFr,aFq,aFp,aFo,aFn,aFm,aFl,aFk,aFj,aFi,aFh,aFg,aFe,aIu,z236,aIt,aIs,aIr,aIq,aIp,aIo,aIn,aIm,aIl,aIk,aIj,aIi,aIh],[]⟩ [.code LB7,.inLoop LB7,.inBlock 6,.code (az 12 yh)]) []):=by
 have HD:=aa (show (ds.map Dd.raw).length=ds.length from List.length_map ..)
 replace Uz:=aa Uz
 replace aEo:=aa aEo
 replace aEp:=aa aEp
 replace hlA:=aa hlA
 replace Mh:=aa Mh
 replace nj:=aa nj
 intro m
 induction m with
 |zero=>
  intro j hm hj C b o Bd wl l0
  intros
  rename_i SI hL hX yd
  obtain rfl:j=Wt.length:=by omega
  have hlt:((Wt.length:Int)<(Wt.length:Int))=False:=by simp
  rw [aHv]
  refine WT hL ?_
  generalize hK:Item.code _::Item.inLoop _::_=K0
  simp only [LA7,LB7,ai,yh,f7,A_]
  refine WT hL ?_
  refine Can.ctl (cT _) hL rfl (fun _=>zb) ?_
  refine o7 (v:=.int .i64 (Wt.length:Nat)) hL ?_
  walk_nrm
  refine o7 (v:=.slice aW Wt.length cW) hL ?_
  walk_nrm
  refine o7 (v:=.int .i64 (Wt.length:Nat)) hL ?_
  walk_nrm
  refine hm3 (v:=.bool false) hL ?_
  walk_nrm
  refine Can.ctl (cT _) hL rfl (fun _=>stepG_cond rfl) ?_
  subst hK
  refine Can.ctl (cT _) hL rfl (fun _=>stepG_exit rfl) ?_
  have w1:IntKind.i64.wrap ((n1:Int)+(Ff.length:Int))=x:=by rw [IntWalk.i64_in _ (by omega)];exact Mh.out
  have w2:IntKind.i64.wrap ((n1:Int) - (n2:Int))=(Wt.length:Int):=by rw [IntWalk.i64_in _ (by omega)];exact nj.out.symm
  replace hX:=aa hX
  clear yd hm
  refine cd7 hL fun T d W Bh hB ij kW=> ?_
  obtain ⟨g0,_⟩:=(hX.out.was kW.out).g
  simp only [az,yh,f7,A_]
  exact er7
 |succ m ih=>
  intro j hm hj C b o Bd wl l0
  intros
  rename_i SI hL hX yd
  have hlt:j<Wt.length:=by omega
  have gJ:(j:Int)<(Wt.length:Int):=by omega
  replace hX:=aa hX
  replace ih:=aa ih
  have χ:=aEo.out j hlt
  have BI:=yd hlt
  have hjl:=hlt
  obtain ⟨c,hjc⟩:∃c,Wt[j]=c:=⟨_,rfl⟩
  obtain ⟨pz,hpz⟩:∃pz,HT c ((ds.map Dd.raw).zip A)=pz:=⟨_,rfl⟩
  rw [hjc,hpz] at χ BI
  replace hjc:=aa hjc
  replace hpz:=aa hpz
  replace χ:=aa χ
  replace BI:=aa BI
  clear yd
  rw [aHv]
  refine WT hL ?_
  refine pu7 ?_
  refine WT hL ?_
  refine Can.ctl (cT _) hL rfl (fun _=>stepG_block) ?_
  refine WT hL ?_
  refine pu7 ?_
  refine WT hL ?_
  refine ca7 ?_
  refine call36 hL (by rw [HD.out];omega) hX.out.r hX.out.t (by omega) ?_
  clear hL
  intro C2 b2 o2 w2 res A2 hL xq hsz bR xI
  rw [HD.out]
  walk_nrm
  obtain rfl:=Uz.out A2 xI
  obtain ⟨al,cl,FT⟩:=aE bR
  subst FT
  have hLg:=aa (Ed bR (fun hl=>by rw [List.length_map] at hl;exact hl))
  replace hX:=aa (hX.out.was (.JD xq hsz))
  generalize da x y z (ds.map Dd.raw)=Z8
  clear bR xI xq hsz
  refine o7 (v:=.tuple #[.slice al A2.length cl,.bool Z8]) hL ?_
  walk_nrm
  refine o7 (v:=.slice al A2.length cl) hL ?_
  walk_nrm
  refine o7 (v:=.bool Z8) hL ?_
  walk_nrm
  refine o7 (v:=.slice al A2.length cl) hL ?_
  walk_nrm
  refine hm3 (v:=.bool Z8) hL ?_
  walk_nrm
  clear hlt gJ
  have EL:(j:Int)<(Wt.length:Int):=by omega
  refine cd7 hL fun T d W Bh hB ij kW=> ?_
  replace hX:=aa (hX.out.was kW.out)
  replace hLg:=aa (aAx hLg.out kW.out)
  have h0:=χ.out
  have h1:=BI.out
  have hn:=aa (fun k hk ak ha=>aCp (c:=c) hlA.out (k:=k) hk (ak:=ak) ha)
  simp only [RB7,LB7,ai,yh,f7,A_]
  go_wp2
  go_loopw [21,18] (fun i u wr=>∃k:Nat,k<=ds.length/\i=.int .i64 k/\u=.int .i64 (HT c (((ds.map Dd.raw).zip A2).take k))/\g_ W.heap.size W wr) (fun i _ _=>ds.length - (intOf i).toNat)
  case atStart=>exact ⟨0,nz _,rfl,rfl,h_ _ _⟩
  case round=>
   obtain ⟨k,hk,rfl,rfl,hb⟩:=hrel
   by_cases hlt:k<ds.length
   ·obtain ⟨g1,rfl,e0,e1,e2⟩:=aFd (aCo hX.out.r hb (C_ _)) hlt
    obtain ⟨g2,aKn,rfl,aKq,i0⟩:=(hX.out.a.below hb (C_ _)).at hjl
    obtain ⟨g3,rfl,OU,a0⟩:=aHs (hLg.out.VG hb (C_ _)) (i:=k) (by rw [hlA.out];exact hlt)
    have gJ:(k:Int)<(ds.length:Int):=by omega
    have aEa:(k:Int)<(A2.length:Int):=by have:=hlA.out;omega
    have m1:=aa (hn.out k hlt _ (G_ (by rw [hlA.out];exact hlt)))
    rw [hjc.out] at i0
    generalize ds[k]=d at *
    generalize A2[k]'(by rw [hlA.out];exact hlt)=ak at *
    generalize HT c (((ds.map Dd.raw).zip A2).take k)=pk at *
    obtain ⟨act,line,word⟩:=d
    simp only at *
    replace m1:=aa m1
    by_cases q1:act=[114,105,110,103]
    ·subst q1
     by_cases q2:line=c
     ·subst q2
      by_cases q3:4<ak.length
      ·have q3':(4:Int)<(ak.length:Int):=by omega
       have aKw:(4:Int)<=(ak.length:Int):=by omega
       by_cases q4:ak.take 4=[108,105,110,101]
       ·have q5:(((⟨ak.toArray⟩:ByteArray).extract 0 4).toList==[108,105,110,101])=true:=by rw [Wg,q4];rfl
        have m2:=m1.out
        rw [if_pos ⟨rfl,rfl,q3,q4⟩] at m2
        go_wp2
        go_quiet (fail)
        go_wp2
        go_roundw
        case rel=>exact ⟨k+1,by omega,by go_num,by rw [m2],KU hb _⟩
        case measure=>simp [intOf];omega
       ·have q4':(ak.take 4==[108,105,110,101])=false:=by simpa using q4
        have q5:(((⟨ak.toArray⟩:ByteArray).extract 0 4).toList==[108,105,110,101])=false:=by rw [Wg];exact q4'
        have m2:=m1.out
        rw [if_neg (fun h=>q4 h.2.2.2)] at m2
        go_wp2
        go_quiet (fail)
        go_wp2
        go_roundw
        case rel=>exact ⟨k+1,by omega,by go_num,by rw [m2],KU hb _⟩
        case measure=>simp [intOf];omega
      ·have q3':((4:Int)<(ak.length:Int))=False:=eq_false (by omega)
       have m2:=m1.out
       rw [if_neg (fun h=>q3 h.2.2.1)] at m2
       go_wp2
       go_quiet (fail)
       go_wp2
       go_roundw
       case rel=>exact ⟨k+1,by omega,by go_num,by rw [m2],KU hb _⟩
       case measure=>simp [intOf];omega
     ·have Yq:(line==c)=false:=by simpa using q2
      have m2:=m1.out
      rw [if_neg (fun h=>q2 h.2.1)] at m2
      go_wp2
      go_quiet (fail)
      go_wp2
      go_roundw
      case rel=>exact ⟨k+1,by omega,by go_num,by rw [m2],KU hb _⟩
      case measure=>simp [intOf];omega
    ·have q1':(act==[114,105,110,103])=false:=by simpa using q1
     have m2:=m1.out
     rw [if_neg (fun h=>q1 h.1)] at m2
     clear q1
     go_wp2
     go_quiet (fail)
     go_wp2
     go_roundw
     case rel=>exact ⟨k+1,by omega,by go_num,by rw [m2],KU hb _⟩
     case measure=>simp [intOf];omega
   ·obtain rfl:k=ds.length:=by omega
    have hz:(((ds.map Dd.raw).zip A2).take ds.length)=(ds.map Dd.raw).zip A2:=List.take_of_length_le (by rw [List.length_zip,List.length_map];omega)
    rw [hz,hpz.out]
    have s1:(l0<pz)=False:=eq_false (by omega)
    have s2:(pz<0)=False:=eq_false (by omega)
    go_wp2
    have hB:=hB.out
    subst hB
    intro hcut
    replace hL:Lay C2 wr:=⟨hcut,hL.no⟩
    replace hX:=aa (hX.out.was (.bW hb))
    clear hcut hb kW ij hLg χ BI s1 s2 h0 h1 hn
    refine Can.ctl (cT _) hL rfl (fun _=>stepG_inBlock) ?_
    refine pu7 ?_
    refine Can.ctl (cT _) hL rfl (fun _=>stepG_inLoop) ?_
    rw [<-aHv]
    exact ih.out (j+1) (by omega) (by omega) C2 b2 o2 (Bd+5) wr _ _ _ _ _ _ _ _ _ _ _ _ _ _ _ _ _ _ _ _ _ _ _ _ _ _ _ _ _ _ _ _ _ _ _ _ _ _ _ _ _ _ _ _ _ _ _ _ _ _ _ _ _ _ _ _ _ _ _ _ _ _ _ _ _ _ _ _ _ _ (by omega) hL hX.out (fun h=>by have:=aEp.out j (j+1) h (Nat.lt_succ_self j);rw [hjc.out,hpz.out] at this;exact this)
theorem aAe (h:O7 L O P rs R):R.length<=1000:=by
 cases ha:da L O P rs with
 |false=>rw [h.1 ha];exact nz _
 |true=>
  obtain ⟨evs,he,_,_,_,_,_,hk⟩:=pF ha
  rw [h.2 ha evs he,List.length_map]
  have:=hk.n3
  omega
theorem aFc:gL w (.slice none ([]:List Rec).length 0) ([]:List Rec).length (cj []):=⟨⟨none,0,rfl⟩,fun h=>absurd h (Nat.lt_irrefl 0)⟩
theorem aKr:ai 11 yh=.seq L31 (.block 6 (.loop LB7)):=by kernel_rfl
def aLc:Code->Bool
 | .seq _ _=>true
 |_=>false
theorem aLb:∀(n:Nat) (c:Code),aLc (az n c)=true->az n c=.seq (ai n c) (az (n+1) c)
 |0,c,h=>by cases c<;>first|rfl|cases h
 |n+1,c,h=>by cases c<;>first|exact aLb n _ h|cases h
theorem tlS (n:Nat) (h:aLc (az n yh)=true:=by kernel_rfl):az n yh=.seq (ai n yh) (az (n+1) yh):=aLb n yh h
variable {tc:Nat}
theorem aCc (h:F7 Y x y z ta ds aW Wt aB Bk aF Ff aR cR Rs w) (hl:(ds.map Dd.raw).length=ds.length) (hd:ds.length<=16) (hA:Xd x y z (ds.map Dd.raw) Wt):d_ p_ 19 #[.agg #[.int .i64 x,.int .i64 y,.int .i64 z],.slice ta ds.length tc] w fun e w'=>∃u c,e=.returned (.slice u Wt.length c)/\eW w' u Wt/\F7 Y x y z ta ds aW Wt aB Bk aF Ff aR cR Rs w':=by
 have k:=W9 (L:=x) (O:=y) (P:=z) (ec:=tc) h.r (by rw [hl];omega)
 rw [hl] at k
 refine k.mono ?_
 rintro e w' ⟨u,R,rfl,bR,hb,xI⟩
 rw [Γ hA xI] at bR
 obtain ⟨a,c,rfl⟩:=aE bR
 exact ⟨a,c,rfl,J4 bR,h.was (.bW hb)⟩
theorem aCj (h:F7 Y x y z ta ds aW Wt aB Bk aF Ff aR cR Rs w) (hl:(ds.map Dd.raw).length=ds.length) (hd:ds.length<=16) (hA:O7 x y z (ds.map Dd.raw) Bk):d_ p_ 35 #[.agg #[.int .i64 x,.int .i64 y,.int .i64 z],.slice ta ds.length tc] w fun e w'=>∃u c,e=.returned (.slice u Bk.length c)/\eW w' u Bk/\F7 Y x y z ta ds aW Wt aB Bk aF Ff aR cR Rs w':=by
 have k:=Zk (L:=x) (O:=y) (P:=z) (ec:=tc) h.r (by rw [hl];omega)
 rw [hl] at k
 refine k.mono ?_
 rintro e w' ⟨u,R,rfl,bR,hb,xI⟩
 rw [Γ hA xI] at bR
 obtain ⟨a,c,rfl⟩:=aE bR
 exact ⟨a,c,rfl,J4 bR,h.was (.bW hb)⟩
theorem aCh (h:F7 Y x y z ta ds aW Wt aB Bk aF Ff aR cR Rs w) (hl:(ds.map Dd.raw).length=ds.length) (hd:ds.length<=16) (hA:qa x y z (ds.map Dd.raw) Ff):d_ p_ 10 #[.agg #[.int .i64 x,.int .i64 y,.int .i64 z],.slice ta ds.length tc] w fun e w'=>∃u c,e=.returned (.slice u Ff.length c)/\eW w' u Ff/\F7 Y x y z ta ds aW Wt aB Bk aF Ff aR cR Rs w':=by
 have k:=YD (L:=x) (O:=y) (P:=z) (ec:=tc) h.r (by rw [hl];omega)
 rw [hl] at k
 refine k.mono ?_
 rintro e w' ⟨u,R,rfl,bR,hb,xI⟩
 rw [Γ hA xI] at bR
 obtain ⟨a,c,rfl⟩:=aE bR
 exact ⟨a,c,rfl,J4 bR,h.was (.bW hb)⟩
theorem Wr {a b:Option z_} {ca cb:Nat} (h:F7 Y x y z ta ds aW Wt aB Bk aF Ff aR cR Rs w) (hn:R.length<=1048576) (i:eW w a R) (j:eW w b R):d_ p_ 34 #[.slice a R.length ca,.slice b R.length cb] w fun e w'=>e=.returned (.bool true)/\F7 Y x y z ta ds aW Wt aB Bk aF Ff aR cR Rs w':=
 (aBf a b ca cb R w hn i j).mono fun _ _ ⟨h1,h2⟩=>⟨h1,h.was (.bW h2)⟩
theorem aHu {p:M'}:fZ p_ 7 #[p] .normal=(base 7).at ⟨#[p,I',I',I',I',I',I',I',I',I',I',I',I',I',I',I',I',I',I',I',I',I',I',I',I',I',I',I',I',I',I',I',I',I',I',I',I',I',I',I',I',I',I',I',I',I',I',I',I',I',I',I',I',I',I',I',I',I',I',I',I',I',I',I',I',I',I',I',I',I',I',I',I',I',I',I',I',I',I',I',I',I',I',I',I',I',I',I',I',I',I',I',I',I',I',I',I',I',I',I',I',I',I',I',I',I',I',I',I',I',I',I',I',I',I',I',I',I',I',I',I',I',I',I',I',I',I',I',I',I',I',I',I',I',I',I',I',I',I',I',I',I',I',I',I',I',I',I',I',I',I',I',I',I',I',I',I',I',I',I',I',I',I',I',I',I',I',I',I',I',I',I',I',I',I',I',I',I',I',I',I',I',I',I',I',I',I',I',I',I',I',I',I',I',I',I',I',I',I',I',I',I',I',I',I',I',I',I',I',I',I',I',I',I',I',I',I',I',I',I',I',I',I',I',I',I',I',I',I',I',I',I',I',I',I',I',I',I',I',I',I',I',I',I',I',I',I',I',I',I'],[]⟩ [.code yh]:=by kernel_rfl
theorem aKo {o:Nat} {w0:J'} {a1:Option z_} {c1:Nat} {mT:List Int} (SI:Bd<900000000) (hL:Lay C w0) (hA:Bg w0 a1 mT) (Wm:∀n∈mT,PU n) (aBd:mT.length<=c1) (sr:qO w0):
 Can p_ C b o (fun v _=>v=.bool true) 0 (db Bd) w0 (G (fZ p_ 7 #[.slice a1 mT.length c1] .normal) []):=by
 replace hA:=aa hA
 replace sr:=aa sr
 rw [aHu,show yh=az 0 yh from rfl]
 rw [tlS 0]
 refine WT hL ?_
 refine pu7 ?_
 rw [tlS 1]
 refine WT hL ?_
 by_cases n1:(1048576:Int)<(mT.length:Int)
 ·refine cd7 hL fun T d W Bh hB ij kW=> ?_
  simp only [ai,yh,f7,A_]
  exact er7
 have n2:(mT.length:Int)<=1048576:=by omega
 clear n1
 refine pu7 ?_
 clear n2
 rw [tlS 2]
 refine WT hL ?_
 refine cd7 hL fun T d W Bh hB ij kW=> ?_
 simp only [ai,yh,f7,A_]
 go_wp2_with fail
 refine (aEt (E6 hA.out kW.out) Wm aBd).mono ?_
 rintro e wb ⟨x,y,z,ta,tc,ds,rfl,Gj,iw,hb⟩
 replace kW:=aa (kW.out.trans ((cG.bW hb).trans (.bW ((h_ wb.heap.size _).alloc (C_ _) (.cells #[.int .i64 x,.int .i64 y,.int .i64 z] 28)))))
 have hR:=aa (aAp (iw.alloc (.cells #[.int .i64 x,.int .i64 y,.int .i64 z] 28)))
 clear hb iw
 go_wp2_with fail
 have hB:=hB.out
 subst hB
 intro hcut
 have hX:=aa (F7.mk (JK sr.out kW.out) (heap_alloc_new wb (.cells #[.int .i64 x,.int .i64 y,.int .i64 z] 28)) hR.out (.inl rfl:eW _ none []) (.inl rfl:eW _ none []) (.inl rfl:eW _ none []) aFc)
 replace hL:Lay C (wb.alloc (.cells #[.int .i64 x,.int .i64 y,.int .i64 z] 28)):=⟨hcut,hL.no⟩
 have HD:=aa (show (ds.map Dd.raw).length=ds.length from List.length_map ..)
 clear kW ij sr hR hA hcut
 generalize wb.alloc (.cells #[.int .i64 x,.int .i64 y,.int .i64 z] 28)=w1 at *
 generalize wb.heap.size=Y at *
 rw [tlS 3]
 refine WT hL ?_
 refine ca7 ?_
 refine call20 hL (by rw [HD.out];omega) hX.out.r hX.out.t (by omega) ?_
 clear hL
 intro C1 b1 o1 w res Wt hL xq hsz bR aAy
 rw [HD.out]
 walk_nrm
 obtain ⟨aWt,cWt,FT⟩:=aE bR
 subst FT
 obtain ⟨t,yy,r,a,b',c,d⟩:=hX.out.was (.JD xq hsz)
 replace hX:=aa (F7.mk t yy r (J4 bR) b' c d)
 replace aAy:=aa aAy
 clear t yy r a b' c d xq hsz bR
 refine hm3 (v:=.slice aWt Wt.length cWt) hL ?_
 walk_nrm
 rw [tlS 4]
 refine WT hL ?_
 refine ca7 ?_
 refine call33 hL (by rw [HD.out];omega) hX.out.r hX.out.t (by omega) ?_
 clear hL
 intro C2 b2 o2 w res Bk hL xq hsz bR aBa
 rw [HD.out]
 walk_nrm
 obtain ⟨aBk,cBk,FT⟩:=aE bR
 subst FT
 obtain ⟨t,yy,r,a,b',c,d⟩:=hX.out.was (.JD xq hsz)
 replace hX:=aa (F7.mk t yy r a (J4 bR) c d)
 replace aBa:=aa aBa
 clear t yy r a b' c d xq hsz bR
 refine hm3 (v:=.slice aBk Bk.length cBk) hL ?_
 walk_nrm
 rw [tlS 5]
 refine WT hL ?_
 refine ca7 ?_
 refine call13 hL (by rw [HD.out];omega) hX.out.r hX.out.t (by omega) ?_
 clear hL
 intro C3 b3 o3 w res Ff hL xq hsz bR aAz
 rw [HD.out]
 walk_nrm
 obtain ⟨aFf,cFf,FT⟩:=aE bR
 subst FT
 obtain ⟨t,yy,r,a,b',c,d⟩:=hX.out.was (.JD xq hsz)
 replace hX:=aa (F7.mk t yy r a b' (J4 bR) d)
 replace aAz:=aa aAz
 clear t yy r a b' c d xq hsz bR
 refine hm3 (v:=.slice aFf Ff.length cFf) hL ?_
 walk_nrm
 rw [tlS 6]
 refine WT hL ?_
 refine ca7 ?_
 refine call22 hL (by rw [HD.out];omega) hX.out.r hX.out.t (by omega) ?_
 clear hL
 intro C4 b4 o4 w res Rs hL xq hsz bR aEr
 rw [HD.out]
 walk_nrm
 obtain ⟨aRs,cRs,FT⟩:=aE bR
 subst FT
 obtain ⟨t,yy,r,a,b',c,d⟩:=hX.out.was (.JD xq hsz)
 replace hX:=aa (F7.mk t yy r a b' c (aBl bR))
 replace aEr:=aa aEr
 clear t yy r a b' c d xq hsz bR
 obtain ⟨Z8,cK⟩:∃Z8,da x y z (ds.map Dd.raw)=Z8:=⟨_,rfl⟩
 rw [cK]
 refine o7 (v:=.tuple #[.slice aRs Rs.length cRs,.bool Z8]) hL ?_
 walk_nrm
 refine o7 (v:=.slice aRs Rs.length cRs) hL ?_
 walk_nrm
 refine o7 (v:=.bool Z8) hL ?_
 walk_nrm
 refine o7 (v:=.slice aRs Rs.length cRs) hL ?_
 walk_nrm
 refine hm3 (v:=.bool Z8) hL ?_
 walk_nrm
 replace cK:=aa cK
 have nW:Wt.length<=1000:=l' aAy.out
 have nB:Bk.length<=1000:=aAe aBa.out
 have nF:Ff.length<=1000:=i_ aAz.out
 have nR:Rs.length<=1000:=ψ aEr.out
 replace Gj:=aa Gj
 rw [tlS 7]
 refine WT hL ?_
 refine cd7 hL fun T d W Bh hB ij kW=> ?_
 replace hX:=aa (hX.out.was kW.out)
 obtain ⟨g0,g1,g2⟩:=hX.out.g
 simp only [ai,yh,f7,A_]
 cases Z8 with
 |false=>
  have y1:((Wt.length:Int)==0)=true:=by rw [aAy.out.1 cK.out];rfl
  have y2:((Bk.length:Int)==0)=true:=by rw [aBa.out.1 cK.out];rfl
  have y3:((Ff.length:Int)==0)=true:=by rw [aAz.out.1 cK.out];rfl
  go_wp2_with fail
  iterate 6
   first
    |with_reducible refine (aCc hX.out HD.out Gj.out aAy.out).mono ?_
    |with_reducible refine (aCj hX.out HD.out Gj.out aBa.out).mono ?_
    |with_reducible refine (aCh hX.out HD.out Gj.out aAz.out).mono ?_
   rintro e w ⟨u,v,rfl,i1,h⟩
   replace hX:=aa h
   clear g0 g1 g2 h
   obtain ⟨g0,g1,g2⟩:=hX.out.g
   replace i1:=aa i1
   go_wp2_with fail
   first
    |with_reducible refine (Wr hX.out (by omega) hX.out.a i1.out).mono ?_
    |with_reducible refine (Wr hX.out (by omega) hX.out.b i1.out).mono ?_
    |with_reducible refine (Wr hX.out (by omega) hX.out.c i1.out).mono ?_
   rintro e w ⟨rfl,h⟩
   replace hX:=aa h
   clear g0 g1 g2 h i1
   obtain ⟨g0,g1,g2⟩:=hX.out.g
   go_wp2_with fail
  have hB:=hB.out
  subst hB
  intro hcut todo
  replace hL:=(⟨hcut,hL.no⟩:Lay C4 _)
  exact aIg hL (by first|rfl|(show some (Value.bool ((Ff.length:Int)==0))=_;rw [y3]))
 |true=>
  obtain ⟨A,ω,Uz⟩:∃A,aCn x (ds.map Dd.raw) Wt Bk Ff Rs A/\∀A',aBv x y z (ds.map Dd.raw) A'->A'=A:=by
   obtain ⟨evs,he,hg,_,hx,_⟩:=pF cK.out
   refine ⟨(ja x.toNat z evs).log, ?_,fun A' h=>h.2 cK.out evs he⟩
   rw [aAy.out.2 cK.out evs he,aBa.out.2 cK.out evs he,aAz.out.2 cK.out evs he,aEr.out.2 cK.out evs he,he]
   have h:=aCt (nl:=x.toNat) (no:=y.toNat) (P:=z) hg
   rw [Int.toNat_of_nonneg (by omega)] at h
   exact h
  replace ω:=aa ω
  replace Uz:=aa Uz
  go_wp2_with fail
  iterate 3
   first
    |with_reducible refine (aCc hX.out HD.out Gj.out aAy.out).mono ?_
    |with_reducible refine (aCj hX.out HD.out Gj.out aBa.out).mono ?_
    |with_reducible refine (aCh hX.out HD.out Gj.out aAz.out).mono ?_
   rintro e w ⟨u,v,rfl,i1,h⟩
   replace hX:=aa h
   clear g0 g1 g2 h
   obtain ⟨g0,g1,g2⟩:=hX.out.g
   replace i1:=aa i1
   go_wp2_with fail
   first
    |with_reducible refine (Wr hX.out (by omega) hX.out.a i1.out).mono ?_
    |with_reducible refine (Wr hX.out (by omega) hX.out.b i1.out).mono ?_
    |with_reducible refine (Wr hX.out (by omega) hX.out.c i1.out).mono ?_
   rintro e w ⟨rfl,h⟩
   replace hX:=aa h
   clear g0 g1 g2 h i1
   obtain ⟨g0,g1,g2⟩:=hX.out.g
   go_wp2_with fail
  have hB:=hB.out
  subst hB
  intro hcut
  replace hL:=(⟨hcut,hL.no⟩:Lay C4 _)
  clear hcut ij kW g0 g1 g2 aAy aBa aAz aEr
  rw [tlS 8]
  refine WT hL ?_
  refine pu7 ?_
  rw [tlS 9]
  refine WT hL ?_
  refine cd7 hL fun T d W Bh hB ij kW=> ?_
  replace hX:=aa (hX.out.was kW.out)
  have Nb:=aa ω.out.one
  simp only [ai,yh,f7,A_]
  go_wp2
  go_loopw [12,10,11] (fun i u v wr=>∃k:Nat,k<=Rs.length/\i=.int .i64 k/\u=.int .i64 (opens (Rs.take k):Nat)/\v=.int .i64 (NR (Rs.take k):Nat)/\g_ W.heap.size W wr) (fun i _ _ _=>Rs.length - (intOf i).toNat)
  case atStart=>exact ⟨0,nz _,rfl,rfl,rfl,h_ _ _⟩
  case round=>
   obtain ⟨k,hk,rfl,rfl,rfl,hb⟩:=hrel
   by_cases hlt:k<Rs.length
   ·obtain ⟨g1,rfl,BK,p0,p1,p2,p3,p4,p5,p6⟩:=RP (hX.out.d.VG hb (C_ _)) hlt
    have gJ:(k:Int)<(Rs.length:Int):=by omega
    have CP:=aa (aBn hlt)
    have L9:=aa (aAq hlt)
    have Gd:=Ξ (Rs.take k)
    have Uo:=WN (Rs.take k)
    rw [List.length_take] at Gd Uo
    have hoo:=aa (Nb.out Rs[k] (List.getElem_mem hlt))
    generalize opens (Rs.take k)=n1 at *
    generalize NR (Rs.take k)=n2 at *
    obtain ⟨r,hre⟩:∃r,Rs[k]=r:=⟨_,rfl⟩
    have hre:=aa hre
    rw [hre.out] at p0 p1 p2 p3 p4 p5 p6 CP L9 hoo
    obtain ⟨r0,r1,r2,r3,r4,r5,r6⟩:=r
    simp only at *
    by_cases hop:r6=[111,112,101,110]
    ·subst hop
     obtain ⟨y1,y2⟩:=hoo.out rfl
     replace y1:=aa y1
     replace y2:=aa y2
     obtain ⟨ih,CS⟩:∃ih:Bool,decide (0<=r4)=ih:=⟨_,rfl⟩
     have aId:=aa CS
     have hio:isOpen ⟨r0,r1,r2,r3,r4,r5,[111,112,101,110]⟩=true:=decide_eq_true rfl
     have m1:=CP.out
     have m2:=L9.out
     rw [hio] at m1 m2
     simp only [Bool.true_and,if_true] at m1 m2
     rw [CS] at m2
     have Wx:=aa hlt
     have wr1:IntKind.i64.wrap ((n1:Int)+1)=((n1+1:Nat):Int):=by rw [IntWalk.i64_in _ (by omega)];rfl
     have wr2:IntKind.i64.wrap ((n2:Int)+1)=((n2+1:Nat):Int):=by rw [IntWalk.i64_in _ (by omega)];rfl
     replace m1:=aa m1
     replace m2:=aa m2
     clear CS hio hoo
     have hh:(0<=r4)=(ih=true):=by rw [<-aId.out,decide_eq_true_eq]
     have aBx:(r4<0)=(ih=false):=by rw [<-aId.out,decide_eq_false_iff_not,Int.not_le]
     have hmm:decide (r0∈Wt)= !ih:=by rw [Bool.eq_iff_iff,decide_eq_true_eq,y1.out,aBx];cases ih<;>simp
     replace hmm:=aa hmm
     cases ih
     all_goals
      simp only [reduceCtorEq,Bool.not_false,Bool.not_true] at hh aBx
      go_wp2
      go_loopw [14,13] (fun i u wr2=>∃n:Nat,n<=Wt.length/\i=.int .i64 n/\u=.bool (decide (r0∈Wt.take n))/\g_ W.heap.size W wr2) (fun i _ _=>Wt.length - (intOf i).toNat)
      case atStart=>exact ⟨0,nz _,rfl,by simp,hb⟩
      case round=>
       obtain ⟨n,hn,rfl,rfl,HJ⟩:=hrel
       by_cases aIb:n<Wt.length
       ·obtain ⟨b1,aHz,rfl,aIf,i1⟩:=(hX.out.a.below HJ (C_ _)).at aIb
        obtain ⟨g2,vI,_,t0,t1,t2,t3,t4,t5,t6⟩:=RP (hX.out.d.VG HJ (C_ _)) Wx.out
        injection vI with vI
        injection vI with vI
        subst vI
        rw [hre.out] at t0;simp only at t0
        have aKu:(n:Int)<(Wt.length:Int):=by omega
        have hmn:=aa (aEl (c:=r0) aIb)
        generalize decide (r0∈Wt.take n)=bm at *
        generalize Wt[n]=wn at *
        clear t1 t2 t3 t4 t5 t6 p0 p1 p2 p3 p4 p5 p6
        go_wp2
        cases bm
        ·go_quiet (fail)
         go_wp2
         go_roundw
         case rel=>exact ⟨n+1,by omega,by go_num,by rw [hmn.out];first|rfl|simp,KU HJ _⟩
         case measure=>simp [intOf];omega
        ·go_quiet (fail)
         go_wp2
         go_roundw
         case rel=>exact ⟨n+1,by omega,by go_num,by rw [hmn.out];first|rfl|simp,KU HJ _⟩
         case measure=>simp [intOf];omega
       ·obtain rfl:n=Wt.length:=by omega
        rw [List.take_length]
        go_wp2
        go_loopw [15] (fun i wr3=>∃n:Nat,n<=Bk.length/\i=.int .i64 n/\g_ W.heap.size W wr3) (fun i _=>Bk.length - (intOf i).toNat)
        case atStart=>exact ⟨0,nz _,rfl,HJ⟩
        case round=>
         obtain ⟨n,hn,rfl,Mi⟩:=hrel
         obtain ⟨g2,vI,_,t0,t1,t2,t3,t4,t5,t6⟩:=RP (hX.out.d.VG Mi (C_ _)) Wx.out
         injection vI with vI
         injection vI with vI
         subst vI
         rw [hre.out] at t0 t4
         simp only at t0 t4
         clear t1 t2 t3 t5 t6 p0 p1 p2 p3 p4 p5 p6
         by_cases aIc:n<Bk.length
         ·obtain ⟨b1,aHz,rfl,aIf,i1⟩:=(hX.out.b.below Mi (C_ _)).at aIc
          have aKv:(n:Int)<(Bk.length:Int):=by omega
          have hne:Bk[n]≠r0:=fun e=>y2.out (e▸List.getElem_mem aIc)
          generalize Bk[n]=bn at *
          go_wp2
          go_quiet (fail)
          go_wp2
          go_roundw
          case rel=>exact ⟨n+1,by omega,by go_num,KU Mi _⟩
          case measure=>simp [intOf];omega
         ·rw [hmm.out]
          simp only [Bool.not_false,Bool.not_true]
          go_wp2
          go_roundw
          case rel=>exact ⟨k+1,by omega,by go_num,by rw [m1.out];go_num,by rw [m2.out];first|rfl|go_num,Mi⟩
          case measure=>simp [intOf];omega
    ·have aKx:(r6==[111,112,101,110])=false:=by simpa using hop
     have hio:isOpen ⟨r0,r1,r2,r3,r4,r5,r6⟩=false:=by unfold isOpen;exact decide_eq_false hop
     have m1:=CP.out
     have m2:=L9.out
     rw [hio] at m1 m2
     simp only [Bool.false_and,qp,if_false,Nat.add_zero] at m1 m2
     clear hop hio hoo
     go_wp2
     go_roundw
     case rel=>exact ⟨k+1,by omega,by go_num,by rw [m1],by rw [m2],hb⟩
     case measure=>simp [intOf];omega
   ·obtain rfl:k=Rs.length:=by omega
    rw [List.take_length]
    go_wp2
    have hB:=hB.out
    subst hB
    intro hcut
    replace hL:Lay C4 wr:=⟨hcut,hL.no⟩
    replace hX:=aa (hX.out.was (.bW hb))
    clear hb hcut ij kW Nb
    rw [tlS 10]
    refine WT hL ?_
    refine pu7 ?_
    rw [tlS 11]
    refine WT hL ?_
    rw [aKr]
    refine WT hL ?_
    refine pu7 ?_
    refine Can.ctl (cT _) hL rfl (fun _=>stepG_block) ?_
    refine Can.ctl (cT _) hL rfl (fun _=>stepG_loop) ?_
    have no1:=Ξ Rs
    have no2:=WN Rs
    exact aIa (n1:=opens Rs) (n2:=NR Rs) (by have:=Gj.out;omega) nW nF (by omega) (by omega) (ω.out.len.trans HD.out) Uz.out (fun k h=>(ω.out.prio k h).1) ω.out.aEs ω.out.cnt ω.out.aKs Wt.length 0 rfl (nz _) C4 b4 o4 _ _ 9 _ _ _ _ _ _ _ _ _ _ _ _ _ _ _ _ _ _ _ _ _ _ _ _ _ _ _ _ _ _ _ _ _ _ _ _ _ _ _ _ _ _ _ _ _ _ _ _ _ _ _ _ _ _ _ _ _ _ _ _ _ _ _ _ _ _ _ _ _ (by omega) hL hX.out (fun h=>(ω.out.prio 0 h).2)
noncomputable def δ:Code:=f4.body.getD .skip
end
end Go.aC.Of
namespace Go
open Go.Conc
theorem Claim7.vE (Lk:Looks) {p:Pinned} {s:OpenSpec} {c:OpenClaim} (kinds:List LaidKind) (tests:Bool) (Rk:Bool × String) (lk:Bool)
 (hc:c.holds p s) (hw:c.wfByText s=true) (YR:c.laidByTextAt Lk p kinds tests)
 (hst:c.start=.entering) (BH:c.noBlocks=false/\c.again=false) (hm:p.checked.prog.mainIs=some (Rk.1,Rk.2.toList)) (hn:(!Rk.1&&Rk.2.isEmpty&& !lk)=false)
 (hl:∀f fn,p.checked.prog.funcNamed c.func=some f->p.checked.prog.funcs[f]?=some fn->lk=p.checked.prog.looks []/\∀(j:Nat) t,fn.params[j]?=some t->p.checked.prog.wantsStandIn t=false)
 (hg:true=c.goesBy p.checked.prog):
 Claim7.holds p (.plain s) {stood:={row:=c,standIns:=[],harness:=Rk,looks:=lk},kinds:=[],alts:=[],goes:=true,laidByText:=true,laidKinds:=kinds,laidTests:=tests,laidLooks:=Lk}:=by
 have h6:Claim7.isSixth {stood:={row:=c,standIns:=[],harness:=Rk,looks:=lk},kinds:=[]}=false:=by simpa [Claim7.isSixth] using hn
 have h1:=Claim7.tied_new_at Lk kinds tests (Claim7.new_of_sixth hc Rk lk hst BH hm h6 hl) hw
 exact ⟨h1,(fun D hD=>by cases hD),YR,(fun h=>by cases h),hg⟩
section
variable {H:Type} {enc:TypeId × M'->H}
theorem kI {a:Assume} {C:Checked} {os:Os} {f:w_} {fn:Func} {s:ChangeSpec} {conds:List PathCond} {apart fresh handsOn again:Bool} {laid:List (String × DataW Unit)}
 (own:ownKnob C.prog.godebug=none) (started:os.Started) (xF:C.prog.funcs[f]?=some fn)
 (witness:∃(w:J') (tape:Tape) (i:Input),w.os=os/\(w.forCall tape i).Shaped C.prog/\i.vars=[]/\Input.okWide C.prog (w.forCall tape i) .any w.heap.size f i/\
  (OpenSpec.ofChange s).preRow enc C.prog fn conds apart laid (w.forCall tape i).memory i.args/\a.holds C.prog (lone (fZ C.prog f i.args .normal) [] (w.forCall tape i)))
 (runs:∀(W:J') (base:Nat) (args:Array M') (ds gs:List (DataW H)) (before:List MemPlace),
  (∀(j:Nat) t v,fn.params[j]?=some t->args[j]?=some v->Value.okWide C.prog W .any base t v)->
  DataW.Whole enc C.prog fn.params.toList s.vars apart W args.toList ds gs before->
  laidMetH C.prog laid W->
  ∃M last o w' t',runNT C.prog (M+1) (solo (G (fZ C.prog f args .normal) []) W) #[]=(.ended o w',t')/\runN C.prog M (solo (G (fZ C.prog f args .normal) []) W)=.next last/\
   step C.prog last=.ended o w'/\Conc.Good C.prog (fun v W'=>s.post enc C.prog fn apart fresh handsOn again W args v W') last o w' t'):
 ReturnsInLeavingWide a C os f .any ((OpenSpec.ofChange s).preRow enc C.prog fn conds apart laid) (s.post enc C.prog fn apart fresh handsOn again):=by
 refine returnsInLeavingWide_of_good own started witness ?_
 intro w tape i _ _ _ cK Y2 _
 obtain ⟨_,_,_,fn',Zx,_,_,_,_,hval⟩:=cK
 have e:fn'=fn:=M_ (Zx.symm.trans xF)
 subst e
 obtain ⟨⟨hp,hl⟩,hz⟩:=Y2
 obtain ⟨ds,gs,before,hw,hc,hk⟩:=OpenSpec.pre_parts hp
 have gC:=DataW.Whole.of_heap (w':=w.forCall tape i) (by rfl) hw
 obtain ⟨M,last,o,w',t',h1,h2,h3,h4⟩:=runs (w.forCall tape i) w.heap.size i.args ds gs before hval gC (hl.of_heap (by rfl))
 exact ⟨M,last,o,w',t',h1,h2,h3,h4.mono fun v hp=>ChangeSpec.post_blind hp⟩
end
end Go
namespace Go.aC.Of
open Go Go.Conc Go.Conc.Lib Go.ConcR Go.ConcR.Gen Go.aC Go.Proofs
open Go.RowKit hiding Hid Below
open Go.Deep Go.ChangeShapes Go.WideShapes
def NZ (d:Dd):Prop:=d.act.length<=9223372036854775807/\True/\True
theorem yY {P:Program} {W:J'} {name:String} {k:IntKind} {zs:List Int} {g:Nat} {t e:TypeId} {n:Nat}
 (hg:P.globalNamed name=some g) (hty:(P.globals[g]?).map (·.type)=some t) (ht:P.underlying t=some (.array n e)) (he:P.underlying e=some (.int k)) (hce:P.cellsOf e=1) (Q9:P.cellsOf t=n):
 ∀{l:List (String × DataW Unit)} {ps:List MemPlace},DataW.LaidVars P W l ps->(name,Lib.tabData k zs)∈l->Lib.TabIs P W name k zs
 |[],_,_,h=>by cases h
 |(m,d)::r,ps,h,hm=>by
  obtain ⟨g',t',cs,fuel,p,q,iJ,M7,YO,hd,hr,_⟩:=h
  rcases List.mem_cons.1 hm with e1|hm
  ·cases e1
   obtain rfl:=M_ (hg.symm.trans iJ)
   obtain rfl:=M_ (hty.symm.trans M7)
   unfold Lib.TabIs
   rw [YO,<-Lib.cells_of_tab ht he hce Q9 hd]
  ·exact yY hg hty ht he hce Q9 hr hm
variable {W:J'}
theorem PS (h:Lib.TabIs p_ W "internal/strconv.uint64pow10" .u64 Lib.pow10Tab):qO (oR W):=by
 unfold Lib.TabIs World.var? at h
 cases hg:Tryz.prog.globalNamed "internal/strconv.uint64pow10" with
 |none=>rw [hg] at h;cases h
 |some g=>
  rw [hg] at h
  simp only [Option.bind_some] at h
  split at h
  ·rename_i cs t f hb
   obtain rfl:=M_ h
   exact ⟨g,_,t,_,hg,by rw [kR,hb];rfl,rfl⟩
  ·cases h
section
variable {H:Type} {enc:TypeId × M'->H} {base:Nat} {sp:Nat->Bool} {held:Bool}
end
end Go.aC.Of
