/-
  A step of a frame whose code holds only such operations is the same from a lesser world and beside w
-/
import Derived.Conc.Own
import Derived.Conc.Beside
import Derived.Below
import Derived.Conc.CrowdComm
import Derived.Conc.CrowdSel
import Derived.Conc.MarkLaws
import Derived.Conc.JoinTrace
import Derived.Test.YtnjkbffmmgckeaaGreatDoorPaa
set_option linter.all false
set_option maxRecDepth 100000
set_option maxHeartbeats 32000000
open Go renaming World->J',Value->M',Goroutine->O',TypeId->Q',Program->U',execOp->V',Frame->Y',FuncId->w_,Item->x_
open Nat renaming le_refl->C_,le_trans->D_,lt_of_lt_of_le->E_
open Array renaming getElem?_eq_getElem->H_,getElem?_setIfInBounds_ne->I_,mem_of_getElem?->l_
open Go.ConcN renaming upd_same->O_,upd_ne->P_
open List renaming mem_cons->R_
open Classical renaming byContradiction->j_
open Go.MemOp renaming ofEvents->cC
open Go.Frame renaming enter->fZ
open Ne renaming symm->ru
namespace Go.aC
section
open Go Go.Conc
def je (P:U') (ok:w_->Bool):Code->Bool
 | .skip| .ret| .label _| .exit _=>true
 | .region _ ops _=>ops.all (fN P ok)
 | .seq a b=>je P ok a&&je P ok b
 | .cond _ a b=>je P ok a&&je P ok b
 | .block _ b| .loop b=>je P ok b
 |_=>false
def mf (P:U') (ok:w_->Bool):x_->Bool
 | .code c=>je P ok c
 | .inBlock _=>true
 | .inLoop b=>je P ok b
 | .inRegion ops _=>ops.all (fN P ok)
 |_=>false
def gM (P:U') (ok:w_->Bool):Prop:=∀f fn,ok f=true->P.funcs[f]?=some fn->∀c,fn.body=some c->je P ok c=true
structure OkFr (P:U') (ok:w_->Bool) (fr:Y'):Prop where
 mode:fr.mode=.run\/fr.mode=.returning
 defers:fr.defers=[]
 kind:fr.kind=.normal
 round:fr.roundOf=none
 todo:∀it∈fr.todo,mf P ok it=true
 fn:∃fn,P.funcs[fr.fn]?=some fn
variable {P:U'}
theorem OkFr.bare {ok:w_->Bool} {fr:Y'} (h:OkFr P ok fr):fr.defers=[]/\(fr.mode=.run\/fr.mode=.returning)/\∃fn,P.funcs[fr.fn]?=some fn:=⟨h.defers,h.mode,h.fn⟩
structure Bw (P:U') (ok:w_->Bool) (fr:Y'):Prop extends OkFr P ok fr where
 some:fr.todo≠[]
def ext (t:List x_) (fr:Y'):Y':={fr with todo:=fr.todo++t}
theorem ext_nil (fr:Y'):ext [] fr=fr:=by cases fr;simp [ext]
@[simp] theorem RN (t:List x_) (fr:Y'):(ext t fr).fn=fr.fn:=rfl
@[simp] theorem VE (t:List x_) (fr:Y'):(ext t fr).tmps=fr.tmps:=rfl
@[simp] theorem KZ (t:List x_) (fr:Y'):(ext t fr).mode=fr.mode:=rfl
@[simp] theorem VF (t:List x_) (fr:Y'):(ext t fr).kind=fr.kind:=rfl
@[simp] theorem E4 (t:List x_) (fr:Y'):(ext t fr).defers=fr.defers:=rfl
@[simp] theorem SN (t:List x_) (fr:Y'):(ext t fr).roundOf=fr.roundOf:=rfl
@[simp] theorem VD (t:List x_) (fr:Y'):(ext t fr).todo=fr.todo++t:=rfl
def tl (K:List x_):List Y'->List x_
 |[]=>K
 |_::_=>[]
def AE (K:List x_):List Y'->List Y'
 |[]=>[]
 |f::X=>ext (tl K X) f::AE K X
theorem aAa (X:List Y'):tl [] X=[]:=by cases X<;>rfl
theorem xO:∀X:List Y',AE [] X=X
 |[]=>rfl
 |f::X=>by simp [AE,aAa,ext_nil,xO X]
def fR:List x_:=[.code (.refuse "")]
theorem rz {t:List x_} {id:Nat}:∀{k k':List x_},exitTo id k=some k'->exitTo id (k++t)=some (k'++t)
 |[],k',h=>by simp [exitTo] at h
 |x::k,k',h=>by
  cases x<;>simp only [exitTo,List.cons_append] at h ⊢<;>first
   |exact rz h
   |(split at h
     ·rename_i hc;cases h;simp [hc]
     ·rename_i hc;simp only [hc,if_false];exact rz h)
theorem pz {t:List x_} {id:Nat} (ht:exitTo id t=none):∀{k:List x_},exitTo id k=none->exitTo id (k++t)=none
 |[],h=>ht
 |x::k,h=>by
  cases x<;>simp only [exitTo,List.cons_append] at h ⊢<;>first
   |exact pz ht h
   |(split at h
     ·cases h
     ·rename_i hc;simp only [hc,if_false];exact pz ht h)
theorem nV {t:List x_} {fr:Y'} (h:fr.todo≠[]) (v:M'):(ext t fr).finish v=ext t (fr.finish v):=by
 obtain ⟨fn,tmps,todo,defers,mode,kind,roundOf⟩:=fr
 cases todo with
 |nil=>exact absurd rfl h
 |cons it k=>
  cases it<;>first
   |rfl
   |(rename_i ops td;cases td<;>rfl)
def Sync (wl w:J') (top:Nat):Prop:=∀i,wl.drawn+i<top->w.tape (w.drawn+i)=wl.tape (wl.drawn+i)
structure Mv (wl w aK w':J') (es:Array Event):Prop where
 weak:bI aK w'
 mono:wl.drawn<=aK.drawn
 drawn:w'.drawn+wl.drawn=w.drawn+aK.drawn
 upd:oA wl w w'
 gR:oA wl wl aK
 evs:∀e∈es,vR wl aK.heap.size e
 heap:wl.heap=w.heap->aK.heap=w'.heap
variable {wl w:J'}
theorem Mv.still (h:bI wl w):Mv wl w wl w #[]:=⟨h,C_ _,rfl,oA.refl _ _,oA.refl _ _,by simp,fun h=>h⟩
def U7 (P:U') (KS:List x_->Prop) (fr:Y') (X:List Y') (wl:J') (kF:Y') (X':List Y') (aK:J') (es:Array Event):Prop:=
 ∀(K:List x_) (main:Bool) (cs:List Y') (w:J'),KS K->bI wl w->Sync wl w aK.drawn->∃w',stepG P main (G (ext (tl K X) fr) (AE K X++cs)) w=.go (G (ext (tl K X') kF) (AE K X'++cs)) w' es/\Mv wl w aK w' es
theorem xN {e:Event} (g:Bool × Array Event->Event->Bool × Array Event) (hg:∀a x,(g a x).2=a.2\/(g a x).2=a.2.push x):∀(l:List Event) (a:Bool × Array Event),e∈(l.foldl g a).2->e∈a.2\/e∈l
 |[],a,h=>.inl h
 |x::l,a,h=>by
  rw [List.foldl_cons] at h
  rcases xN g hg l (g a x) h with h1|h1
  ·rcases hg a x with hp|hp
   ·exact .inl (hp▸h1)
   ·rw [hp,Array.mem_push] at h1
    rcases h1 with h1|rfl
    ·exact .inl h1
    ·exact .inr (by simp)
  ·exact .inr (by simp [h1])
variable {fn:w_} {es:Array Event}
theorem Ja {e:Event} (h:e∈seen P fn es):e∈es:=by
 unfold seen at h
 simp only [] at h
 rw [<-Array.foldl_toList] at h
 rcases xN _ (by
  rintro ⟨q,kept⟩ x
  simp only []
  split
  ·exact .inl rfl
  ·simp only []
   split
   ·exact .inl rfl
   ·exact .inr rfl) _ _ h with h|h
 ·simp at h
 ·simpa using h
def Plain (P:U') (ok:w_->Bool):Next->Prop
 | .value _| .skip=>True
 | .enter f _=>ok f=true/\rU P f=true
 |_=>False
def Yields {α:Type} (P:U') (s:Sem α) (Q:α->Prop):Prop:=∀w a w',s.run P w=.ok a w'->Q a
variable {α β:Type}
theorem bm {s:Sem α} {f:α->β} {Q:β->Prop} (h:∀a,Q (f a)):Yields P (s>>=fun a=>Pure.pure (f a)) Q:=by
 intro w b w' hb
 change (s.bind _).run P w=_ at hb
 rw [Sem.run_bind'] at hb
 cases hs:s.run P w with
 |ok a w1=>
  rw [hs] at hb
  have:(Result.ok (f a) w1:Result β)=.ok b w':=hb
  cases this;exact h a
 |halt hh w1=>rw [hs] at hb;cases hb
variable {a:α} {Q:α->Prop}
theorem oM (h:Q a):Yields P (Sem.pure a) Q:=fun _ _ _ hb=>by cases hb;exact h
theorem rJ (h:Q a):Yields P (Pure.pure a) Q:=oM h
theorem lL {s:Sem α} {f:α->Sem β} {Q:β->Prop} (h:∀a,Yields P (f a) Q):Yields P (s>>=f) Q:=by
 intro w b w' hb
 change (s.bind _).run P w=_ at hb
 rw [Sem.run_bind'] at hb
 cases hs:s.run P w with
 |ok a w1=>rw [hs] at hb;exact h a w1 b w' hb
 |halt hh w1=>rw [hs] at hb;cases hb
theorem uv {hh:Halt}:Yields P (Sem.halt hh) Q:=fun _ _ _ hb=>by cases hb
theorem zO (e:RuntimeError) (Q:α->Prop):Yields P (runtimePanic e) Q:=by
 unfold runtimePanic
 refine lL fun p=> ?_
 cases e<;>first
  |exact uv
  |exact lL fun _=>lL fun _=>uv
variable {f:w_}
theorem Aa (h:rU P f=true) (args:Array M') (w:J'):(callFunc f args).run P w=.ok (.enter f args) w:=by
 unfold rU at h
 split at h
 ·rename_i fn xF
  simp only [Bool.and_eq_true,bne_iff_ne,ne_eq] at h
  obtain ⟨hb,hn⟩:=h
  show ((Sem.program Sem.pure).bind _).run P w=_
  simp only [Sem.bind,Sem.run,xF]
  have h1:(fn.name== "runtime.NumGoroutine")=false:=by simpa using hn
  have h2:fn.body.isNone=false:=by cases hx:fn.body<;>simp [hx] at hb ⊢
  simp only [h1,h2,Bool.false_eq_true,if_false]
  rfl
 ·cases h
theorem Vo {ok:w_->Bool} {o:Oper} (h:fN P ok o=true) (a:Act):Yields P (V' a.eval o) (Plain P ok):=by
 obtain ⟨dst,op,type,pos,after,guard⟩:=o
 cases op with
 |move x=>exact oM trivial
 |assign x=>exact oM trivial
 |pick c x y=>exact bm (fun _=>trivial)
 |alloc e=>exact bm (fun _=>trivial)
 |box e x=>exact bm (fun _=>trivial)
 |build t ps=>exact bm (fun _=>trivial)
 |buildSlice t n ps=>exact bm (fun _=>trivial)
 |load t x=>exact bm (fun _=>trivial)
 |unOp op t x=>exact bm (fun _=>trivial)
 |makeFunc f x y=>exact bm (fun _=>trivial)
 |makeMap t r=>exact bm (fun _=>trivial)
 |makeChan t s=>exact bm (fun _=>trivial)
 |makeSlice t l c=>exact bm (fun _=>trivial)
 |slice t x l hh m=>exact bm (fun _=>trivial)
 |fieldAddr t x f=>exact bm (fun _=>trivial)
 |field t x f=>exact bm (fun _=>trivial)
 |indexAddr t x i=>exact bm (fun _=>trivial)
 |index t x i=>exact bm (fun _=>trivial)
 |range t x=>exact bm (fun _=>trivial)
 |extract x i=>exact bm (fun _=>trivial)
 |makeInterface t x=>exact bm (fun _=>trivial)
 |lookup t x i b=>exact bm (fun _=>trivial)
 |binOp op t x y u=>exact bm (fun _=>trivial)
 |convert x y z=>exact bm (fun _=>trivial)
 |store t x y=>exact bm (fun _=>trivial)
 |mapUpdate t m k v=>exact bm (fun _=>trivial)
 |insert t m k v=>exact bm (fun _=>trivial)
 |ready g=>exact absurd h (by simp [fN])
 |waits g=>exact absurd h (by simp [fN])
 |sliceToArrayPointer d x=>exact absurd h (by simp [fN])
 |mapEntry t m k=>exact absurd h (by simp [fN])
 |entryStore t m s v=>exact absurd h (by simp [fN])
 |next i b=>exact absurd h (by simp [fN])
 |entry i=>exact absurd h (by simp [fN])
 |typeAssert x t u b=>exact absurd h (by simp [fN])
 |go c=>exact absurd h (by simp [fN])
 |defer c=>exact absurd h (by simp [fN])
 |panic x=>exact bm (fun _=>trivial)
 |send c x=>exact absurd h (by simp [fN])
 |recv t c b=>exact absurd h (by simp [fN])
 |select cs b=>exact absurd h (by simp [fN])
 |nilCheck x=>
  show Yields P ((match a.eval x with
   | .pointer none| .nilIface| .nilFunc=>runtimePanic .nilDeref
   | .func (.method name) first captured=>
     match (first[0]?:Option M') with
     |some .nilIface=>runtimePanic .nilDeref
     |some (.iface t w)=>do
      if (<-nilAhead ((<-program).types.size+Made.depth) t w name) !=some false then
       unsupported (.noEntry "op/nilCheck.the method's receiver behind this interface value is a nil pointer, or cannot be seen to be none, and the arguments act or may panic (ledger 612)")
      pure (.value (.func (.method name) first captured))
     |_=>pure (.value (.func (.method name) first captured))
   |x=>pure (.value x)):Sem Next) _
  repeat' first
   |with_reducible exact zO _ _
   |with_reducible exact rJ trivial
   |with_reducible refine lL fun _=> ?_
   |split
  all_goals exact rJ trivial
 |call c=>
  obtain ⟨callee,args,argTypes⟩:=c
  cases callee with
  |value f=>
   cases f with
   |func f=>
    have hf:(ok f&&rU P f)=true:=h
    obtain ⟨h1,h2⟩:=Bool.and_eq_true_iff.1 hf
    intro w n w' hn
    have e:(V' a.eval {dst:=dst,op:=Op.call {callee:=Callee.value (Operand.func f),args:=args,argTypes:=argTypes},type:=type,pos:=pos,after:=after,guard:=guard}).run P w=(callFunc f ((#[]++args.map a.eval)++#[])).run P w:=rfl
    rw [e,Aa h2] at hn
    cases hn
    exact ⟨h1,h2⟩
   |_=>cases h
  |invoke r n=>cases h
  |builtin b=>
   cases b with
   |append=>exact bm (s:=Builtin.append_ argTypes type (args.map a.eval)) (fun _=>trivial)
   |len=>exact bm (s:=Builtin.len_ argTypes type (args.map a.eval)) (fun _=>trivial)
   |cap=>exact bm (s:=Builtin.cap_ argTypes type (args.map a.eval)) (fun _=>trivial)
   |copy=>exact bm (s:=Builtin.copy_ argTypes type (args.map a.eval)) (fun _=>trivial)
   |min=>exact bm (s:=Builtin.min_ argTypes type (args.map a.eval)) (fun _=>trivial)
   |clear=>exact bm (s:=Builtin.clear_ argTypes type (args.map a.eval)) (fun _=>trivial)
   |max=>exact bm (s:=Builtin.max_ argTypes type (args.map a.eval)) (fun _=>trivial)
   |delete=>exact bm (s:=Builtin.delete_ argTypes type (args.map a.eval)) (fun _=>trivial)
   |_=>cases h
theorem wU {ok:w_->Bool} (hp:gM P ok) (h1:ok f=true) (h2:rU P f=true) (args:Array M'):OkFr P ok (fZ P f args .normal):=by
 unfold rU at h2
 split at h2
 ·rename_i fn xF
  simp only [Bool.and_eq_true] at h2
  refine ⟨.inl rfl,rfl,rfl,rfl, ?_,⟨fn,xF⟩⟩
  intro it HF
  simp only [fZ,xF,Option.bind_some,List.mem_singleton] at HF
  subst HF
  cases hb:fn.body with
  |none=>simp [hb] at h2
  |some c=>exact hp f fn h1 xF c hb
 ·cases h2
variable {i:Nat}
theorem Hn {ok:w_->Bool} {ops:Array Oper} {td:List Nat} (h:mf P ok (.inRegion ops td)=true) {o:Oper} (ho:ops[i]?=some o):fN P ok o=true:=by
 have h':ops.all (fN P ok)=true:=h
 rw [Array.all_eq_true] at h'
 obtain ⟨hl,he⟩:=Array.getElem?_eq_some_iff.1 ho
 rw [<-he];exact h' i hl
theorem sL (fr:Y'):fr.eval=(⟨fr.tmps,fr.defers⟩:Act).eval:=funext fun x=>by cases x<;>rfl
theorem OkFr.S5 {ok:w_->Bool} {fr:Y'} (h:OkFr P ok fr) {k:List x_} (hk:∀it∈k,mf P ok it=true):OkFr P ok {fr with todo:=k}:=⟨h.mode,h.defers,h.kind,h.round,hk,h.fn⟩
theorem ry {P:U'} {ok:w_->Bool} {id:Nat}:∀{k k':List x_},exitTo id k=some k'->(∀it∈k,mf P ok it=true)->∀it∈k',mf P ok it=true
 |[],k',h,_=>by simp [exitTo] at h
 |x::k,k',h,hk=>by
  have yL:∀it∈k,mf P ok it=true:=fun it HF=>hk it (by simp [HF])
  cases x<;>simp only [exitTo] at h<;>first
   |exact ry h yL
   |(split at h
     ·cases h;exact yL
     ·exact ry h yL)
theorem OkFr.finish {ok:w_->Bool} {fr:Y'} (h:OkFr P ok fr) (v:M'):OkFr P ok (fr.finish v):=by
 obtain ⟨h1,h2,h3,h4,h5,h6⟩:=h
 unfold Frame.finish
 split
 ·rename_i ops i rest k hk
  refine ⟨h1,h2,h3,h4, ?_,h6⟩
  intro it HF
  rcases List.mem_cons.1 HF with rfl|HF
  ·exact h5 (.inRegion ops (i::rest)) (by rw [hk];simp)
  ·exact h5 it (by rw [hk];simp [HF])
 ·rename_i l k hk
  have:=h5 (.inRangeFunc l) (by rw [hk];simp)
  cases this
 ·rename_i k hk
  have:=h5 .beginRound (by rw [hk];simp)
  cases this
 ·rename_i d w r s k hk
  have:=h5 (.call d w r s) (by rw [hk];simp)
  cases this
 ·rename_i r a k hk
  have:=h5 _ (hk▸List.mem_cons_self)
  cases this
 ·exact ⟨h1,h2,h3,h4,h5,h6⟩
variable {ok:w_->Bool} {KS:List x_->Prop} {K₀:List x_}
inductive Dv (P:U') (ok:w_->Bool) (KS:List x_->Prop) (K₀:List x_) (fr:Y') (X base:List Y') (wl:J'):GStep->Prop
 |nice (kF:Y') (X':List Y') (aK:J') (es:Array Event):OkFr P ok kF->(∀x∈X',Bw P ok x)->U7 P KS fr X wl kF X' aK es->Dv P ok KS K₀ fr X base wl (.go (G (ext (tl K₀ X') kF) (AE K₀ X'++base)) aK es)
 |raised (chain:List PanicEntry) (aK:J') (es:Array Event):Dv P ok KS K₀ fr X base wl (.go (G {ext (tl K₀ X) fr with mode:=.panicking chain} (AE K₀ X++base)) aK es)
 |ended (o:Outcome) (w:J') (es:Array Event):Dv P ok KS K₀ fr X base wl (.ended o w es)
variable {X:List Y'}
theorem lz {fr:Y'} {base:List Y'} {s:GStep} (h:∃o w es,s=.ended o w es):Dv P ok KS K₀ fr X base wl s:=by
 obtain ⟨o,w,es,rfl⟩:=h
 exact .ended o w es
variable {kF:Y'}
theorem Cl {fr:Y'} (h:∀K main cs w,KS K->stepG P main (G (ext (tl K X) fr) (AE K X++cs)) w=.go (G (ext (tl K X) kF) (AE K X++cs)) w #[]):U7 P KS fr X wl kF X wl #[]:=
 fun K main cs w hK hw _=>⟨w,h K main cs w hK,Mv.still hw⟩
theorem cN (hK:KS K₀) {fr:Y'} {base:List Y'} (hX:∀x∈X,Bw P ok x) (hf:OkFr P ok kF) (h:∀K main cs w,KS K->stepG P main (G (ext (tl K X) fr) (AE K X++cs)) w=.go (G (ext (tl K X) kF) (AE K X++cs)) w #[]):
 Dv P ok KS K₀ fr X base wl (stepG P true (G (ext (tl K₀ X) fr) (AE K₀ X++base)) wl):=by
 rw [h K₀ true base wl hK]
 exact .nice kF X wl #[] hf hX (Cl h)
theorem oS {s:Sem α} (hs:ag P s) (hw:bI wl w) {r:Result α} (hr:s.runT P wl #[]=(r,es)) (hf:rE r) (C6:Sync wl w r.wd.drawn):
 ∃w',s.runT P w #[]=(r.D6 w',es)/\Mv wl w r.wd w' es:=by
 obtain ⟨w',h⟩:=(hs wl w #[] trivial hw).2 (by rw [hr];exact hf) (by rw [hr];exact C6)
 have h1:=h.run;have h2:=h.weak;have h3:=h.mono;have h4:=h.drawn;have h5:=h.upd;have h6:=h.gR;have h7:=h.evs;have h8:=h.heap
 rw [hr] at h1 h2 h3 h4 h6 h7 h8
 refine ⟨w',h1,h2,h3,h4,h5,h6,fun e he=> ?_,h8⟩
 obtain ⟨l,hl,hq⟩:=h7
 simp only at hl
 rw [hl] at he
 simp at he
 exact hq e he
theorem Ck {s:Sem α} (hs:Ds P s) (hw:bI wl wl) {r:Result α} (hr:s.runT P wl #[]=(r,es)):LM r:=by
 have:=(hs wl wl #[] hw hw).1
 rw [hr] at this;exact this
variable {w₁:J'}
theorem pO {s:Sem α} (hs:Ds P s) (hw:bI wl w) (hr:s.runT P wl #[]=(.ok a w₁,es)) (C6:Sync wl w w₁.drawn):
 ∃w',s.runT P w #[]=(.ok a w',es)/\Mv wl w w₁ w' es:=by
 obtain ⟨w',h⟩:=(hs wl w #[] hw.self hw).2 a w₁ (by rw [hr]) (by rw [hr];exact C6)
 have h1:=h.run;have h2:=h.weak;have h3:=h.mono;have h4:=h.drawn;have h5:=h.upd;have h6:=h.gR;have h7:=h.evs;have h8:=h.heap
 rw [hr] at h1 h2 h3 h4 h6 h7 h8
 refine ⟨w',h1,h2,h3,h4,h5,h6,fun e he=> ?_,h8⟩
 obtain ⟨l,hl,hq⟩:=h7
 simp only at hl
 rw [hl] at he
 simp at he
 exact hq e he
variable {aK w':J'}
theorem Mv.seen (h:Mv wl w aK w' es):Mv wl w aK w' (seen P fn es):=⟨h.weak,h.mono,h.drawn,h.upd,h.gR,fun e he=>h.evs e (Ja he),h.heap⟩
theorem Lw {ok:w_->Bool} {KS:List x_->Prop} (hp:gM P ok) (hK:KS K₀) (OY:∀id,exitTo id K₀=none) {fr:Y'} {base:List Y'} (AQ:bI wl wl) (hf:OkFr P ok fr) (hX:∀x∈X,Bw P ok x) (hm:fr.mode=.run)
 (hE:X=[]->fr.todo=[]->∀K,KS K->K=[]):
 Dv P ok KS K₀ fr X base wl (stepG P true (G (ext (tl K₀ X) fr) (AE K₀ X++base)) wl):=by
 have hX0:∀id,exitTo id (tl K₀ X)=none:=fun id=>by cases X with
  |nil=>exact OY id
  |cons x X=>rfl
 have hT:=hf.todo
 have ZA:=hf
 obtain ⟨fn,tmps,todo,defers,mode,kind,roundOf⟩:=fr
 obtain ⟨-, h2,h3,h4, -, h6⟩:=ZA
 simp only at h2 h3 h4 hm hT hE
 subst h2 h3 h4 hm
 have Iq:∀k:List x_,(∀it∈k,mf P ok it=true)->OkFr P ok {fn:=fn,tmps:=tmps,todo:=k,defers:=[],mode:=.run,kind:=.normal,roundOf:=none}:=fun k hk=>hf.S5 hk
 have Ot:OkFr P ok {fn:=fn,tmps:=tmps,todo:=todo,defers:=[],mode:=.returning,kind:=.normal,roundOf:=none}:=⟨.inr rfl,rfl,rfl,rfl,hT,h6⟩
 cases todo with
 |nil=>
  have ht:∀K,KS K->tl K X=[]:=fun K Vy=>by cases X with
   |nil=>exact hE rfl rfl K Vy
   |cons x X=>rfl
  exact cN hK hX Ot (fun K main cs w Vy=>by simp [stepG,stepG.exec,G,ext,ht K Vy])
 |cons it k=>
  have hk:∀x∈k,mf P ok x=true:=fun x hx=>hT x (by simp [hx])
  have hi:mf P ok it=true:=hT it (by simp)
  cases it with
  |inBlock id=>exact cN hK hX (Iq k hk) (fun K main cs w _=>by simp [stepG,stepG.exec,G,ext])
  |inLoop b=>exact cN hK hX (Iq (.code b::.inLoop b::k) (by intro x hx;simp only [R_] at hx;rcases hx with rfl|rfl|hx;exact hi;exact hi;exact hk x hx)) (fun K main cs w _=>by simp [stepG,stepG.exec,G,ext])
  |code c=>
   cases c with
   |skip=>exact cN hK hX (Iq k hk) (fun K main cs w _=>by simp [stepG,stepG.exec,G,ext])
   |label l=>exact cN hK hX (Iq k hk) (fun K main cs w _=>by simp [stepG,stepG.exec,G,ext])
   |ret=>exact cN hK hX Ot (fun K main cs w _=>by simp [stepG,stepG.exec,G,ext])
   |seq x y=>
    have BF:(je P ok x&&je P ok y)=true:=hi
    obtain ⟨h1,h2⟩:=Bool.and_eq_true_iff.1 BF
    exact cN hK hX (Iq (.code x::.code y::k) (by intro z hz;simp only [R_] at hz;rcases hz with rfl|rfl|hz;exact h1;exact h2;exact hk z hz)) (fun K main cs w _=>by simp [stepG,stepG.exec,G,ext])
   |block id b=>exact cN hK hX (Iq (.code b::.inBlock id::k) (by intro z hz;simp only [R_] at hz;rcases hz with rfl|rfl|hz;exact hi;rfl;exact hk z hz)) (fun K main cs w _=>by simp [stepG,stepG.exec,G,ext])
   |loop b=>exact cN hK hX (Iq (.code b::.inLoop b::k) (by intro z hz;simp only [R_] at hz;rcases hz with rfl|rfl|hz;exact hi;exact hi;exact hk z hz)) (fun K main cs w _=>by simp [stepG,stepG.exec,G,ext])
   |cond cc x y=>
    have BF:(je P ok x&&je P ok y)=true:=hi
    obtain ⟨h1,h2⟩:=Bool.and_eq_true_iff.1 BF
    cases hb:(⟨tmps,[]⟩:Act).eval cc with
    |bool b=>
     exact cN hK hX (Iq (.code (if b then x else y)::k) (by intro z hz;simp only [R_] at hz;rcases hz with rfl|hz;(cases b;exact h2;exact h1);exact hk z hz)) (fun K main cs w _=>by simp [stepG,stepG.exec,G,ext,sL,hb])
    |_=>exact lz (by simp [stepG,stepG.exec,G,ext,sL,hb])
   |exit id=>
    cases he:exitTo id k with
    |some k'=>exact cN hK hX (Iq k' (ry he hk)) (fun K main cs w _=>by simp [stepG,stepG.exec,G,ext,rz he])
    |none=>exact lz (by simp [stepG,stepG.exec,G,ext,pz (hX0 id) he])
   |region id ops draw=>
    have hr:∀td,mf P ok (.inRegion ops td)=true:=fun td=>hi
    cases draw with
    |false=>exact cN hK hX (Iq (.inRegion ops (List.range ops.size)::k) (by intro z hz;simp only [R_] at hz;rcases hz with rfl|hz;exact hr _;exact hk z hz)) (fun K main cs w _=>by simp [stepG,stepG.exec,G,ext])
    |true=>
     have e:∀K main cs w,stepG P main (G (ext (tl K X) {fn:=fn,tmps:=tmps,todo:=.code (.region id ops true)::k,defers:=[],mode:=.run,kind:=.normal,roundOf:=none}) (AE K X++cs)) w=
      .go (G (ext (tl K X) {fn:=fn,tmps:=tmps,todo:=.inRegion ops (Region.schedule (P.follows .mixedOrders) ops (w.tape w.drawn (.order fn id)))::k,defers:=[],mode:=.run,kind:=.normal,roundOf:=none}) (AE K X++cs)) {w with drawn:=w.drawn+1} #[]:=fun K main cs w=>by
      simp [stepG,stepG.exec,G,ext,choose,Sem.run,Question.forced,Question.cut]
     rw [e]
     refine .nice _ X _ _ (Iq _ (by intro z hz;simp only [R_] at hz;rcases hz with rfl|hz;exact hr _;exact hk z hz)) hX ?_
     intro K main cs w _ hw C6
     obtain ⟨w',h1,h2⟩:=oS (lg (P:=P) (.order fn id)) hw (r:=.ok (wl.tape wl.drawn (.order fn id)) {wl with drawn:=wl.drawn+1}) (es:=#[]) (by rfl) trivial C6
     have h3:(choose (.order fn id)).runT P w #[]=(.ok (w.tape w.drawn (.order fn id)) {w with drawn:=w.drawn+1},#[]):=rfl
     rw [h3] at h1
     have h4:=(Prod.mk.inj h1).1
     simp only [Result.D6,Result.ok.injEq] at h4
     exact ⟨w',by rw [e,h4.1,h4.2],h2⟩
   |_=>cases hi
  |inRegion ops td=>
   cases td with
   |nil=>exact cN hK hX (Iq k hk) (fun K main cs w _=>by simp [stepG,stepG.exec,G,ext])
   |cons i rest=>
    have Zz:=hf.finish
    by_cases hw:((ops[i]?).map (Region.wanted · (yielded ops tmps))).getD false=true
    ·cases ho:ops[i]? with
     |none=>simp [ho] at hw
     |some o=>
      have cK:=Hn hi ho
      obtain ⟨fr,kj⟩:∃fr:Y',({fn:=fn,tmps:=tmps,todo:=.inRegion ops (i::rest)::k,defers:=[],mode:=.run,kind:=.normal,roundOf:=none}:Y')=fr:=⟨_,rfl⟩
      have uO:fr.eval=(⟨tmps,[]⟩:Act).eval:=by rw [<-kj];exact sL _
      have e:∀K main cs w,stepG P main (G (ext (tl K X) fr) (AE K X++cs)) w=stepG.apply P true (ext (tl K X) fr) (AE K X++cs) none (V' (⟨tmps,[]⟩:Act).eval o) w:=fun K main cs w=>by
       have ZC:(ext (tl K X) fr).eval=(⟨tmps,[]⟩:Act).eval:=by rw [<-kj];exact sL _
       rw [<-ZC,<-kj]
       have wh:(Option.map (fun x=>Region.wanted x (yielded ops tmps)) (some o)).getD false=true:=by rw [<-ho];exact hw
       simp [stepG,stepG.exec,stepG.oper,G,Frame.oper?,ho,ext] at wh ⊢
       simp [wh]
      have hne:fr.todo≠[]:=by rw [<-kj];simp
      have Kr:=jh cK (⟨tmps,[]⟩:Act)
      have hyl:=Vo cK (⟨tmps,[]⟩:Act)
      generalize V' (⟨tmps,[]⟩:Act).eval o=s at *
      have Sz:fr.kind=.normal:=by rw [<-kj]
      have aDt:fr.roundOf=none:=by rw [<-kj]
      have YS:∃kk,fr.todo=.inRegion ops (i::rest)::kk:=⟨k,by rw [<-kj]⟩
      rw [kj] at hf Zz
      rw [kj]
      cases hr:s.runT P wl #[] with
      |mk r es=>
       have pk:s.run P wl=r:=by rw [<-Sem.runT_fst P s wl #[],hr]
       cases r with
       |ok n aK=>
        have yd:=hyl wl n aK pk
        have EI:∀w,bI wl w->Sync wl w aK.drawn->∃w',s.runT P w #[]=(.ok n w',es)/\Mv wl w aK w' es:=fun w hw hs=>pO Kr hw hr hs
        cases n with
        |value v=>
         have eg:∀K main cs w w',s.runT P w #[]=(.ok (.value v) w',es)->stepG P main (G (ext (tl K X) fr) (AE K X++cs)) w=.go (G (ext (tl K X) (fr.finish v)) (AE K X++cs)) w' (seen P fr.fn es):=fun K main cs w w' hq=>by
          rw [e,<-nV hne]
          simp only [stepG.apply,if_true,hq]
          simp [Sz,GStep.after,G]
         rw [eg K₀ true base wl aK hr]
         refine .nice _ X _ _ (Zz v) hX fun K main cs w _ hw hs=> ?_
         obtain ⟨w',h1,h2⟩:=EI w hw hs
         exact ⟨w',eg K main cs w w' h1,h2.seen⟩
        |skip=>
         have eg:∀K main cs w w',s.runT P w #[]=(.ok (.skip) w',es)->stepG P main (G (ext (tl K X) fr) (AE K X++cs)) w=.go (G (ext (tl K X) (fr.finish undef)) (AE K X++cs)) w' (seen P fr.fn es):=fun K main cs w w' hq=>by
          rw [e,<-nV hne]
          simp only [stepG.apply,if_true,hq]
          simp [Sz,GStep.after,G]
         rw [eg K₀ true base wl aK hr]
         refine .nice _ X _ _ (Zz _) hX fun K main cs w _ hw hs=> ?_
         obtain ⟨w',h1,h2⟩:=EI w hw hs
         exact ⟨w',eg K main cs w w' h1,h2.seen⟩
        |enter f args=>
         have eg:∀K main cs w w',s.runT P w #[]=(.ok (.enter f args) w',es)->stepG P main (G (ext (tl K X) fr) (AE K X++cs)) w=.go (G (ext (tl K (fr::X)) (fZ P f args .normal)) (AE K (fr::X)++cs)) w' (seen P fr.fn es):=fun K main cs w w' hq=>by
          obtain ⟨kk,hkk⟩:=YS
          rw [e]
          simp only [stepG.apply,if_true,hq]
          simp [Sz,GStep.after,G,hkk,tl,AE,ext_nil]
         rw [eg K₀ true base wl aK hr]
         refine .nice _ (fr::X) _ _ (wU hp yd.1 yd.2 args) (fun x hx=> ?_) fun K main cs w _ hw hs=> ?_
         ·rcases List.mem_cons.1 hx with rfl|hx
          ·exact ⟨hf,hne⟩
          ·exact hX x hx
         ·obtain ⟨w',h1,h2⟩:=EI w hw hs
          exact ⟨w',eg K main cs w w' h1,h2.seen⟩
        |_=>exact yd.elim
       |halt h aK=>
        cases h with
        |panic v=>
         have eg:stepG P true (G (ext (tl K₀ X) fr) (AE K₀ X++base)) wl=.go (G {ext (tl K₀ X) fr with mode:=.panicking [{v,recovered:=false}]} (AE K₀ X++base)) aK (seen P fr.fn es):=by
          rw [e]
          simp only [stepG.apply,if_true,hr]
          have hmd:fr.mode=.run:=by rw [<-kj]
          simp [Sz,GStep.after,G,Frame.raise,hmd]
         rw [eg]
         exact .raised _ _ _
        |stuck m=>exact lz (by rw [e];simp only [stepG.apply,if_true,hr];simp [Sz,GStep.after])
        |unsupported u=>
         have ho:=Ck Kr AQ hr
         cases u with
         |initOrder g=>exact ho.elim
         |_=>exact lz (by rw [e];simp only [stepG.apply,if_true,hr];simp [Sz,GStep.after])
        |_=>exact (Ck Kr AQ hr).elim
    ·have wh:((ops[i]?).map (Region.wanted · (yielded ops tmps))).getD false=false:=by simpa using hw
     exact cN hK hX (hf.finish undef) (fun K main cs w _=>by
      rw [<-nV (by simp)]
      simp [stepG,stepG.exec,G,ext] at wh ⊢;simp [wh])
  |_=>cases hi
theorem iH (fn:Func) (tmps:Array M'):ag P (results fn tmps):=by
 unfold results
 refine af (jO (fun r=> ?_) _) fun vs=>aj _
 cases r with
 |tmp t=>exact aj _
 |cell a t=>exact af (pd _) fun a=>oh _ _
theorem Lx {ok:w_->Bool} {KS:List x_->Prop} (hK:KS K₀) {fr x:Y'} {base:List Y'} (AQ:bI wl wl) (hf:OkFr P ok fr) (hx:Bw P ok x) (hX:∀y∈X,Bw P ok y) (hm:fr.mode=.returning):
 Dv P ok KS K₀ fr (x::X) base wl (stepG P true (G (ext (tl K₀ (x::X)) fr) (AE K₀ (x::X)++base)) wl):=by
 obtain ⟨fn,xF⟩:=hf.fn
 have e:∀K main cs w,stepG P main (G (ext (tl K (x::X)) fr) (AE K (x::X)++cs)) w=
  GStep.after (seen P fr.fn ((results fn fr.tmps).runT P w #[]).2) (match ((results fn fr.tmps).runT P w #[]).1 with
   | .ok v w=>doReturn P main fr ((ext (tl K X) x::AE K X)++cs) none v w
   | .halt (.stuck s) w=>.ended (.stuck s (fr.pos P)) w
   | .halt _ w=>.ended (.stuck "return: the result variables cannot be read" (fr.pos P)) w):=fun K main cs w=>by
  show stepG P main (G (ext [] fr) _) w=_
  rw [ext_nil]
  simp only [stepG,G,hm,unwind,hf.defers,xF]
  rfl
 have Kr:=iH (P:=P) fn fr.tmps
 cases hr:(results fn fr.tmps).runT P wl #[] with
 |mk r es=>
  cases r with
  |ok v aK=>
   have eg:∀K main cs w w',(results fn fr.tmps).runT P w #[]=(.ok v w',es)->stepG P main (G (ext (tl K (x::X)) fr) (AE K (x::X)++cs)) w=.go (G (ext (tl K X) (x.finish v)) (AE K X++cs)) w' (seen P fr.fn es):=fun K main cs w w' hq=>by
    rw [e,hq,<-nV hx.some]
    simp [doReturn,hf.kind,GStep.after,G]
   rw [eg K₀ true base wl aK hr]
   refine .nice _ X _ _ (hx.toOkFr.finish v) hX fun K main cs w _ hw hs=> ?_
   obtain ⟨w',h1,h2⟩:=oS Kr hw hr trivial hs
   exact ⟨w',eg K main cs w w' h1,h2.seen⟩
  |halt h aK=>exact lz (by rw [e,hr];cases h<;>simp [GStep.after])
theorem Ia {ok:w_->Bool} {KS:List x_->Prop} (hp:gM P ok) (hK:KS K₀) (OY:∀id,exitTo id K₀=none) {fr:Y'} {base:List Y'} (AQ:bI wl wl) (hf:OkFr P ok fr) (hX:∀x∈X,Bw P ok x) (hn:¬(fr.mode=.returning/\X=[]))
 (hE:X=[]->fr.todo=[]->fr.mode=.run->∀K,KS K->K=[]):
 Dv P ok KS K₀ fr X base wl (stepG P true (G (ext (tl K₀ X) fr) (AE K₀ X++base)) wl):=by
 rcases hf.mode with hm|hm
 ·exact Lw hp hK OY AQ hf hX hm (fun h1 h2=>hE h1 h2 hm)
 ·cases X with
  |nil=>exact absurd ⟨hm,rfl⟩ hn
  |cons x X=>exact Lx hK AQ hf (hX x (by simp)) (fun y hy=>hX y (by simp [hy])) hm
def _root_.Go.World.re (w:J') (T:Nat->Question->Nat) (d:Nat):J':={w with tape:=T,drawn:=d}
theorem Oa (w:J') (T T':Nat->Question->Nat) (d d':Nat):(w.re T d).re T' d'=w.re T' d':=rfl
theorem pM (h:bI wl w) (T T':Nat->Question->Nat) (d d':Nat):bI (wl.re T d) (w.re T' d'):=⟨h.size,h.obj,h.os,h.out,h.ic⟩
theorem rM (h:bI wl w) (T:Nat->Question->Nat) (d:Nat):bI (wl.re T d) w:=⟨h.size,h.obj,h.os,h.out,h.ic⟩
theorem PK (h:oA wl w w') (T:Nat->Question->Nat) (d:Nat):oA (wl.re T d) w w':=⟨h.size,h.cells,h.chan,h.gz,h.still,h.os,h.out,h.tape⟩
inductive LW (P:U') (KS:List x_->Prop) (Q:Y'->List Y'->J'->Prop):Y'->List Y'->J'->Prop
 |stop {fr:Y'} {X:List Y'} {wl:J'}:Q fr X wl->LW P KS Q fr X wl
 |step {fr:Y'} {X:List Y'} {wl:J'} (nf:(Nat->Question->Nat)->Nat->Y') (nX:(Nat->Question->Nat)->Nat->List Y') (nw:(Nat->Question->Nat)->Nat->J') (ne:(Nat->Question->Nat)->Nat->Array Event):
  (∀T d,U7 P KS fr X (wl.re T d) (nf T d) (nX T d) (nw T d) (ne T d))->(∀T d,LW P KS Q (nf T d) (nX T d) (nw T d))->LW P KS Q fr X wl
theorem LW.gU {KS:List x_->Prop} {Q:Y'->List Y'->J'->Prop} {fr:Y'} (h:∀T d,∃kF X' aK es,U7 P KS fr X (wl.re T d) kF X' aK es/\LW P KS Q kF X' aK):LW P KS Q fr X wl:=
 .step (fun T d=>(h T d).choose) (fun T d=>(h T d).choose_spec.choose) (fun T d=>(h T d).choose_spec.choose_spec.choose) (fun T d=>(h T d).choose_spec.choose_spec.choose_spec.choose)
  (fun T d=>(h T d).choose_spec.choose_spec.choose_spec.choose_spec.1) (fun T d=>(h T d).choose_spec.choose_spec.choose_spec.choose_spec.2)
def aT:Y':={fn:=0,tmps:=#[],todo:=[.code (.refuse "")],defers:=[{target:=.nil,args:=#[]}],mode:=.run,kind:=.normal}
theorem Dj (v:M'):aT.finish v=aT:=rfl
theorem G1 (P:U') (w:J'):∃o w',step P (lone aT [] w)=.ended o w':=⟨_,_,step_lone_ended (by simp [stepG,stepG.exec,aT];exact ⟨rfl,rfl⟩)⟩
theorem tb (P:U') (c:List PanicEntry) (w:J'):∃o w',step P (lone {aT with mode:=.panicking c} [] w)=.ended o w':=⟨_,_,step_lone_ended (by simp [stepG,unwind,callDeferred,aT];exact ⟨rfl,rfl⟩)⟩
def panics:FrameMode->Prop
 | .panicking _=>True
 |_=>False
theorem Ae:∀(X:List Y') (fr:Y') (c:List PanicEntry) (w:J'),fr.defers=[]->(∃fn,P.funcs[fr.fn]?=some fn)->(∀x∈X,x.defers=[]/\(x.mode=.run\/x.mode=.returning)/\∃fn,P.funcs[x.fn]?=some fn)->
 ∀n kF cs' w',runN P n (lone {fr with mode:=.panicking c} (X++[aT]) w)=.next (lone kF cs' w')->panics kF.mode:=by
 intro X
 induction X with
 |nil=>
  intro fr c w hd ⟨fn,xF⟩ _ n kF cs' w' h
  have hs:step P (lone {fr with mode:=.panicking c} ([]++[aT]) w)=.next (lone {aT with mode:=.panicking c} [] w):=
   step_lone_go (by simp [stepG,unwind,hd,Frame.catches,xF,Frame.raise,aT])
  match n with
  |0=>
   simp only [runN,Stepped.next.injEq] at h
   have:=congrArg (fun m:Machine=>(m.gs[0]?).map (·.frame)) h
   simp [lone] at this
   rw [<-this];trivial
  |1=>
   simp only [runN,hs,Stepped.next.injEq] at h
   have:=congrArg (fun m:Machine=>(m.gs[0]?).map (·.frame)) h
   simp [lone] at this
   rw [<-this];trivial
  |n+2=>
   obtain ⟨o,w2,h2⟩:=tb P c w
   simp only [runN,hs,h2] at h
   cases h
 |cons x X ih=>
  intro fr c w hd ⟨fn,xF⟩ hX n kF cs' w' h
  have hx:=hX x (by simp)
  have hs:step P (lone {fr with mode:=.panicking c} ((x::X)++[aT]) w)=.next (lone {x with mode:=.panicking c} (X++[aT]) w):=
   step_lone_go (by
    have hm:x.raise c={x with mode:=.panicking c}:=by
     rcases hx.2.1 with e|e<;>simp [Frame.raise,e]
    simp [stepG,unwind,hd,Frame.catches,xF,hm])
  match n with
  |0=>
   simp only [runN,Stepped.next.injEq] at h
   have:=congrArg (fun m:Machine=>(m.gs[0]?).map (·.frame)) h
   simp [lone] at this
   rw [<-this];trivial
  |n+1=>
   simp only [runN,hs] at h
   exact ih x c w hx.1 hx.2.2 (fun y hy=>hX y (by simp [hy])) n kF cs' w' h
theorem Ct {fr:Y'} {cs cs':List Y'} (h:lone fr cs w=lone kF cs' w'):fr=kF/\cs=cs'/\w=w':=by
 have h1:=congrArg (fun m:Machine=>m.gs[0]?) h
 have h2:=congrArg (fun m:Machine=>m.world) h
 simp [lone] at h1 h2
 exact ⟨h1.1,h1.2,h2⟩
theorem D7 {a n:Nat} {m m1 m2:Machine} (h1:runN P a m=.next m1) (h2:runN P n m=.next m2) (h:a<=n):runN P (n - a) m1=.next m2:=by
 have:=runN_add P a (n - a) m
 rw [Nat.add_sub_cancel' h,h1,h2] at this
 exact this.symm
variable {T:Nat->Question->Nat} {d:Nat}
theorem TJ (h:Mv wl w aK w' es) {T':Nat->Question->Nat} (hT:aK.tape=wl.tape):
 Mv (wl.re T d) w (aK.re T (d+(aK.drawn - wl.drawn))) w' es:=
 ⟨⟨h.weak.size,h.weak.obj,h.weak.os,h.weak.out,h.weak.ic⟩,Nat.le_add_right _ _,by
   have h1:=h.mono;have h2:=h.drawn
   show w'.drawn+d=w.drawn+(d+(aK.drawn - wl.drawn));omega,PK h.upd T d,
   ⟨h.gR.size,h.gR.cells,h.gR.chan,h.gR.gz,h.gR.still,h.gR.os,h.gR.out,rfl⟩,h.evs,h.heap⟩
variable {X':List Y'}
theorem FJ {KS:List x_->Prop} {fr:Y'} (h:U7 P KS fr X wl kF X' aK es) (hT:aK.tape=wl.tape) (hm:wl.drawn<=aK.drawn)
 (hs:∀i,wl.drawn+i<aK.drawn->T (d+i)=wl.tape (wl.drawn+i)):U7 P KS fr X (wl.re T d) kF X' (aK.re T (d+(aK.drawn - wl.drawn))) es:=by
 intro K main cs w Vy hw C6
 obtain ⟨w',h1,h2⟩:=h K main cs w Vy ⟨hw.size,hw.obj,hw.os,hw.out,hw.ic⟩ (fun i hi=>by
  have:=C6 i (by show d+i<d+(aK.drawn - wl.drawn);omega)
  rw [this];exact hs i hi)
 exact ⟨w',h1,TJ (T':=T) h2 hT⟩
structure St (P:U') (ok:w_->Bool) where
 fr:Y'
 X:List Y'
 wl:J'
 kj:OkFr P ok fr
 hX:∀x∈X,Bw P ok x
 hw:bI wl wl
variable {Q:Y'->List Y'->J'->Prop}
theorem LC (hX:∀x∈X,Bw P ok x) (K:List x_):∀x∈AE K X,x.defers=[]/\(x.mode=.run\/x.mode=.returning)/\∃fn,P.funcs[x.fn]?=some fn:=by
 induction X with
 |nil=>intro x hx;cases hx
 |cons y X ih=>
  intro x hx
  rcases List.mem_cons.1 hx with rfl|hx
  ·exact (hX y (by simp)).toOkFr.bare
  ·exact ih (fun z hz=>hX z (by simp [hz])) x hx
theorem zl (hK:KS K₀) {fr:Y'} (h:U7 P KS fr X wl kF X' aK es) (hw:bI wl wl):bI aK aK/\wl.drawn<=aK.drawn/\aK.tape=wl.tape:=by
 obtain ⟨w',_,h2⟩:=h K₀ true [] wl hK hw (fun _ _=>rfl)
 exact ⟨h2.weak.self,h2.mono,h2.gR.tape⟩
theorem υ (hp:gM P ok) (hK:KS K₀) (OY:(K₀=[]/\∀K,KS K->K=[])\/K₀=fR) (hQ:∀fr X w,Q fr X w->¬panics fr.mode) (s:St P ok) (hno:∀kF X' aK es,OkFr P ok kF->(∀x∈X',Bw P ok x)->¬U7 P KS s.fr s.X s.wl kF X' aK es)
 (n:Nat) (kF:Y') (X':List Y') (w':J') (h:runN P (n+1) (lone (ext (tl K₀ s.X) s.fr) (AE K₀ s.X++[aT]) s.wl)=.next (lone kF (X'++[aT]) w')) (hq:Q kF X' w'):False:=by
 have U4:∀id,exitTo id K₀=none:=by
  rcases OY with ⟨rfl,_⟩|rfl<;>exact fun _=>rfl
 have Us:¬panics kF.mode:=hQ _ _ _ hq
 by_cases Ue:s.fr.mode=.returning/\s.X=[]
 ·
  obtain ⟨hm,hX⟩:=Ue
  obtain ⟨fn,xF⟩:=s.kj.fn
  rw [hX] at h
  change runN P (n+1) (lone (ext K₀ s.fr) ([]++[aT]) s.wl)=_ at h
  have e:stepG P true (G (ext K₀ s.fr) ([]++[aT])) s.wl=
   GStep.after (seen P s.fr.fn ((results fn s.fr.tmps).runT P s.wl #[]).2) (match ((results fn s.fr.tmps).runT P s.wl #[]).1 with
    | .ok v w=>doReturn P true (ext K₀ s.fr) ([]++[aT]) none v w
    | .halt (.stuck x) w=>.ended (.stuck x ((ext K₀ s.fr).pos P)) w
    | .halt _ w=>.ended (.stuck "return: the result variables cannot be read" ((ext K₀ s.fr).pos P)) w):=by
   simp only [stepG,G,KZ,hm,unwind,E4,s.kj.defers,RN,xF]
   rfl
  cases hr:(results fn s.fr.tmps).runT P s.wl #[] with
  |mk r es=>
   rw [hr] at e
   cases r with
   |ok v w1=>
    have hs:step P (lone (ext K₀ s.fr) ([]++[aT]) s.wl)=.next (lone aT [] w1):=step_lone_go (by
     have:({frame:=ext K₀ s.fr,callers:=[]++[aT],status:=.running,dying:=none}:O')=G (ext K₀ s.fr) ([]++[aT]):=rfl
     rw [this,e]
     simp [doReturn,s.kj.kind,GStep.after,Dj])
    simp only [runN,hs] at h
    cases n with
    |zero=>
     simp only [runN,Stepped.next.injEq] at h
     have:=(Ct h).2.1
     simp at this
    |succ n=>
     obtain ⟨o,w2,h2⟩:=G1 P w1
     simp only [runN,h2] at h
     cases h
   |halt hh w1=>
    have hs:∃o w2,step P (lone (ext K₀ s.fr) ([]++[aT]) s.wl)=.ended o w2:=by
     have:({frame:=ext K₀ s.fr,callers:=[]++[aT],status:=.running,dying:=none}:O')=G (ext K₀ s.fr) ([]++[aT]):=rfl
     cases hh<;>exact ⟨_,_,step_lone_ended (by rw [this,e];simp [GStep.after];exact ⟨rfl,rfl⟩)⟩
    obtain ⟨o,w2,hs⟩:=hs
    simp only [runN,hs] at h
    cases h
 ·by_cases OE:s.X=[]/\s.fr.todo=[]/\s.fr.mode=.run/\K₀=fR
  ·
   obtain ⟨hX,YS,hm,rfl⟩:=OE
   rw [hX] at h
   have hs:∃o w2,step P (lone (ext fR s.fr) ([]++[aT]) s.wl)=.ended o w2:=by
    have:({frame:=ext fR s.fr,callers:=[]++[aT],status:=.running,dying:=none}:O')=G (ext fR s.fr) ([]++[aT]):=rfl
    exact ⟨_,_,step_lone_ended (by rw [this];simp [stepG,stepG.exec,G,hm,YS,fR];exact ⟨rfl,rfl⟩)⟩
   obtain ⟨o,w2,hs⟩:=hs
   have h':runN P (n+1) (lone (ext fR s.fr) ([]++[aT]) s.wl)=.next (lone kF (X'++[aT]) w'):=h
   simp only [runN,hs] at h'
   cases h'
  have hc:=Ia (base:=[aT]) (KS:=KS) (K₀:=K₀) hp hK U4 s.hw s.kj s.hX Ue (fun h1 h2 h3=>OY.elim (fun a=>a.2) (fun a=>absurd ⟨h1,h2,h3,a⟩ OE))
  generalize hst:stepG P true (G (ext (tl K₀ s.X) s.fr) (AE K₀ s.X++[aT])) s.wl=st at hc
  cases hc with
  |nice fr2 X2 V6 es h1 h2 h3=>exact hno _ _ _ _ h1 h2 h3
  |raised c V6 es=>
   have hs:step P (lone (ext (tl K₀ s.X) s.fr) (AE K₀ s.X++[aT]) s.wl)=.next (lone {ext (tl K₀ s.X) s.fr with mode:=.panicking c} (AE K₀ s.X++[aT]) V6):=step_lone_go (by
    have:({frame:=ext (tl K₀ s.X) s.fr,callers:=AE K₀ s.X++[aT],status:=.running,dying:=none}:O')=G (ext (tl K₀ s.X) s.fr) (AE K₀ s.X++[aT]):=rfl
    rw [this,hst];rfl)
   simp only [runN,hs] at h
   exact Us (Ae (AE K₀ s.X) (ext (tl K₀ s.X) s.fr) c V6 s.kj.defers s.kj.fn (LC s.hX K₀) n _ _ _ h)
  |ended o w2 es=>
   have hs:step P (lone (ext (tl K₀ s.X) s.fr) (AE K₀ s.X++[aT]) s.wl)=.ended o w2:=step_lone_ended (by
    have:({frame:=ext (tl K₀ s.X) s.fr,callers:=AE K₀ s.X++[aT],status:=.running,dying:=none}:O')=G (ext (tl K₀ s.X) s.fr) (AE K₀ s.X++[aT]):=rfl
    rw [this,hst];rfl)
   simp only [runN,hs] at h
   cases h
theorem least {p:Nat->Prop} (h:∃k,p k):∃k,p k/\∀j,j<k->¬p j:=by
 obtain ⟨k,hk⟩:=h
 induction k using Nat.strongRecOn with
 |_ k ih=>
  by_cases h:∃j,j<k/\p j
  ·obtain ⟨j,h1,h2⟩:=h;exact ih j h1 h2
  ·exact ⟨k,hk,fun j hj hp=>h ⟨j,hj,hp⟩⟩
theorem xk (hp:gM P ok) (hK:KS K₀) (OY:(K₀=[]/\∀K,KS K->K=[])\/K₀=fR) (hQ:∀fr X w,Q fr X w->¬panics fr.mode) (hQ2:∀fr X w T d,bI w w->Q fr X w->Q fr X (w.re T d)) (s0:St P ok)
 (L:∀T d,∃n kF X' w',runN P n (lone (ext (tl K₀ s0.X) s0.fr) (AE K₀ s0.X++[aT]) (s0.wl.re T d))=.next (lone kF (X'++[aT]) w')/\Q kF X' w'):LW P KS (fun fr X w=>Q (ext (tl K₀ X) fr) (AE K₀ X) w/\bI w w) s0.fr s0.X s0.wl:=by
 classical
 refine j_ fun hno=> ?_
 let SU:=fun s:St P ok=>¬LW P KS (fun fr X w=>Q (ext (tl K₀ X) fr) (AE K₀ X) w/\bI w w) s.fr s.X s.wl
 have oF:∀s:St P ok,SU s->∃T d,∀kF X' aK es,U7 P KS s.fr s.X (s.wl.re T d) kF X' aK es->¬LW P KS (fun fr X w=>Q (ext (tl K₀ X) fr) (AE K₀ X) w/\bI w w) kF X' aK:=by
  intro s hs
  refine j_ fun hc=>hs (LW.gU fun T d=> ?_)
  refine j_ fun BJ=>hc ⟨T,d,fun kF X' aK es hn hl=>BJ ⟨kF,X',aK,es,hn,hl⟩⟩
 let tp:St P ok->(Nat->Question->Nat):=fun s=>if h:SU s then (oF s h).choose else fun _ _=>0
 let dp:St P ok->Nat:=fun s=>if h:SU s then (oF s h).choose_spec.choose else 0
 have hbd:∀s,SU s->∀kF X' aK es,U7 P KS s.fr s.X (s.wl.re (tp s) (dp s)) kF X' aK es->¬LW P KS (fun fr X w=>Q (ext (tl K₀ X) fr) (AE K₀ X) w/\bI w w) kF X' aK:=by
  intro s h
  simp only [tp,dp,dif_pos h]
  exact (oF s h).choose_spec.choose_spec
 let GI:=fun (s s':St P ok)=>∃es,U7 P KS s.fr s.X (s.wl.re (tp s) (dp s)) s'.fr s'.X s'.wl es
 let uU:=fun s:St P ok=>¬∃s',GI s s'
 let nx:St P ok->St P ok:=fun s=>if h:∃s',GI s s' then h.choose else s
 have OL:∀s,¬uU s->GI s (nx s):=by
  intro s h
  have h':∃s',GI s s':=j_ h
  simp only [nx,dif_pos h']
  exact h'.choose_spec
 let sq:Nat->St P ok:=fun k=>Nat.rec s0 (fun _ s=>nx s) k
 have aDs:sq 0=s0:=rfl
 have hsq:∀k,sq (k+1)=nx (sq k):=fun k=>rfl
 have hBk:∀k,(∀j,j<k->¬uU (sq j))->SU (sq k):=by
  intro k
  induction k with
  |zero=>intro _;exact hno
  |succ k ih=>
   intro h
   have hb:=ih (fun j hj=>h j (by omega))
   obtain ⟨es,hn⟩:=OL (sq k) (h k (by omega))
   show SU (nx (sq k))
   exact hbd _ hb _ _ _ _ hn
 let c:Nat->Nat:=fun k=>(sq (k+1)).wl.drawn - dp (sq k)
 let D:Nat->Nat:=fun k=>Nat.rec 0 (fun j a=>a+c j) k
 have hD0:D 0=0:=rfl
 have hD:∀k,D (k+1)=D k+c k:=fun k=>rfl
 have hDm:∀j k,j<=k->D j<=D k:=by
  intro j k h
  induction k with
  |zero=>have Nn:j=0:=by omega
         rw [Nn];exact C_ _
  |succ k ih=>
   by_cases e:j=k+1
   ·rw [e];exact C_ _
   ·exact D_ (ih (by omega)) (by rw [hD];exact Nat.le_add_right _ _)
 let Pn:=fun n k=>uU (sq k)\/n<D (k+1)
 let Ts:Nat->Question->Nat:=fun n q=>if h:∃k,Pn n k then (tp (sq (least h).choose)) (dp (sq (least h).choose)+(n - D (least h).choose)) q else 0
 have hTs:∀n k,(∀j,j<k->¬uU (sq j))->Pn n k->D k<=n->Ts n=(tp (sq k)) (dp (sq k)+(n - D k)):=by
  intro n k hk hP hn
  have hex:∃k,Pn n k:=⟨k,hP⟩
  have hl:=(least hex).choose_spec
  have e:(least hex).choose=k:=by
   generalize (least hex).choose=m at hl
   rcases Nat.lt_trichotomy m k with h|h|h
   ·rcases hl.1 with h1|h1
    ·exact absurd h1 (hk m h)
    ·have:=hDm (m+1) k h;omega
   ·exact h
   ·exact absurd hP (hl.2 k h)
  funext q
  show (if h:∃k,Pn n k then _ else _)=_
  rw [dif_pos hex,e]
 have hrun:∀k,(∀j,j<k->¬uU (sq j))->runN P k (lone (ext (tl K₀ s0.X) s0.fr) (AE K₀ s0.X++[aT]) (s0.wl.re Ts 0))=.next (lone (ext (tl K₀ (sq k).X) (sq k).fr) (AE K₀ (sq k).X++[aT]) ((sq k).wl.re Ts (D k))):=by
  intro k
  induction k with
  |zero=>intro _;rfl
  |succ k ih=>
   intro h
   have h1:=ih (fun j hj=>h j (by omega))
   obtain ⟨es,hn⟩:=OL (sq k) (h k (by omega))
   obtain ⟨cf,Nh,ht1⟩:=zl hK hn (pM (sq k).hw _ _ _ _)
   have L9:=FJ hn ht1 Nh (T:=Ts) (d:=D k) (fun i hi=>by
    have lE:dp (sq k)+i<(nx (sq k)).wl.drawn:=hi
    have:D k+i<D (k+1):=by rw [hD];show D k+i<D k+((sq (k+1)).wl.drawn - dp (sq k));rw [hsq];omega
    rw [hTs (D k+i) k (fun j hj=>h j (by omega)) (.inr this) (Nat.le_add_right _ _),Nat.add_sub_cancel_left]
    rfl)
   obtain ⟨w',h2,h3⟩:=L9 K₀ true [aT] ((sq k).wl.re Ts (D k)) hK (pM (sq k).hw _ _ _ _) (fun _ _=>rfl)
   have hd:D k+((nx (sq k)).wl.drawn - dp (sq k))=D (k+1):=rfl
   have e:w'=(sq (k+1)).wl.re Ts (D (k+1)):=by
    have e1:=h3.heap rfl
    have e2:=h3.drawn
    have e3:=h3.upd.tape
    have e4:=h3.weak.os
    have e5:=h3.weak.out
    obtain ⟨Iu,tp1,dr1,os1,ou1⟩:=w'
    simp only [World.re] at e1 e2 e3 e4 e5 ⊢
    subst e1 e3 e4 e5
    rw [hsq] at *
    congr 1
    have aDz:dp (sq k)<=(nx (sq k)).wl.drawn:=Nh
    try simp only [World.re] at e2
    omega
   have hs:step P (lone (ext (tl K₀ (sq k).X) (sq k).fr) (AE K₀ (sq k).X++[aT]) ((sq k).wl.re Ts (D k)))=.next (lone (ext (tl K₀ (sq (k+1)).X) (sq (k+1)).fr) (AE K₀ (sq (k+1)).X++[aT]) ((sq (k+1)).wl.re Ts (D (k+1)))):=step_lone_go (by
    have:({frame:=ext (tl K₀ (sq k).X) (sq k).fr,callers:=AE K₀ (sq k).X++[aT],status:=.running,dying:=none}:O')=G (ext (tl K₀ (sq k).X) (sq k).fr) (AE K₀ (sq k).X++[aT]):=rfl
    rw [this,h2,e];rfl)
   rw [runN_add,h1]
   simp only [runN,hs]
 obtain ⟨n,kF,X',w',hn,hq⟩:=L Ts 0
 have atQ:∀k,(∀j,j<k->¬uU (sq j))->k=n->False:=by
  rintro k hk rfl
  have h1:=hrun k hk
  rw [hn] at h1
  simp only [Stepped.next.injEq] at h1
  obtain ⟨e1,e2,e3⟩:=Ct h1
  have VK:X'=AE K₀ (sq k).X:=List.append_cancel_right e2
  refine hBk k hk (.stop ?_)
  rw [e1,VK,e3] at hq
  exact ⟨hQ2 _ _ ((sq k).wl.re Ts (D k)) (sq k).wl.tape (sq k).wl.drawn (pM (sq k).hw _ _ _ _) hq,(sq k).hw⟩
 by_cases hst:∃k,uU (sq k)/\k<n
 ·obtain ⟨k,⟨h1,h2⟩,h3⟩:=least hst
  have hk:∀j,j<k->¬uU (sq j):=fun j hj hs=>h3 j hj ⟨hs,by omega⟩
  have hr:=D7 (hrun k hk) hn (Nat.le_of_lt h2)
  obtain ⟨m,hm⟩:∃m,n - k=m+1:=⟨n - k - 1,by omega⟩
  rw [hm] at hr
  let s1:St P ok:={fr:=(sq k).fr,X:=(sq k).X,wl:=(sq k).wl.re Ts (D k),kj:=(sq k).kj,hX:=(sq k).hX,hw:=pM (sq k).hw _ _ _ _}
  refine υ hp hK OY hQ s1 (fun fr2 X2 V6 es a1 a2 hni=> ?_) m kF X' w' hr hq
  obtain ⟨b1,b2,b3⟩:=zl hK hni s1.hw
  have QO:=FJ hni b3 b2 (T:=tp (sq k)) (d:=dp (sq k)) (fun i _=>by
   show tp (sq k) (dp (sq k)+i)=Ts (D k+i)
   rw [hTs (D k+i) k hk (.inl h1) (Nat.le_add_right _ _),Nat.add_sub_cancel_left])
  exact h1 ⟨{fr:=fr2,X:=X2,wl:=_,kj:=a1,hX:=a2,hw:=pM b1 _ _ _ _},es,QO⟩
 ·exact atQ n (fun j hj hs=>hst ⟨j,hs,hj⟩) rfl
end
section
open Go Go.Conc Go.RowKit
inductive Walk (P:U') (main:Bool) (R:J'->J'->Prop) (D:J'->J'->Array Event->Prop) (Stop:O'->J'->Prop):O'->J'->Prop
 |stop {g:O'} {w:J'}:(∀w₁,R w w₁->Stop g w₁)->Walk P main R D Stop g w
 |step {g:O'} {w:J'} (ng:J'->O') (nw:J'->J') (ne:J'->Array Event):g.status=.running->
  (∀w₁,R w w₁->stepG P main g w₁=.go (ng w₁) (nw w₁) (ne w₁)/\D w₁ (nw w₁) (ne w₁))->(∀w₁,R w w₁->Walk P main R D Stop (ng w₁) (nw w₁))->Walk P main R D Stop g w
variable {P:U'} {main:Bool} {R:J'->J'->Prop} {D:J'->J'->Array Event->Prop} {Stop:O'->J'->Prop}
variable {g:O'} {w:J'}
theorem Walk.gU (hs:g.status=.running) (h:∀w₁,R w w₁->∃g' w' es,stepG P main g w₁=.go g' w' es/\D w₁ w' es/\Walk P main R D Stop g' w'):Walk P main R D Stop g w:=by
 classical
 refine .step (fun w₁=>if h₁:R w w₁ then (h w₁ h₁).choose else g) (fun w₁=>if h₁:R w w₁ then (h w₁ h₁).choose_spec.choose else w) (fun w₁=>if h₁:R w w₁ then (h w₁ h₁).choose_spec.choose_spec.choose else #[]) hs ?_ ?_
 ·intro w₁ h₁
  simp only [dif_pos h₁]
  exact ⟨(h w₁ h₁).choose_spec.choose_spec.choose_spec.1,(h w₁ h₁).choose_spec.choose_spec.choose_spec.2.1⟩
 ·intro w₁ h₁
  simp only [dif_pos h₁]
  exact (h w₁ h₁).choose_spec.choose_spec.choose_spec.2.2
theorem Walk.bind {Pa:O'->J'->Prop} (refl:∀w,R w w) (h:Walk P main R D Stop g w) (hs:∀g' w',Stop g' w'->Walk P main R D Pa g' w'):Walk P main R D Pa g w:=by
 induction h with
 |stop h=>exact hs _ _ (h _ (refl _))
 |step ng nw ne hr h1 h2 ih=>exact .step ng nw ne hr h1 fun w₁ h₁=>ih w₁ h₁
theorem Walk.keeps {I:J'->Prop} (hR:∀w w₁,R w w₁->I w->I w₁) (h:Walk P main R (fun w w' es=>D w w' es/\(I w->I w')) Stop g w) (hI:I w):Walk P main R D (fun g' w'=>Stop g' w'/\I w') g w:=by
 induction h with
 |stop h=>exact .stop fun w₁ h₁=>⟨h w₁ h₁,hR _ _ h₁ hI⟩
 |step ng nw ne hs h1 h2 ih=>exact .step ng nw ne hs (fun w₁ h₁=>⟨(h1 w₁ h₁).1,(h1 w₁ h₁).2.1⟩) (fun w₁ h₁=>ih w₁ h₁ ((h1 w₁ h₁).2.2 (hR _ _ h₁ hI)))
structure Out (hid:Nat->Nat->Prop) (w w':J'):Prop where
 size:w'.heap.size=w.heap.size
 cells:∀(b:Nat) (c:Array M') (e:Q') (f:Nat × Nat),w.heap[b]?=some (.cells c e f)->∃c',w'.heap[b]?=some (.cells c' e f)/\c'.size=c.size/\∀k,¬hid b k->c'[k]?=c[k]?
 gz:∀(b:Nat) (o:Obj),w.heap[b]?=some o->aR o=false->w'.heap[b]?=some o
 os:w'.os=w.os
 out:w'.output=w.output
 tape:w'.tape=w.tape
theorem Out.refl (hid:Nat->Nat->Prop) (w:J'):Out hid w w:=⟨rfl,fun _ c _ _ h=>⟨c,h,rfl,fun _ _=>rfl⟩,fun _ _ h _=>h,rfl,rfl,rfl⟩
theorem Out.trans {hid:Nat->Nat->Prop} {a b c:J'} (h:Out hid a b) (k:Out hid b c):Out hid a c:=by
 refine ⟨k.size.trans h.size,fun x cc e f hx=> ?_,fun x o hx ho=>k.gz x o (h.gz x o hx ho) ho,k.os.trans h.os,k.out.trans h.out,k.tape.trans h.tape⟩
 obtain ⟨c1,h1,h2,h3⟩:=h.cells x cc e f hx
 obtain ⟨c2,h4,h5,h6⟩:=k.cells x c1 e f h1
 exact ⟨c2,h4,h5.trans h2,fun j hj=>(h6 j hj).trans (h3 j hj)⟩
theorem Out.at (hid:Nat->Nat->Prop) (w:J') (d:Nat):Out hid w (w.at d):=⟨rfl,fun _ c _ _ h=>⟨c,h,rfl,fun _ _=>rfl⟩,fun _ _ h _=>h,rfl,rfl,rfl⟩
def EvM (hid gd:Nat->Nat->Prop) (top:Nat) (e:Event):Prop:=
 match e.loc with
 | .cell a=>a.block<top/\e.sync=false/\¬hid a.block a.off/\(e.write=true->¬gd a.block a.off)
 | .obj r=>r<top/\(e.sync=true->e.write=false)
 | .mark .noRoom=>True
 |_=>False
structure Sd (hid gd:Nat->Nat->Prop) (w w':J') (es:Array Event):Prop where
 size:w.heap.size<=w'.heap.size
 cells:∀(b:Nat) (c:Array M') (e:Q') (f:Nat × Nat),w.heap[b]?=some (.cells c e f)->∃c',w'.heap[b]?=some (.cells c' e f)/\c'.size=c.size/\∀k,hid b k\/gd b k->c'[k]?=c[k]?
 chan:∀(b:Nat) (o:Obj),w.heap[b]?=some o->o.isChan=true->w'.heap[b]?=some o
 gz:∀(b:Nat) (o:Obj),w.heap[b]?=some o->aR o=false->∃o',w'.heap[b]?=some o'/\aR o'=false
 os:w'.os=w.os
 out:w'.output=w.output
 tape:w'.tape=w.tape
 evs:∀e∈es,EvM hid gd w'.heap.size e
structure Cut (hid gd:Nat->Nat->Prop) (wl:J'):Prop where
 hid:∀b k,hid b k->b<wl.heap.size/\wl.cell? ⟨b,k,none⟩=none
 gd:∀b k,gd b k->b<wl.heap.size/\wl.frozen? ⟨b,k,none⟩=true
variable {wl aK:J'}
theorem Cut.upd {hid gd:Nat->Nat->Prop} (h:Cut hid gd wl) (hu:oA wl wl aK):Cut hid gd aK:=
 ⟨fun b k hk=>let ⟨h1,h2⟩:=h.hid b k hk;⟨E_ h1 hu.size,(hu.there h1).1.2 h2⟩,fun b k hk=>let ⟨h1,h2⟩:=h.gd b k hk;⟨E_ h1 hu.size,(hu.there h1).2.trans h2⟩⟩
theorem Cut.re {hid gd:Nat->Nat->Prop} (h:Cut hid gd wl) (T:Nat->Question->Nat) (d:Nat):Cut hid gd (wl.re T d):=⟨h.hid,h.gd⟩
variable {w':J'}
theorem bI.outside {hid gd:Nat->Nat->Prop} (h:bI wl w) (hc:Cut hid gd wl) (ho:Out hid w w'):bI wl w':=by
 refine ⟨h.size.trans ho.size.symm,fun b o o' hb A8=> ?_,h.os.trans ho.os.symm,h.out.trans ho.out.symm,h.ic⟩
 obtain ⟨o1,h1,h2⟩:=h.get hb
 cases rq:aR o1 with
 |false=>rw [ho.gz b o1 h1 rq] at A8;cases A8;exact h2
 |true=>
  cases o1<;>simp [aR] at rq
  rename_i c1 e1 f1
  obtain ⟨c2,h3,h4,h5⟩:=ho.cells b c1 e1 f1 h1
  rw [h3] at A8;cases A8
  have nh:∀(c:Array M') (e:Q') (f:Nat × Nat),wl.heap[b]?=some (.cells c e f)->∀k,k<c.size->¬hid b k:=by
   intro c e f hw k hk hh
   have:=(hc.hid b k hh).2
   simp [World.cell?,hw,hk] at this
  cases h2 with
  |blind hb=>have:=hb.cells.2;simp [aR] at this
  |same=>
   refine .cut (by omega) (fun k hk=>h5 k (nh _ _ _ hb k hk)) (fun k h=>h)
  |cut g1 g2 g3=>exact .cut (by omega) (fun k hk=>(h5 k (nh _ _ _ hb k hk)).trans (g2 k hk)) g3
variable {es:Array Event}
theorem tO {hid gd:Nat->Nat->Prop} (hc:Cut hid gd wl) (h:Mv wl w aK w' es) (hs:wl.heap.size=w.heap.size):Sd hid gd w w' es:=by
 refine ⟨h.upd.size,fun b c e f hb=> ?_,h.upd.chan,fun b o hb ho=>let ⟨o',h1,h2,_⟩:=h.upd.gz b o hb ho;⟨o',h1,h2⟩,h.upd.os,h.upd.out,h.upd.tape,fun ev he=> ?_⟩
 ·obtain ⟨c',h1,h2,h3⟩:=h.upd.cells b c e f hb
  exact ⟨c',h1,h2,fun k hk=>h3 k (hk.elim (fun q=>.inl (hc.hid b k q).2) (fun q=>.inr (hc.gd b k q).2))⟩
 ·have:=h.evs ev he
  have ht:aK.heap.size=w'.heap.size:=h.weak.size
  unfold vR at this
  unfold EvM
  split<;>simp_all
  ·rename_i a _
   obtain ⟨h1,h2,h3⟩:=this
   rcases h3 with h3|⟨⟨v,hv⟩,h4⟩
   ·refine ⟨fun hh=> ?_,fun _ hf=> ?_⟩
    ·have:=(hc.hid _ _ hh).1;omega
    ·have:=(hc.gd _ _ hf).1;omega
   ·have ha:=nB hv
    refine ⟨fun hh=> ?_,fun hw hf=> ?_⟩
    ·have:=(hc.hid _ _ hh).2;rw [<-ha,hv] at this;cases this
    ·have:=(hc.gd _ _ hf).2;rw [<-ha,h4 hw] at this;cases this
def Qb:Obj->Bool
 | .chan _ _ cl _ _ _=> !cl
 |_=>false
inductive LJ:Obj->Obj->Prop
 |cells {c:Array M'} {e:Q'} {RI f:Nat × Nat} (h:∀k,k<c.size->gd f k=true):LJ (.cells c e RI) (.cells c e f)
 |other {tz o:Obj} (h₀:aR tz=false) (h:aR o=false) (hm:isMap o=false) (hc:Qb o=false):LJ tz o
structure Shut (n:Nat) (U wl:J'):Prop where
 size:n<=wl.heap.size
 obj:∀(b:Nat) (o:Obj),b<n->wl.heap[b]?=some o->∃tz,U.heap[b]?=some tz/\LJ tz o
variable {U:J'}
theorem Shut.re {n:Nat} (h:Shut n U wl) (T:Nat->Question->Nat) (d:Nat):Shut n U (wl.re T d):=⟨h.size,h.obj⟩
variable {T:Nat->Question->Nat} {d:Nat}
theorem Shut.j8 {n:Nat} (h:Shut n U (wl.re T d)):Shut n U wl:=⟨h.size,h.obj⟩
variable {b k:Nat}
theorem p8 {c:Array M'} {e:Q'} {f:Nat × Nat} (h:w.heap[b]?=some (.cells c e f)):w.frozen? ⟨b,k,none⟩=gd f k:=by simp [World.frozen?,h,gd]
theorem rA {c c':Array M'} (hs:c'.size=c.size) (h:∀k,k<c.size->c'[k]?=c[k]?):c'=c:=by
 apply Array.ext_getElem?
 intro k
 by_cases hk:k<c.size
 ·exact h k hk
 ·rw [Array.getElem?_eq_none (by omega),Array.getElem?_eq_none (by omega)]
theorem Shut.upd {n:Nat} (h:Shut n U wl) (hu:oA wl wl aK):Shut n U aK:=by
 refine ⟨D_ h.size hu.size,fun b o hb ho=> ?_⟩
 have hlt:b<wl.heap.size:=E_ hb h.size
 have h1:=H_ hlt
 obtain ⟨tz,h2,h3⟩:=h.obj b _ hb h1
 generalize wl.heap[b]=p at h1 h3
 refine ⟨tz,h2, ?_⟩
 cases h3 with
 |cells hf=>
  rename_i c e RI f
  obtain ⟨c',g1,g2,g3⟩:=hu.cells b _ _ _ h1
  have:=rA g2 fun k hk=>g3 k (.inr ((p8 h1).trans (hf k hk)))
  subst this
  rw [g1] at ho;cases ho
  exact .cells hf
 |other g0 g1 g2 g3=>
  rw [hu.still b p h1 g1 g2,h1] at ho;cases ho
  exact .other g0 g1 g2 g3
theorem kO {n:Nat} (h:Shut n U wl) (hb:Below n U w) (hs:wl.heap.size=w.heap.size) (hu:oA wl w w'):Below n U w':=by
 refine ⟨hu.os.trans hb.os,hu.tape.trans hb.tape,hu.out.trans hb.output,D_ hb.size hu.size,fun b hlt=> ?_⟩
 have gJ:b<wl.heap.size:=E_ hlt h.size
 have h1:=H_ gJ
 obtain ⟨tz,h2,h3⟩:=h.obj b _ hlt h1
 generalize wl.heap[b]=p at h1 h3
 have h4:=(hb.block b hlt).trans h2
 rw [h2]
 cases h3 with
 |cells hf=>
  obtain ⟨c',g1,g2,g3⟩:=hu.cells b _ _ _ h4
  have:=rA g2 fun k hk=>g3 k (.inr ((p8 h1).trans (hf k hk)))
  rw [g1,this]
 |other g0 g1 g2 g3=>rw [hu.still b p h1 g1 g2,h4]
theorem hM {n:Nat} {hid gd:Nat->Nat->Prop} (h:Shut n U wl) (hc:Cut hid gd wl) (hb:Below n U w) (ho:Out hid w w'):Below n U w':=by
 refine ⟨ho.os.trans hb.os,ho.tape.trans hb.tape,ho.out.trans hb.output,by rw [ho.size];exact hb.size,fun b hlt=> ?_⟩
 have gJ:b<wl.heap.size:=E_ hlt h.size
 have h1:=H_ gJ
 obtain ⟨tz,h2,h3⟩:=h.obj b _ hlt h1
 generalize wl.heap[b]=p at h1 h3
 have h4:=(hb.block b hlt).trans h2
 rw [h2]
 cases h3 with
 |cells hf=>
  rename_i c e RI f
  obtain ⟨c',g1,g2,g3⟩:=ho.cells b _ _ _ h4
  have:=rA g2 fun k hk=>g3 k fun hh=>by
   have:=(hc.hid b k hh).2
   simp [World.cell?,h1,hk] at this
  rw [g1,this]
 |other g0 g1 g2 g3=>exact ho.gz b _ h4 g0
def LO (n:Nat) (U:J') (hid gd:Nat->Nat->Prop) (w w':J') (es:Array Event):Prop:=Sd hid gd w w' es/\(Below n U w->Below n U w')
variable {X:List Y'}
theorem LW.walk {n:Nat} {KS:List x_->Prop} {Q:Y'->List Y'->J'->Prop} {hid gd:Nat->Nat->Prop} (K:List x_) (hK:KS K) (main:Bool) (cs:List Y') {fr:Y'} (h:LW P KS Q fr X wl):
 ∀{w:J'},Cut hid gd wl->bI wl w->Shut n U wl->Walk P main (Out hid) (LO n U hid gd) (fun g w'=>∃kF X' aK,g=G (ext (tl K X') kF) (AE K X'++cs)/\Q kF X' aK/\Cut hid gd aK/\bI aK w'/\Shut n U aK) (G (ext (tl K X) fr) (AE K X++cs)) w:=by
 induction h with
 |stop hq=>exact fun {w} hc hw hs=>.stop fun w₁ h₁=>⟨_,_,_,rfl,hq,hc,hw.outside hc h₁,hs⟩
 |step nf nX nw ne hn hl ih=>
  intro w hc hw fI
  refine Walk.gU rfl fun w₁ h₁=> ?_
  have cv:=hw.outside hc h₁
  obtain ⟨w',h2,h3⟩:=hn w₁.tape w₁.drawn K main cs w₁ hK ⟨cv.size,cv.obj,cv.os,cv.out,cv.ic⟩ (fun _ _=>rfl)
  refine ⟨_,w',_,h2,⟨tO (hc.re _ _) h3 cv.size,fun hb=>kO (fI.re w₁.tape w₁.drawn) hb cv.size h3.upd⟩,ih _ _ ((hc.re _ _).upd h3.gR) h3.weak ((fI.re w₁.tape w₁.drawn).upd h3.gR)⟩
variable {α:Type} {a:α}
theorem PW {s:Sem α} (hs:ag P s) (hw:bI w w) (h:s.run P w=.ok a w) (T:Nat->Question->Nat) (d:Nat):s.run P (w.re T d)=.ok a (w.re T d):=by
 cases hr:s.runT P w #[] with
 |mk r es=>
  have e:=Sem.runT_fst P s w #[]
  rw [hr,h] at e
  simp only at e
  subst e
  obtain ⟨w',h1,h2⟩:=oS hs (pM hw w.tape T w.drawn d) hr trivial (fun i hi=>absurd hi (by show ¬w.drawn+i<w.drawn;omega))
  have h3:=Sem.runT_fst P s (w.re T d) #[]
  rw [h1] at h3
  have e1:=h2.heap rfl
  have e2:=h2.drawn
  have e3:=h2.upd.tape
  have e4:=h2.upd.os
  have e5:=h2.upd.out
  have:w'=w.re T d:=by
   obtain ⟨a1,a2,a3,a4,a5⟩:=w'
   simp only [Result.wd,World.re] at e1 e2 e3 e4 e5 ⊢
   subst e1 e3 e4 e5
   congr 1;omega
  rw [<-h3,this];rfl
def GJ (P:U') (R:M'->J'->Prop) (fr:Y') (X:List Y') (w:J'):Prop:=
 X=[]/\∃v,R v w/\fr.leaving P w (.returned v)
variable {ok:w_->Bool}
variable {f:w_}
theorem JL (hp:gM P ok) (h1:ok f=true) (h2:rU P f=true) {args:Array M'} (hw:bI wl wl) {R:M'->J'->Prop} (hR:∀v w T d,R v w->R v (w.re T d))
 (h:∀T d,Calls P f args (wl.re T d) fun e w'=>∃v,e=.returned v/\R v w'):LW P (fun K=>K=[]) (fun fr X w=>GJ P R fr X w/\bI w w) (fZ P f args .normal) [] wl:=by
 have hl:=xk (KS:=fun K=>K=[]) (K₀:=[]) hp rfl (.inl ⟨rfl,fun _ h=>h⟩) (Q:=GJ P R) (fun fr X w hq=>by
  obtain ⟨_,v,_,hm,_⟩:=hq
  rw [hm];exact fun h=>h) (fun fr X w T d h4 hq=>by
  obtain ⟨h3,v,h5,h6,h7,h8,fn,h9,ZS⟩:=hq
  exact ⟨h3,v,hR _ _ _ _ h5,h6,h7,h8,fn,h9,PW (iH fn fr.tmps) h4 ZS T d⟩)
  {fr:=fZ P f args .normal,X:=[],wl:=wl,kj:=wU hp h1 h2 args,hX:=by simp,hw:=hw} (fun T d=>by
  obtain ⟨e,w',fr,⟨v,rfl,hv⟩,hs,_,hl⟩:=h T d [aT]
  obtain ⟨n,hn⟩:=hs
  refine ⟨n,fr,[],w', ?_,rfl,v,hv,hl⟩
  show runN P n (lone (ext [] (fZ P f args .normal)) ([]++[aT]) (wl.re T d))=_
  rw [ext_nil];exact hn)
 simp only [aAa,ext_nil,xO] at hl
 exact hl
theorem zG (hp:gM P ok) (hid gd:Nat->Nat->Prop) (main:Bool) (c:Y') (cs:List Y') (h1:ok f=true) (h2:rU P f=true) {args:Array M'} {R:M'->J'->Prop} (hR:∀v w T d,R v w->R v (w.re T d))
 (h:∀T d,Calls P f args (wl.re T d) fun e w'=>∃v,e=.returned v/\R v w') {n:Nat} (hc:Cut hid gd wl) (hw:bI wl w) (fI:Shut n U wl):
 Walk P main (Out hid) (LO n U hid gd) (fun g w'=>∃v aK,g=G (c.finish v) cs/\R v aK/\Cut hid gd aK/\bI aK w'/\Shut n U aK) (G (fZ P f args .normal) (c::cs)) w:=by
 have vC:=LW.walk (KS:=fun K=>K=[]) (hid:=hid) (gd:=gd) [] rfl main (c::cs) (JL hp h1 h2 hw.self hR h) hc hw fI
 simp only [aAa,ext_nil,xO] at vC
 refine vC.bind (Out.refl hid) ?_
 rintro g w' ⟨fr,X,aK,rfl,⟨⟨rfl,v,hv,hm,hd,hk,fn,xF,hr⟩,hww⟩,hc',gC,qm⟩
 refine Walk.gU rfl fun w₁ h₁=> ?_
 have cv:=gC.outside hc' h₁
 have pk:(results fn fr.tmps).runT P aK #[]=(.ok v aK,((results fn fr.tmps).runT P aK #[]).2):=by
  have:=Sem.runT_fst P (results fn fr.tmps) aK #[]
  rw [hr] at this
  rw [<-this]
 obtain ⟨w2,h3,h4⟩:=oS (iH fn fr.tmps) cv pk trivial (fun i hi=>absurd hi (by show ¬aK.drawn+i<aK.drawn;omega))
 refine ⟨G (c.finish v) cs,w2,seen P fr.fn ((results fn fr.tmps).runT P aK #[]).2, ?_,⟨tO hc' h4.seen cv.size,fun hb=>kO qm hb cv.size h4.upd⟩,.stop fun DU xo=>⟨v,aK,rfl,hv,hc', ?_,qm⟩⟩
 ·have:({frame:=fr,callers:=[]++c::cs,status:=.running,dying:=none}:O')=G fr ([]++c::cs):=rfl
  simp only [stepG,G,hm,unwind,hd,xF]
  rw [h3]
  simp [doReturn,hk,GStep.after,Result.D6]
 ·exact h4.weak.outside hc' xo
def Fu (b:Y') (k:List x_) (Q:Exit->Act->J'->Prop) (fr:Y') (w:J'):Prop:=
 ∃e a,Q e a w/\match e with
  | .normal=>fr=b.at a k
  | .ret=>∃todo,fr={b.at a todo with mode:=.returning}
  |_=>False
def V0 (Q:Exit->Act->J'->Prop):Prop:=∀e a w,Q e a w->e=.normal\/e=.ret
theorem MS (hp:gM P ok) {b:Y'} {a:Act} {c:Code} (hf:OkFr P ok (b.at a [.code c])) (hw:bI wl wl) {Q:Exit->Act->J'->Prop} (hT:V0 Q)
 (hQ:∀e a w T d,bI w w->Q e a w->Q e a (w.re T d)) (h:∀T d,c.wp P Q a (wl.re T d)):
 LW P (fun _=>True) (fun fr X w=>(AE fR X=[]/\Fu b fR Q (ext (tl fR X) fr) w)/\bI w w) (b.at a [.code c]) [] wl:=by
 refine xk (KS:=fun _=>True) (K₀:=fR) hp trivial (.inr rfl) (Q:=fun fr X w=>X=[]/\Fu b fR Q fr w) (fun fr X w hq=> ?_) (fun fr X w T d h4 hq=> ?_)
  {fr:=b.at a [.code c],X:=[],wl:=wl,kj:=hf,hX:=by simp,hw:=hw} (fun T d=> ?_)
 ·obtain ⟨_,e,a,hq,hm⟩:=hq
  rcases hT e a w hq with rfl|rfl
  ·rw [hm];exact fun h=>h
  ·obtain ⟨todo,hm⟩:=hm;rw [hm];exact fun h=>h
 ·obtain ⟨h1,e,a,hq,hm⟩:=hq
  exact ⟨h1,e,a,hQ _ _ _ _ _ h4 hq,hm⟩
 ·obtain ⟨e,a',w',hq,Vn⟩:=h T d b fR [aT]
  rcases hT e a' w' hq with rfl|rfl
  ·obtain ⟨n,hn⟩:=Vn
   exact ⟨n,_,[],w',hn,rfl,_,a',hq,rfl⟩
  ·obtain ⟨todo,n,hn⟩:=Vn
   exact ⟨n,_,[],w',hn,rfl,_,a',hq,todo,rfl⟩
theorem zF (hp:gM P ok) (hid gd:Nat->Nat->Prop) (main:Bool) (cs:List Y') {b:Y'} {a:Act} {c:Code} (k:List x_) (hf:OkFr P ok (b.at a [.code c])) {Q:Exit->Act->J'->Prop} (hT:V0 Q)
 (hQ:∀e a w T d,bI w w->Q e a w->Q e a (w.re T d)) (h:∀T d,c.wp P Q a (wl.re T d)) {n:Nat} (hc:Cut hid gd wl) (hw:bI wl w) (fI:Shut n U wl):
 Walk P main (Out hid) (LO n U hid gd) (fun g w'=>∃fr aK,g=G fr cs/\Fu b k Q fr aK/\Cut hid gd aK/\bI aK w'/\Shut n U aK) (G (b.at a (.code c::k)) cs) w:=by
 refine (LW.walk (hid:=hid) (gd:=gd) k trivial main cs (MS hp hf hw.self hT hQ h) hc hw fI).bind (Out.refl hid) ?_
 rintro g w' ⟨fr,X,aK,rfl,⟨⟨hX,e,a',hq,hm⟩,_⟩,hc',gC,qm⟩
 cases X with
 |cons x X=>cases hX
 |nil=>
  refine .stop fun w₁ h₁=>⟨ext k fr,aK,rfl,⟨e,a',hq, ?_⟩,hc',gC.outside hc' h₁,qm⟩
  have Ge:=hm
  obtain ⟨fn,tmps,todo,defers,mode,kind,roundOf⟩:=fr
  rcases hT e a' aK hq with rfl|rfl
  ·simp only [tl,ext,Frame.at,Frame.mk.injEq] at hm ⊢
   obtain ⟨rfl,rfl,h3,rfl,rfl,rfl,rfl⟩:=hm
   refine ⟨rfl,rfl, ?_,rfl,rfl,rfl,rfl⟩
   have:todo=[]:=List.append_cancel_right (as:=todo) (bs:=fR) (cs:=[]) (by simpa using h3)
   rw [this];rfl
  ·obtain ⟨td,hm⟩:=hm
   refine ⟨todo++k, ?_⟩
   simp only [tl,ext,Frame.at,Frame.mk.injEq] at hm ⊢
   obtain ⟨rfl,rfl,h3,rfl,rfl,rfl,rfl⟩:=hm
   simp
end
section
open Go Go.Conc
open Go.ConcN (sumTo upd sumTo_upd upd_ne upd_same sumTo_congr)
def KK:Int:=4294967296
structure cx (b o:Nat) (w:J') (s:Int) (m:Int):Prop where
 st:w.cell? ⟨b,o,none⟩=some (.int .u64 s)
 sm:w.cell? ⟨b,o+1,none⟩=some (.int .u32 m)
 thaw:w.frozen? ⟨b,o,none⟩=false/\w.frozen? ⟨b,o+1,none⟩=false
def Live (b o:Nat) (w:J'):Prop:=∃s m,cx b o w s m
inductive Port where
 |recv (c:Nat) (z:M') (ok:Bool)
 |send (c:Nat) (v z:M')
def Port.cases:Port->Array CommCase
 | .recv c z _=>#[rcase c z]
 | .send c v z=>#[scase c v z]
def Port.shape:Port->CommShape
 | .recv _ _ ok=>.recv ok
 | .send ..=>.send
def Port.chan:Port->Nat
 | .recv c ..| .send c ..=>c
def Port.out:Port->Bool
 | .recv ..=>false
 | .send ..=>true
inductive Tag where
 |w0|IQ|w1|w2 (v:Nat)|w3|w4|w5|w6
 deriving DecidableEq
inductive aX where
 |self (k d:Nat)
 |seat (p:Port) (home:O'->J'->Prop)
 |shut (p:Port) (home:O'->J'->Prop)
 |done|rel|deaf|ky|kx|ku
 |quit (d:Nat)
 |wait (t:Tag)
 |none
def aX.loose:aX->Bool
 | .seat ..| .shut ..| .done=>true
 |_=>false
def aX.count:aX->Nat
 | .self k _=>k
 | .seat ..| .shut ..| .done| .rel| .deaf=>1
 |_=>0
def aX.isLast:aX->Bool
 | .ky| .kx| .ku=>true
 |_=>false
def aX.dd:aX->Nat
 | .self _ d=>d
 | .deaf| .ky| .kx| .ku=>1
 | .quit d=>d
 | .wait .IQ| .wait .w1| .wait (.w2 _)| .wait .w3| .wait .w4| .wait .w5=>1
 |_=>0
def aX.fW:aX->Nat
 | .seat ..=>9
 | .shut ..=>8
 | .done=>7
 | .rel=>6
 | .deaf=>5
 | .ky=>4
 | .kx=>3
 | .ku=>2
 | .quit _=>1
 |_=>0
def aX.isSelf:aX->Bool
 | .self ..=>true
 |_=>false
section
variable (P:U') (C:cS) (b o:Nat)
structure RB (i:Nat) (w w₁:J'):Prop where
 live:C.on->Live b o w->Live b o w₁
 cells:∀x k,C.Pv i (.cell ⟨x,k,none⟩)\/C.St i (.cell ⟨x,k,none⟩)->w₁.cell? ⟨x,k,none⟩=w.cell? ⟨x,k,none⟩/\w₁.frozen? ⟨x,k,none⟩=w.frozen? ⟨x,k,none⟩
 gz:∀r,C.Pv i (.obj r)\/C.St i (.obj r)->w₁.heap[r]?=w.heap[r]?
def NY (i:Nat) (e:Event):Prop:=
 ((MemAct.ofEvent e).touch?=none\/∃x,(MemAct.ofEvent e).touch?=some x/\¬C.Sh x.loc/\(C.Pv i x.loc\/x.write=false/\C.St i x.loc))/\e.loc≠.mark .disable/\e.loc≠.mark .enable/\∀x,e.loc≠.mark (.release x)
def DR (i:Nat) (w w':J') (es:Array Event):Prop:=Out (fun x k=>C.Pv i (.cell ⟨x,k,none⟩)) w w'/\∀e∈es,NY C i e
def D0 (w w':J') (es:Array Event):Prop:=w'=w/\es=#[]
def DW (w w':J') (es:Array Event):Prop:=w'=w/\∀e∈es,e=⟨.mark (.write ⟨b,o+1,none⟩),false,true⟩
def gP (main:Bool) (p:Port) (g bp:O'):Prop:=
 g.status=.running/\g.frame=bp.frame/\g.callers=bp.callers/\g.dying=bp.dying/\∀w,stepG P main g w=.comm bp p.cases true p.shape w #[]
def Sits (i:Nat) (p:Port) (home:O'->J'->Prop) (n:Nat) (g:O') (w:J'):Prop:=
 (∃k,n=k+1/\Goes P (i==0) (RB C b o i) (DR C i) (fun g w=>∃bp,gP P (i==0) p g bp/\home bp w) k g w)\/(n=0/\∃dN bp,g=parked bp p.cases p.shape/\gP P (i==0) p dN bp/\home bp w)
section
variable (i:Nat)
def mF (a:Addr):Event:=⟨.cell a,false,true⟩
def vT (a:Addr):Event:=⟨.cell a,true,true⟩
def mh (m:Mark):Event:=⟨.mark m,false,true⟩
def AtD4 (g:O') (w:J'):Prop:=
 g.status=.running/\mayWake P g=true/\(cx b o w 0 0->∃g',g'.status=.running/\stepG P false g w=.go g' (w.setCell ⟨b,o+1,none⟩ (.int .u32 1)) (semEvents ⟨b,o+1,none⟩)/\∃q,QuitsD P q 1 g')
def AtD3 (g:O') (w:J'):Prop:=
 g.status=.running/\(cx b o w 1 0->∃g',stepG P false g w=.go g' (w.setCell ⟨b,o,none⟩ (.int .u64 0)) #[vT ⟨b,o,none⟩]/\∃m,Goes P false (RB C b o i) D0 (AtD4 P b o) m g' (w.setCell ⟨b,o,none⟩ (.int .u64 0)))
def AtD2 (g:O') (w:J'):Prop:=
 g.status=.running/\(cx b o w 1 0->∃g',stepG P false g w=.go g' w #[mF ⟨b,o,none⟩]/\∃m,Goes P false (RB C b o i) D0 (AtD3 P C b o i) m g' w)
def AtD1 (g:O') (w:J'):Prop:=
 g.status=.running/\∀v wt:Nat,wt<=1->v<2147483647->cx b o w ((v+1:Nat) * KK+wt) 0->
  ∃g',stepG P false g w=.go g' (w.setCell ⟨b,o,none⟩ (.int .u64 (v * KK+wt))) #[mF ⟨b,o,none⟩,vT ⟨b,o,none⟩]/\
   ((v=0/\wt=1)->∃m,Goes P false (RB C b o i) D0 (AtD2 P C b o i) m g' (w.setCell ⟨b,o,none⟩ (.int .u64 (v * KK+wt))))/\(¬(v=0/\wt=1)->∃q,QuitsD P q 1 g')
def AtK1 (g:O') (w:J'):Prop:=
 g.status=.running/\∃g',stepG P false g w=.go g' w #[mh .disable]/\∃m,Goes P false (RB C b o i) D0 (AtD1 P C b o i) m g' w
def AtR0 (g:O') (w:J'):Prop:=
 g.status=.running/\∃g',stepG P false g w=.go g' w #[mh (.releaseMerge ⟨b,o,none⟩)]/\∃m,Goes P false (RB C b o i) D0 (AtK1 P C b o i) m g' w
end
section
variable (ae Fin:O'->J'->Prop)
def AtAcq (g:O') (w:J'):Prop:=
 g.status=.running/\∃g',stepG P true g w=.go g' w #[mh (.acquire ⟨b,o,none⟩)]/\Fin g' w
def AtKe (g:O') (w:J'):Prop:=
 g.status=.running/\∃g',stepG P true g w=.go g' w #[mh .enable]/\∃m,Goes P true (RB C b o 0) (DW b o) (AtAcq P b o Fin) m g' w
def AtW4 (g:O') (w:J'):Prop:=
 g.status=.running/\(cx b o w 0 0->∃g',stepG P true g w=.go g' w #[mF ⟨b,o,none⟩]/\∃m,Goes P true (RB C b o 0) (DW b o) (AtKe P C b o Fin) m g' w)
def AtW3 (g:O') (w:J'):Prop:=
 g.status=.running/\g.offers=none/\((∃s,cx b o w s 0)->stepG P true g w=.go {g with status:=.blocked} w #[])/\
  (cx b o w 0 1->∃g',stepG P true g w=.go g' (w.setCell ⟨b,o+1,none⟩ (.int .u32 0)) (semEvents ⟨b,o+1,none⟩)/\∃m,Goes P true (RB C b o 0) (DW b o) (AtW4 P C b o Fin) m g' (w.setCell ⟨b,o+1,none⟩ (.int .u32 0)))
def AtW2 (vs:Nat) (g:O') (w:J'):Prop:=
 g.status=.running/\∀v:Nat,v<2147483648->cx b o w (v * KK) 0->
  (v=vs->∃g',stepG P true g w=.go g' (w.setCell ⟨b,o,none⟩ (.int .u64 (v * KK+1))) #[mF ⟨b,o,none⟩,vT ⟨b,o,none⟩]/\∃m,Goes P true (RB C b o 0) (DW b o) (AtW3 P C b o Fin) m g' (w.setCell ⟨b,o,none⟩ (.int .u64 (v * KK+1))))/\
  (v≠vs->∃g',stepG P true g w=.go g' w #[mF ⟨b,o,none⟩]/\∃m,Goes P true (RB C b o 0) (DW b o) ae m g' w)
def AtW1 (g:O') (w:J'):Prop:=
 g.status=.running/\∀v:Nat,v<2147483648->cx b o w (v * KK) 0->∃g',stepG P true g w=.go g' w #[mF ⟨b,o,none⟩]/\
  (v=0->∃m,Goes P true (RB C b o 0) (DW b o) (AtKe P C b o Fin) m g' w)/\(v≠0->∃m,Goes P true (RB C b o 0) (DW b o) (AtW2 P C b o ae Fin v) m g' w)
def AtKd (g:O') (w:J'):Prop:=
 g.status=.running/\∃g',stepG P true g w=.go g' w #[mh .disable]/\∃m,Goes P true (RB C b o 0) (DW b o) ae m g' w
def GA:Tag->Nat->O'->J'->Prop
 | .w0,n,g,w=>Goes P true (RB C b o 0) (DW b o) (AtKd P C b o ae) n g w
 | .IQ,n,g,w=>Goes P true (RB C b o 0) (DW b o) ae n g w
 | .w1,n,g,w=>Goes P true (RB C b o 0) (DW b o) (AtW1 P C b o ae Fin) n g w
 | .w2 v,n,g,w=>0<v/\Goes P true (RB C b o 0) (DW b o) (AtW2 P C b o ae Fin v) n g w
 | .w3,n,g,w=>(∃k,n=k+1/\Goes P true (RB C b o 0) (DW b o) (AtW3 P C b o Fin) k g w)\/(n=0/\∃dN,AtW3 P C b o Fin dN w/\g={dN with status:=.blocked}/\∀w₁,RB C b o 0 w w₁->AtW3 P C b o Fin dN w₁)
 | .w4,n,g,w=>Goes P true (RB C b o 0) (DW b o) (AtW4 P C b o Fin) n g w
 | .w5,n,g,w=>Goes P true (RB C b o 0) (DW b o) (AtKe P C b o Fin) n g w
 | .w6,n,g,w=>Goes P true (RB C b o 0) (DW b o) (AtAcq P b o Fin) n g w
end
def fx (ae Fin:O'->J'->Prop) (i:Nat) (r:aX) (n:Nat) (g:O') (w:J'):Prop:=
 match r with
 | .self ..=>True
 | .shut p home=>0<i/\(∀w w₁ g,RB C b o i w w₁->home g w->home g w₁)/\(∃c z ok,p=.recv c z ok/\∀bp w,home bp w->∃m,Goes P false (RB C b o i) (DR C i) (AtR0 P C b o i) m (Go.Conc.served bp (recvd ok z false)) w)/\
  Goes P false (RB C b o i) (DR C i) (fun g w=>∃bp,gP P false p g bp/\home bp w) n g w
 | .seat p home=>(∀w w₁ g,RB C b o i w w₁->home g w->home g w₁)/\Sits P C b o i p home n g w
 | .done=>0<i/\Goes P false (RB C b o i) (DR C i) (AtR0 P C b o i) n g w
 | .rel=>0<i/\Goes P false (RB C b o i) D0 (AtK1 P C b o i) n g w
 | .deaf=>0<i/\Goes P false (RB C b o i) D0 (AtD1 P C b o i) n g w
 | .ky=>0<i/\Goes P false (RB C b o i) D0 (AtD2 P C b o i) n g w
 | .kx=>0<i/\Goes P false (RB C b o i) D0 (AtD3 P C b o i) n g w
 | .ku=>0<i/\Goes P false (RB C b o i) D0 (AtD4 P b o) n g w
 | .quit d=>0<i/\QuitsD P n d g
 | .wait t=>i=0/\GA P C b o ae Fin t n g w
 | .none=>False
end
variable {P:U'} {C:cS} {b o:Nat} {ae Fin:O'->J'->Prop}
theorem RB.refl (i:Nat) (w:J'):RB C b o i w w:=⟨fun _=>id,fun _ _ _=>⟨rfl,rfl⟩,fun _ _=>rfl⟩
variable {i:Nat}
theorem RB.trans:∀a d e,RB C b o i a d->RB C b o i d e->RB C b o i a e:=fun _ _ _ h k=>
 ⟨fun c x=>k.live c (h.live c x),fun x j hx=>⟨(k.cells x j hx).1.trans (h.cells x j hx).1,(k.cells x j hx).2.trans (h.cells x j hx).2⟩,fun r hr=>(k.gz r hr).trans (h.gz r hr)⟩
theorem RB.at (i:Nat) (w:J') (d:Nat):RB C b o i w (w.at d):=⟨fun _ ⟨s,m,h⟩=>⟨s,m,h.st,h.sm,h.thaw⟩,fun _ _ _=>⟨rfl,rfl⟩,fun _ _=>rfl⟩
variable {g:O'} {w w₁:J'}
theorem fx.rely {r:aX} {n:Nat} (h:fx P C b o ae Fin i r n g w) (hr:RB C b o i w w₁):fx P C b o ae Fin i r n g w₁:=by
 cases r with
 |self k d=>trivial
 |shut p home=>exact ⟨h.1,h.2.1,h.2.2.1,Goes.rely RB.trans h.2.2.2 hr⟩
 |seat p home=>
  refine ⟨h.1, ?_⟩
  rcases h.2 with ⟨k,rfl,hg⟩|⟨rfl,dN,bp,rfl,fH,hh⟩
  ·exact .inl ⟨k,rfl,hg.rely RB.trans hr⟩
  ·exact .inr ⟨rfl,dN,bp,rfl,fH,h.1 _ _ _ hr hh⟩
 |done=>exact ⟨h.1,Goes.rely RB.trans h.2 hr⟩
 |rel=>exact ⟨h.1,Goes.rely RB.trans h.2 hr⟩
 |deaf=>exact ⟨h.1,Goes.rely RB.trans h.2 hr⟩
 |ky=>exact ⟨h.1,Goes.rely RB.trans h.2 hr⟩
 |kx=>exact ⟨h.1,Goes.rely RB.trans h.2 hr⟩
 |ku=>exact ⟨h.1,Goes.rely RB.trans h.2 hr⟩
 |quit d=>exact h
 |none=>exact h
 |wait t=>
  obtain ⟨rfl,h⟩:=h
  refine ⟨rfl, ?_⟩
  cases t with
  |w3=>
   rcases h with ⟨k,rfl,hg⟩|⟨rfl,dN,h1,rfl,h2⟩
   ·exact .inl ⟨k,rfl,hg.rely RB.trans hr⟩
   ·exact .inr ⟨rfl,dN,h2 _ hr,rfl,fun lZ iN=>h2 _ (RB.trans _ _ _ hr iN)⟩
  |w2 v=>exact ⟨h.1,Goes.rely RB.trans h.2 hr⟩
  |_=>exact Goes.rely RB.trans h hr
theorem fx.status (hA:∀g w,ae g w->g.status=.running) {r:aX} {n:Nat} (h:fx P C b o ae Fin i r n g w) (hs:r.isSelf=false):
 g.status=.running\/g.status=.finished\/(g.status=.blocked/\n=0/\((∃p home,r=.seat p home)\/r=.wait .w3)):=by
 cases r with
 |self k d=>cases hs
 |shut p home=>exact .inl (h.2.2.2.running (fun _ _ x=>x.choose_spec.1.1) w (RB.refl i w))
 |seat p home=>
  rcases h.2 with ⟨k,rfl,hg⟩|⟨rfl,dN,bp,rfl,fH,hh⟩
  ·exact .inl (hg.running (fun _ _ x=>x.choose_spec.1.1) w (RB.refl i w))
  ·exact .inr (.inr ⟨rfl,rfl,.inl ⟨_,_,rfl⟩⟩)
 |done=>exact .inl (h.2.running (fun _ _ x=>x.1) w (RB.refl i w))
 |rel=>exact .inl (h.2.running (fun _ _ x=>x.1) w (RB.refl i w))
 |deaf=>exact .inl (h.2.running (fun _ _ x=>x.1) w (RB.refl i w))
 |ky=>exact .inl (h.2.running (fun _ _ x=>x.1) w (RB.refl i w))
 |kx=>exact .inl (h.2.running (fun _ _ x=>x.1) w (RB.refl i w))
 |ku=>exact .inl (h.2.running (fun _ _ x=>x.1) w (RB.refl i w))
 |quit d=>exact h.2.status.imp id .inl
 |none=>exact h.elim
 |wait t=>
  obtain ⟨rfl,h⟩:=h
  cases t with
  |w3=>
   rcases h with ⟨k,rfl,hg⟩|⟨rfl,dN,h1,rfl,h2⟩
   ·exact .inl (hg.running (fun _ _ x=>x.1) w (RB.refl 0 w))
   ·exact .inr (.inr ⟨rfl,rfl,.inr rfl⟩)
  |w0=>exact .inl (Goes.running (fun _ _ x=>x.1) w (RB.refl 0 w) h)
  |IQ=>exact .inl (Goes.running hA w (RB.refl 0 w) h)
  |w1=>exact .inl (Goes.running (fun _ _ x=>x.1) w (RB.refl 0 w) h)
  |w2 v=>exact .inl (Goes.running (fun _ _ x=>x.1) w (RB.refl 0 w) h.2)
  |w4=>exact .inl (Goes.running (fun _ _ x=>x.1) w (RB.refl 0 w) h)
  |w5=>exact .inl (Goes.running (fun _ _ x=>x.1) w (RB.refl 0 w) h)
  |w6=>exact .inl (Goes.running (fun _ _ x=>x.1) w (RB.refl 0 w) h)
variable {w':J'} {x k:Nat}
theorem Out.cell {hid:Nat->Nat->Prop} (h:Out hid w w') (hn:¬hid x k) (hlt:x<w.heap.size):w'.cell? ⟨x,k,none⟩=w.cell? ⟨x,k,none⟩/\w'.frozen? ⟨x,k,none⟩=w.frozen? ⟨x,k,none⟩:=by
 obtain ⟨ob,ho⟩:∃ob,w.heap[x]?=some ob:=⟨_,H_ hlt⟩
 cases hc:aR ob with
 |true=>
  cases ob<;>simp [aR] at hc
  obtain ⟨c',h1,_,h3⟩:=h.cells x _ _ _ ho
  simp [World.cell?,World.frozen?,ho,h1,h3 k hn]
 |false=>
  have h1:=h.gz x ob ho hc
  simp [World.cell?,World.frozen?,ho,h1]
variable {es:Array Event}
theorem Sd.cell {hid gd:Nat->Nat->Prop} (h:Sd hid gd w w' es) (hn:hid x k\/gd x k) (hlt:x<w.heap.size):w'.cell? ⟨x,k,none⟩=w.cell? ⟨x,k,none⟩/\w'.frozen? ⟨x,k,none⟩=w.frozen? ⟨x,k,none⟩:=by
 obtain ⟨ob,ho⟩:∃ob,w.heap[x]?=some ob:=⟨_,H_ hlt⟩
 cases hc:aR ob with
 |true=>
  cases ob<;>simp [aR] at hc
  obtain ⟨c',h1,_,h3⟩:=h.cells x _ _ _ ho
  simp [World.cell?,World.frozen?,ho,h1,h3 k hn]
 |false=>
  obtain ⟨zk,h1,h2⟩:=h.gz x ob ho hc
  cases ob<;>simp [aR] at hc<;>cases zk<;>simp [aR] at h2<;>simp [World.cell?,World.frozen?,ho,h1]
theorem lC {a:Addr} {v:M'} (h:w.cell? a=some v):a.block<w.heap.size:=by
 obtain ⟨c,e,f,hb,_⟩:=dF h
 exact (cI hb)
theorem di (w:J') {x' k':Nat} (v:M') (h:x≠x'\/k≠k'):(w.setCell ⟨x,k,none⟩ v).cell? ⟨x',k',none⟩=w.cell? ⟨x',k',none⟩:=by
 unfold World.cell?
 simp only [heap_setCell]
 by_cases hx:x=x'
 ·subst hx
  have hk:k≠k':=h.elim (fun q=>absurd rfl q) id
  cases hb:w.heap[x]? with
  |none=>simp
  |some ob=>cases ob<;>simp [I_ hk]
 ·simp [hx]
theorem oz {XZ:M'} (v:M') (h:w.cell? ⟨x,k,none⟩=some XZ):(w.setCell ⟨x,k,none⟩ v).cell? ⟨x,k,none⟩=some v:=by
 obtain ⟨c,e,f,hb,hk⟩:=dF h
 have hlt:k<c.size:=(cI hk)
 unfold World.cell?
 simp only [heap_setCell]
 simp only at hb
 simp [hb,hlt]
theorem jq (w:J') (a a':Addr) (v:M'):(w.setCell a v).frozen? a'=w.frozen? a':=by
 unfold World.frozen?
 simp only [heap_setCell]
 by_cases hx:a.block=a'.block
 ·simp only [hx,if_true]
  cases hb:w.heap[a'.block]? with
  |none=>rfl
  |some ob=>cases ob<;>rfl
 ·simp [hx]
theorem mU {a:Addr} {v:M'} {r:Nat} {ob:Obj} (h:w.heap[r]?=some ob) (hc:aR ob=false):(w.setCell a v).heap[r]?=some ob:=by
 rw [heap_setCell]
 split
 ·rw [h];cases ob<;>first|(cases hc;done)|rfl
 ·exact h
theorem gH (w:J') (x k:Nat) (v:M'):Out (fun x' k'=>x'=x/\k'=k) w (w.setCell ⟨x,k,none⟩ v):=by
 refine ⟨by simp [World.setCell],fun y c e f hb=> ?_,fun y ob hb hc=>mU hb hc,rfl,rfl,rfl⟩
 rw [heap_setCell]
 by_cases hx:x=y
 ·subst hx
  refine ⟨c.setIfInBounds k v,by simp [hb],by simp,fun k' hk=> ?_⟩
  rw [I_ (fun e=>hk ⟨rfl,e.symm⟩)]
 ·exact ⟨c,by simp [hx,hb],rfl,fun _ _=>rfl⟩
theorem Out.mono {hid UM:Nat->Nat->Prop} (h:Out hid w w') (hs:∀x k,hid x k->UM x k):Out UM w w':=
 ⟨h.size,fun x c e f hb=>let ⟨c',h1,h2,h3⟩:=h.cells x c e f hb;⟨c',h1,h2,fun k hk=>h3 k fun q=>hk (hs x k q)⟩,h.gz,h.os,h.out,h.tape⟩
variable {m:Int}
theorem cx.setSt {o:Nat} {s:Int} (h:cx b o w s m) (s':Int):cx b o (w.setCell ⟨b,o,none⟩ (.int .u64 s')) s' m:=
 ⟨oz _ h.st,by rw [di _ _ (.inr (by omega))];exact h.sm,by rw [jq,jq];exact h.thaw⟩
theorem cx.setSm {o:Nat} {s:Int} (h:cx b o w s m) (m':Int):cx b o (w.setCell ⟨b,o+1,none⟩ (.int .u32 m')) s m':=
 ⟨by rw [di _ _ (.inr (by omega))];exact h.st,oz _ h.sm,by rw [jq,jq];exact h.thaw⟩
theorem cx.keep {o:Nat} {s:Int} (h:cx b o w s m) (h0:w'.cell? ⟨b,o,none⟩=w.cell? ⟨b,o,none⟩/\w'.frozen? ⟨b,o,none⟩=w.frozen? ⟨b,o,none⟩) (h1:w'.cell? ⟨b,o+1,none⟩=w.cell? ⟨b,o+1,none⟩/\w'.frozen? ⟨b,o+1,none⟩=w.frozen? ⟨b,o+1,none⟩):cx b o w' s m:=
 ⟨h0.1.trans h.st,h1.1.trans h.sm,h0.2.trans h.thaw.1,h1.2.trans h.thaw.2⟩
def bS (C:cS) (x k:Nat):Prop:=C.Sh (.cell ⟨x,k,none⟩)\/C.Gr (.cell ⟨x,k,none⟩)\/∃g,C.Pv g (.cell ⟨x,k,none⟩)
def fy (C:cS) (x k:Nat):Prop:=∃g,C.St g (.cell ⟨x,k,none⟩)
def cnt (ρ:Nat->aX) (n:Nat):Nat:=sumTo n fun i=>(ρ i).count
def dy (b o:Nat) (ρ:Nat->aX) (n:Nat) (w:J'):Prop:=
 match ρ 0 with
 | .wait .w3=>((∀j,(ρ j).isLast=false)/\(0<cnt ρ n/\cx b o w (cnt ρ n * KK+1) 0\/cnt ρ n=0/\cx b o w 0 1))\/
  (cnt ρ n=0/\∃i,(∀j,(ρ j).isLast=true->j=i)/\((ρ i=.ky\/ρ i=.kx)/\cx b o w 1 0\/ρ i=.ku/\cx b o w 0 0))
 | .wait .w4| .wait .w5| .wait .w6=>(∀j,(ρ j).isLast=false)/\cnt ρ n=0/\cx b o w 0 0
 |_=>(∀j,(ρ j).isLast=false)/\cx b o w (cnt ρ n * KK) 0
def aX.FP:aX->Prop
 | .quit _| .none=>True
 | .self k _=>k=0
 |_=>False
def aX.isW3:aX->Bool
 | .wait .w3=>true
 |_=>false
def Acc (who:Option Nat) (rel:Nat->Prop) (t:Trace) (i:Nat):Prop:=
 match who with
 |some h=>Knows t h i
 |none=>∃p,rel p/\Before t i p
structure aC (P:U') (C:cS) (b o:Nat) (ae Fin:O'->J'->Prop) (who:Option Nat) (rel:Nat->Prop) (ρ:Nat->aX) (q:Nat->Nat) (gs:Array O') (w:J') (t:Trace):Prop where
 ok:C.Ok
 ad:C.ad=⟨b,o,none⟩
 yk:∀l,C.Sh l↔C.on/\(l=.cell ⟨b,o,none⟩\/l=.cell ⟨b,o+1,none⟩)
 IB:∀l,C.Gr l->∃x k,l=.cell ⟨x,k,none⟩/\x<w.heap.size
 Ls:∀g,C.Dd g->∃d,ρ g=.quit d
 old:∀g l,C.St g l\/C.Pv g l->g<gs.size
 plain:∀g l,C.St g l\/C.Pv g l->(∃x k,l=.cell ⟨x,k,none⟩)\/∃r,l=.obj r
 CG:∀g x k,C.Pv g (.cell ⟨x,k,none⟩)\/C.St g (.cell ⟨x,k,none⟩)->x<w.heap.size
 mO:∀g r,C.Pv g (.obj r)\/C.St g (.obj r)->∃ob,w.heap[r]?=some ob/\aR ob=false
 tr:Tr C (fun i=>(ρ i).loose=true) rel gs.size (fun i=>(ρ i).dd) (Acc who rel t) t
 eD:∀i g,gs[i]?=some g->fx P C b o ae Fin i (ρ i) (q i) g w
 above:∀i,gs.size<=i->ρ i=.none
 chans:∀i p home,ρ i=.seat p home->∃k,w.heap[p.chan]?=some (.chan 0 #[] false k k false)
 apart:∀i j p p' h h',ρ i=.seat p h->ρ j=.seat p' h'->p.chan=p'.chan->p.out=p'.out
 shuts:∀i p home,ρ i=.shut p home->∃k,w.heap[p.chan]?=some (.chan 0 #[] true k k false)
 one:∀i k d,ρ i=.self k d->who=some i
 holder:∀x,who=some x->x=0\/(ρ x).isSelf=true\/ρ x=.done
 few:cnt ρ gs.size<2147483647
 wg:C.on->dy b o ρ gs.size w
 off:¬C.on->∀j,(ρ j).FP
 cX:0<gs.size
 awake:ρ 0=.wait .w3->cx b o w 0 1->0<q 0
variable {who who':Option Nat} {rel bZ:Nat->Prop} {ρ:Nat->aX} {q:Nat->Nat} {gs:Array O'} {t u:Trace}
theorem Acc.app (h:∀p,rel p->bZ p) (ha:Acc who rel t i):Acc who bZ (t++u) i:=by
 cases who with
 |some g=>exact Knows.app u ha
 |none=>exact ha.imp fun p hp=>⟨h p hp.1,hp.2.app u⟩
theorem dy.live {n:Nat} (h:dy b o ρ n w):Live b o w:=by
 unfold dy at h
 split at h
 ·rcases h with ⟨_,⟨_,h⟩|⟨_,h⟩⟩|⟨_,i,_,⟨_,h⟩|⟨_,h⟩⟩<;>exact ⟨_,_,h⟩
 ·exact ⟨_,_,h.2.2⟩
 ·exact ⟨_,_,h.2.2⟩
 ·exact ⟨_,_,h.2.2⟩
 ·exact ⟨_,_,h.2⟩
theorem dy.keep {n:Nat} (h:dy b o ρ n w) (hk:∀s m,cx b o w s m->cx b o w' s m):dy b o ρ n w':=by
 unfold dy at h ⊢
 split<;>rename_i e<;>simp only [e] at h
 ·rcases h with ⟨h0,⟨h1,h⟩|⟨h1,h⟩⟩|⟨h0,i,h1,⟨h2,h⟩|⟨h2,h⟩⟩
  ·exact .inl ⟨h0,.inl ⟨h1,hk _ _ h⟩⟩
  ·exact .inl ⟨h0,.inr ⟨h1,hk _ _ h⟩⟩
  ·exact .inr ⟨h0,i,h1,.inl ⟨h2,hk _ _ h⟩⟩
  ·exact .inr ⟨h0,i,h1,.inr ⟨h2,hk _ _ h⟩⟩
 ·exact ⟨h.1,h.2.1,hk _ _ h.2.2⟩
 ·exact ⟨h.1,h.2.1,hk _ _ h.2.2⟩
 ·exact ⟨h.1,h.2.1,hk _ _ h.2.2⟩
 ·exact ⟨h.1,hk _ _ h.2⟩
theorem aC.jw (T:aC P C b o ae Fin who rel ρ q gs w t) (h:¬(ρ i).FP):C.on:=by
 by_cases hc:C.on
 ·exact hc
 ·exact absurd (T.off hc i) h
theorem aC.fX (T:aC P C b o ae Fin who rel ρ q gs w t) (h:∀d,ρ i≠.quit d):¬C.Dd i:=fun hd=>by
 obtain ⟨d,e⟩:=T.Ls i hd
 exact h d e
theorem aC.at (T:aC P C b o ae Fin who rel ρ q gs w t) (d:Nat):aC P C b o ae Fin who rel ρ q gs (w.at d) t:=
 ⟨T.ok,T.ad,T.yk,T.IB,T.Ls,T.old,T.plain,T.CG,T.mO,T.tr,fun i g hg=>(T.eD i g hg).rely (RB.at i w d),T.above,T.chans,T.apart,T.shuts,T.one,T.holder,T.few,fun c=>(T.wg c).keep fun _ _ h=>⟨h.st,h.sm,h.thaw⟩,T.off,T.cX,fun h1 h2=>T.awake h1 ⟨h2.st,h2.sm,h2.thaw⟩⟩
theorem aC.P6 (T:aC P C b o ae Fin who rel ρ q gs w t) (h:Out (fun x k=>C.Pv i (.cell ⟨x,k,none⟩)) w w'):
 (∀j,j≠i->RB C b o j w w')/\(C.on->∀s m,cx b o w s m->cx b o w' s m):=by
 have my:C.on->∀s m,cx b o w s m->cx b o w' s m:=fun c s m hs=>
  hs.keep (h.cell (fun q=>(T.ok.off i _ ((T.yk _).2 ⟨c,.inl rfl⟩)).1 q) (lC hs.st)) (h.cell (fun q=>(T.ok.off i _ ((T.yk _).2 ⟨c,.inr rfl⟩)).1 q) (lC hs.sm))
 refine ⟨fun j hj=>⟨fun c ⟨s,m,hs⟩=>⟨s,m,my c s m hs⟩,fun x k hx=>h.cell (fun q=> ?_) (T.CG j x k hx),fun r hr=> ?_⟩,my⟩
 ·have:=T.ok.apart i j _ q (ru hj)
  exact hx.elim this.1 this.2
 ·obtain ⟨ob,h1,h2⟩:=T.mO j r hr
  rw [h1,h.gz r ob h1 h2]
theorem aC.tq (T:aC P C b o ae Fin who rel ρ q gs w t) (b9:C.on) {v:M'} (hk:k=o\/k=o+1) (hl:Live b o (w.setCell ⟨b,k,none⟩ v)) (j:Nat):RB C b o j w (w.setCell ⟨b,k,none⟩ v):=by
 have h:=gH w b k v
 refine ⟨fun _ _=>hl,fun x k' hx=>h.cell (fun ⟨h1,h2⟩=> ?_) (T.CG j x k' hx),fun r hr=> ?_⟩
 ·subst h1 h2
  have:=T.ok.off j _ ((T.yk (.cell ⟨x,k',none⟩)).2 ⟨b9,hk.imp (fun e=>by rw [e]) (fun e=>by rw [e])⟩)
  exact hx.elim this.1 this.2
 ·obtain ⟨ob,h1,h2⟩:=T.mO j r hr
  rw [h1,h.gz r ob h1 h2]
variable {a':O'}
theorem aC.Mn (T:aC P C b o ae Fin who rel ρ q gs w t) (hA:∀g w,ae g w->g.status=.running) (hch:∀i p home,ρ i=.seat p home->∃k,w'.heap[p.chan]?=some (.chan 0 #[] false k k false)) {j:Nat} {y a:O'} (hy:gs[j]?=some y) (hs:(ρ j).isSelf=false):
 woken P a a' w' y=y\/(ρ j=.wait .w3/\woken P a a' w' y={y with status:=.running}/\y.status=.blocked):=by
 have key:y.again w'=y\/(ρ j=.wait .w3/\y.again w'={y with status:=.running}/\y.status=.blocked):=by
  have hr:=T.eD j y hy
  rcases hr.status hA hs with h|h|⟨h,hq,⟨p,home,e⟩|e⟩
  ·exact .inl (again_running _ (.inl h))
  ·exact .inl (again_running _ (.inr h))
  ·left
   rw [e] at hr
   rcases hr.2 with ⟨k,hk,_⟩|⟨_,dN,bp,rfl,_⟩
   ·omega
   ·obtain ⟨k,hc⟩:=hch j p home e
    cases p with
    |recv c z ok=>exact again_recv_open hc
    |send c v z=>exact again_send_open hc
  ·refine .inr ⟨e, ?_,h⟩
   rw [e] at hr
   rcases hr.2 with ⟨k,hk,_⟩|⟨_,dN,h1,rfl,_⟩
   ·omega
   ·have:=h1.2.1
    simp only [Goroutine.again,this]
 unfold woken
 split
 ·exact key
 ·exact .inl rfl
variable {g':O'} {r':aX} {n':Nat}
theorem aC.step (T:aC P C b o ae Fin who rel ρ q gs w t) (hA:∀g w,ae g w->g.status=.running) {a:O'} (hi:gs[i]?=some g)
 (po:∀j,j≠i->RB C b o j w w') (hsz:w.heap.size<=w'.heap.size) (Kp:∀(r:Nat) (ob:Obj),w.heap[r]?=some ob->aR ob=false->ob.isChan=true->w'.heap[r]?=some ob) (hio:∀r,C.Pv i (.obj r)\/C.St i (.obj r)->∃ob,w'.heap[r]?=some ob/\aR ob=false)
 (kD:∀p h,r'=.seat p h->∃h₀,ρ i=.seat p h₀) (uG:∀p h,r'=.shut p h->∃h₀,ρ i=.shut p h₀) (Nb:∀j k d,upd ρ i r' j=.self k d->who'=some j) (UU:∀x,who'=some x->x=0\/(upd ρ i r' x).isSelf=true\/upd ρ i r' x=.done) (aM:fx P C b o ae Fin i r' n' g' w')
 (AV:Tr C (fun j=>(upd ρ i r' j).loose=true) bZ gs.size (fun j=>(upd ρ i r' j).dd) (Acc who' bZ (t++u)) (t++u)) (my:C.on->dy b o (upd ρ i r') gs.size w') (b9:¬C.on->r'.FP) (hdq:C.Dd i->∃d,r'=.quit d) (U3:cnt (upd ρ i r') gs.size<2147483647)
 (ES:i≠0->ρ 0=.wait .w3->cx b o w' 0 1->cx b o w 0 1\/(mayWake P a=true/\a'.status=.running)) (KG:i=0->r'=.wait .w3->cx b o w' 0 1->0<n'):
 ∃q',aC P C b o ae Fin who' bZ (upd ρ i r') q' ((gs.map (woken P a a' w')).setIfInBounds i g') w' (t++u)/\q' i=n'/\∀j,j≠i->ρ j≠.wait .w3->q' j=q j:=by
 have hlt:i<gs.size:=(cI hi)
 have hch:∀j p home,ρ j=.seat p home->∃k,w'.heap[p.chan]?=some (.chan 0 #[] false k k false):=fun j p home e=>by
  obtain ⟨k,hk⟩:=T.chans j p home e
  exact ⟨k,Kp _ _ hk rfl rfl⟩
 refine ⟨fun j=>if j=i then n' else if (ρ j).isW3&&((gs[j]?).any fun y=>(woken P a a' w' y).status==.running&&y.status==.blocked) then 1 else q j, ?_,by simp, ?_⟩
 ·refine ⟨T.ok,T.ad,T.yk,fun l hl=>(T.IB l hl).imp fun x h=>h.imp fun k h=>⟨h.1,E_ h.2 hsz⟩,fun j hj=> ?_,by simpa using T.old,T.plain,fun g x k h=>E_ (T.CG g x k h) hsz,fun gg r hr=> ?_,by simpa using AV,fun j y hy=> ?_,fun j hj=> ?_,fun j p home e=> ?_,fun j l p p' h h' e e'=> ?_,fun j p home e=> ?_,Nb,UU,by simpa using U3,by simpa using my,fun c j=> ?_,by simpa using T.cX,fun h1 h2=> ?_⟩
  ·by_cases e:j=i
   ·subst e;rw [O_];exact hdq hj
   ·rw [P_ _ _ e];exact T.Ls j hj
  ·by_cases e:gg=i
   ·subst e;exact hio r hr
   ·obtain ⟨ob,h1,h2⟩:=T.mO gg r hr
    exact ⟨ob,((po gg e).gz r hr).trans h1,h2⟩
  ·by_cases e:j=i
   ·subst e
    rw [Array.getElem?_setIfInBounds_self_of_lt (by simpa using hlt)] at hy
    obtain rfl:=some_inj hy
    simp only [O_,if_true]
    exact aM
   ·rw [I_ (ru e),Array.getElem?_map] at hy
    obtain ⟨BP,CI,rfl⟩:=Option.map_eq_some_iff.1 hy
    rw [P_ _ _ e]
    simp only [e,if_false,CI,Option.any_some]
    cases hs:(ρ j).isSelf with
    |true=>cases hr:ρ j<;>rw [hr] at hs<;>first|(cases hs;done)|trivial
    |false=>
     have hj:=(T.eD j BP CI).rely (po j e)
     rcases T.Mn hA hch (a:=a) (a':=a') CI hs with hw|⟨CK,hw,hb⟩
     ·rw [hw]
      have:(BP.status==.running&&BP.status==.blocked)=false:=by cases BP.status<;>rfl
      simp only [this,Bool.and_false,Bool.false_eq_true,if_false]
      exact hj
     ·rw [hw,hb]
      rw [CK] at hj ⊢
      simp only [aX.isW3,beq_self_eq_true,Bool.and_self,if_true]
      obtain ⟨rfl,hj⟩:=hj
      refine ⟨rfl,.inl ⟨0,rfl, ?_⟩⟩
      rcases hj with ⟨k,_,hg⟩|⟨_,dN,h1,rfl,h2⟩
      ·have:=hg.running (fun _ _ x=>x.1) w' (RB.refl 0 w')
       rw [hb] at this;cases this
      ·have e0:({{dN with status:=.blocked} with status:=.running}:O')=dN:=by
        have:=h1.1
        cases dN;simp_all
       rw [e0]
       exact Goes.stop fun w₁ h₁=>h2 w₁ h₁
  ·have EL:gs.size<=j:=by simpa using hj
   have e:j≠i:=by omega
   rw [P_ _ _ e];exact T.above j EL
  ·by_cases ej:j=i
   ·subst ej
    rw [O_] at e
    obtain ⟨h₀,RL⟩:=kD p home e
    exact hch j p h₀ RL
   ·rw [P_ _ _ ej] at e;exact hch j p home e
  ·have old:∀j p h,upd ρ i r' j=.seat p h->∃h₀,ρ j=.seat p h₀:=by
    intro j p h e
    by_cases ej:j=i
    ·subst ej;rw [O_] at e;exact kD p h e
    ·rw [P_ _ _ ej] at e;exact ⟨h,e⟩
   obtain ⟨h₁,e₁⟩:=old j p h e
   obtain ⟨iN,e₂⟩:=old l p' h' e'
   exact T.apart j l p p' _ _ e₁ e₂
  ·have old:∃h₀,ρ j=.shut p h₀:=by
    by_cases ej:j=i
    ·subst ej;rw [O_] at e;exact uG p home e
    ·rw [P_ _ _ ej] at e;exact ⟨home,e⟩
   obtain ⟨h₀,RL⟩:=old
   obtain ⟨k,hk⟩:=T.shuts j p h₀ RL
   exact ⟨k,Kp _ _ hk rfl rfl⟩
  ·by_cases e:j=i
   ·subst e;rw [O_];exact b9 c
   ·rw [P_ _ _ e];exact T.off c j
  ·by_cases e:(0:Nat)=i
   ·simp only [e,if_true]
    subst e
    rw [O_] at h1
    exact KG rfl h1 h2
   ·rw [P_ _ _ e] at h1
    simp only [e,if_false,h1,aX.isW3,Bool.true_and]
    obtain ⟨y,hy⟩:∃y,gs[0]?=some y:=⟨_,H_ T.cX⟩
    simp only [hy,Option.any_some]
    have hr:=T.eD 0 y hy
    rw [h1] at hr
    rcases hr.2 with ⟨k,hk,_⟩|⟨hk,dN,h3,rfl,_⟩
    ·split<;>omega
    ·have hold:¬cx b o w 0 1:=fun h=>by have:=T.awake h1 h;omega
     rcases ES (ru e) h1 h2 with h|⟨h4,h5⟩
     ·exact absurd h hold
     ·have AX:=h3.2.1
      have:woken P a a' w' {dN with status:=.blocked}={{dN with status:=.blocked} with status:=.running}:=by
       simp [woken,h4,h5,Goroutine.again,AX]
      rw [this];simp
 ·intro j e CK
  have:(ρ j).isW3=false:=by
   cases hr:ρ j with
   |wait t=>cases t<;>first|rfl|exact absurd hr CK
   |_=>rfl
  simp [e,this]
end
section
open Go Go.Conc
open Go.ConcN (sumTo upd sumTo_upd upd_ne upd_same sumTo_congr le_sumTo)
def wP (ρ:Nat->aX) (n:Nat):Nat:=sumTo n fun i=>(ρ i).fW
def uw (ρ:Nat->aX) (q:Nat->Nat) (n:Nat):Nat:=sumTo n fun i=>if (ρ i).fW=0 then 0 else q i
def jB (ρ:Nat->aX) (n:Nat):Nat:=
 match ρ 0 with
 | .wait .w0=>9
 | .wait (.w2 v)=>if v=cnt ρ n then 5 else 8
 | .wait .IQ=>7
 | .wait .w1=>6
 | .wait .w3=>4
 | .wait .w4=>3
 | .wait .w5=>2
 | .wait .w6=>1
 |_=>0
def Ob (ρ:Nat->aX) (q:Nat->Nat):Nat:=
 match ρ 0 with
 | .wait _=>q 0
 |_=>0
def meas (ρ:Nat->aX) (q:Nat->Nat) (n:Nat):Nat × Nat × Nat × Nat:=(wP ρ n,uw ρ q n,jB ρ n,Ob ρ q)
def Bz:Nat × Nat × Nat × Nat->Nat × Nat × Nat × Nat->Prop:=Prod.Lex (·<·) (Prod.Lex (·<·) (Prod.Lex (·<·) (·<·)))
theorem sf:WellFounded Bz:=(Prod.lex Nat.lt_wfRel (Prod.lex Nat.lt_wfRel (Prod.lex Nat.lt_wfRel Nat.lt_wfRel))).wf
theorem nA {α:Type} (f:Nat->α) (x:α) (φ:Nat->α->Nat) {i:Nat}:∀{j:Nat},i<j->sumTo j (fun a=>φ a (upd f i x a))+φ i (f i)=sumTo j (fun a=>φ a (f a))+φ i x
 |j+1,h=>by
  rcases Nat.lt_or_ge i j with hlt|vI
  ·have:=nA f x φ hlt
   simp only [sumTo,P_ f x (show j≠i by omega)]
   omega
  ·obtain rfl:i=j:=by omega
   simp only [sumTo,O_]
   rw [sumTo_congr (g:=fun a=>φ a (f a)) (fun a ha=>by rw [P_ f x (by omega)])]
   omega
variable {ρ:Nat->aX} {i:Nat}
theorem tu {n:Nat} (r:aX) (h:i<n):wP (upd ρ i r) n+(ρ i).fW=wP ρ n+r.fW:=nA ρ r (fun _ x=>x.fW) h
theorem kL {n:Nat} (r:aX) (h:i<n):cnt (upd ρ i r) n+(ρ i).count=cnt ρ n+r.count:=nA ρ r (fun _ x=>x.count) h
theorem Bn {n:Nat} (h:i<n) (hc:0<(ρ i).count):0<cnt ρ n:=E_ hc (le_sumTo (f:=fun i=>(ρ i).count) h)
variable {q':Nat->Nat}
theorem jG {q:Nat->Nat} {n:Nat} {r:aX} (h:i<n) (hr:r.fW<(ρ i).fW):Bz (meas (upd ρ i r) q' n) (meas ρ q n):=by
 have:=tu (ρ:=ρ) r h
 exact .left _ _ (by omega)
theorem AH {q:Nat->Nat} {n:Nat} {r:aX} (h:i<n) (hr:r.fW=(ρ i).fW) (h0:0<r.fW) (hq:q' i<q i) (ho:∀j,j≠i->ρ j≠.wait .w3->q' j=q j):Bz (meas (upd ρ i r) q' n) (meas ρ q n):=by
 have h1:=tu (ρ:=ρ) r h
 have e1:wP (upd ρ i r) n=wP ρ n:=by omega
 have h2:uw (upd ρ i r) q' n<uw ρ q n:=by
  have key:uw (upd ρ i r) q' n+(if (ρ i).fW=0 then 0 else q i)=uw ρ q n+(if r.fW=0 then 0 else q' i):=by
   have:=nA (fun j=>(ρ j,q j)) (r,q' i) (fun _ x=>if x.1.fW=0 then 0 else x.2) h
   rw [show uw (upd ρ i r) q' n=sumTo n fun a=>if (upd (fun j=>(ρ j,q j)) i (r,q' i) a).1.fW=0 then 0 else (upd (fun j=>(ρ j,q j)) i (r,q' i) a).2 from sumTo_congr fun a _=>by
    by_cases e:a=i
    ·subst e;simp [O_]
    ·rw [P_ _ _ e,P_ _ _ e]
     by_cases hw:ρ a=.wait .w3
     ·simp [hw,aX.fW]
     ·simp [ho a e hw]]
   exact this
  rw [if_neg (by omega),if_neg (by omega)] at key
  omega
 unfold meas
 rw [e1]
 exact .right _ (.left _ _ h2)
def aX.leaving:aX->Bool
 | .shut ..| .done| .rel| .deaf| .ky| .kx| .ku| .quit _=>true
 |_=>false
def vS (r r':aX):Prop:=r'=r\/(r.leaving=true/\r'.leaving=true)\/∃s s',r=.wait s/\r'=.wait s'
theorem vS.rfl' (r:aX):vS r r:=.inl rfl
variable {r':aX}
theorem vS.trans {r r'':aX} (h:vS r r') (k:vS r' r''):vS r r'':=by
 rcases h with rfl|⟨h1,h2⟩|⟨s,s',rfl,rfl⟩
 ·exact k
 ·rcases k with rfl|⟨_,k2⟩|⟨s,s',rfl,rfl⟩
  ·exact .inr (.inl ⟨h1,h2⟩)
  ·exact .inr (.inl ⟨h1,k2⟩)
  ·cases h2
 ·rcases k with rfl|⟨k1,_⟩|⟨_,s'',_,rfl⟩
  ·exact .inr (.inr ⟨_,_,rfl,rfl⟩)
  ·cases k1
  ·exact .inr (.inr ⟨_,_,rfl,rfl⟩)
variable {fn:w_} {es:Array Event}
theorem K9 {g:Nat} {pos:String} {op:MemOp} (h:op∈cC g fn pos es):∃e∈es,op={g,fn,pos,act:=.ofEvent e}:=by
 rw [ofEvents_eq] at h
 obtain ⟨e,he,rfl⟩:=Array.mem_map.1 h
 exact ⟨e,he,rfl⟩
variable {C:cS}
theorem uY {e:Event} (h:∀a,e.loc≠.mark (.release a)):∀a,MemAct.ofEvent e≠.mark (.release a):=by
 intro a;replace h:=h a
 obtain ⟨loc,wr,sy⟩:=e
 cases loc with
 |mark m=>intro hh;apply h;cases wr<;>cases sy<;>(injection hh with h1;subst h1;rfl)
 |_=>cases wr<;>cases sy<;>simp [MemAct.ofEvent]
variable {P:U'} {b o:Nat} {ae Fin:O'->J'->Prop} {who who':Option Nat} {rel bZ:Nat->Prop} {q:Nat->Nat} {gs:Array O'} {w w':J'} {t u:Trace} {sl:Option (Nat × Nat)}
theorem pN (h:r'.loose=(ρ i).loose):(fun j=>(upd ρ i r' j).loose=true)=fun j=>(ρ j).loose=true:=by
 funext j
 by_cases e:j=i
 ·subst e;rw [O_,h]
 ·rw [P_ _ _ e]
theorem Lp (T:aC P C b o ae Fin who rel ρ q gs w t) (fn:w_) (pos:String) (h:deafBehind (ρ i).dd es=r'.dd):∀j,Deaf (t++cC i fn pos es) j=(upd ρ i r' j).dd:=by
 intro j
 by_cases e:j=i
 ·subst e;rw [Deaf_own,T.tr.deaf,O_];exact h
 ·rw [P_ _ _ e,Deaf_other t (ru e) _ (fun op hop=>by obtain ⟨e,_,rfl⟩:=K9 hop;rfl)]
  exact T.tr.deaf j
theorem aC.jS (T:aC P C b o ae Fin who rel ρ q gs w t) {H:Prop} (fn:w_) (pos:String) (hl:r'.loose=(ρ i).loose) (hd:deafBehind (ρ i).dd es=r'.dd)
 (hm:∀(k:Nat) e,es[k]?=some e->qP C (fun j=>(ρ j).loose=true) gs.size i H ((t++cC i fn pos es).heard (t.size+k)) {g:=i,fn,pos,act:=.ofEvent e}/\∀x,e.loc≠.mark (.release x))
 (hH:H->who=some i):Tr C (fun j=>(upd ρ i r' j).loose=true) rel gs.size (fun j=>(upd ρ i r' j).dd) (Acc who rel (t++cC i fn pos es)) (t++cC i fn pos es):=by
 rw [pN hl]
 refine T.tr.one T.ok (H:=H) (fun op hop=>by obtain ⟨e,_,rfl⟩:=K9 hop;rfl) (fun k op hk=> ?_) (fun i hi=>Acc.app (fun _ h=>h) hi) (fun h=> ?_) (Lp T fn pos hd) (fun op hop=> ?_)
 ·rw [ofEvents_eq,Array.getElem?_map] at hk
  obtain ⟨e,he,rfl⟩:=Option.map_eq_some_iff.1 hk
  exact (hm k e he).1
 ·have hw:=hH h
  subst hw
  refine ⟨fun j hj=>hj,fun k hk=> ?_⟩
  refine fQ ?_
  rw [ofEvents_eq] at hk ⊢
  have:k<es.size:=by simpa using hk
  rw [g?_of (op:={g:=i,fn,pos,act:=.ofEvent es[k]}) (by rw [at_new];simp [this])]
 ·obtain ⟨e,he,rfl⟩:=K9 hop
  obtain ⟨k,hk⟩:=Array.mem_iff_getElem?.1 he
  exact uY (hm k e hk).2
variable {k:Nat}
theorem mG (T:aC P C b o ae Fin who rel ρ q gs w t) {pos:String} (hk:k<es.size) (hd:0<deafBehind (ρ i).dd (es.extract 0 k)):¬(t++cC i fn pos es).heard (t.size+k):=by
 rintro ⟨g,hg,h0⟩
 have:(t++cC i fn pos es).g? (t.size+k)=some i:=by
  rw [ofEvents_eq]
  rw [g?_of (op:={g:=i,fn,pos,act:=.ofEvent es[k]}) (by rw [at_new];simp [hk])]
 rw [this] at hg
 obtain rfl:=some_inj hg
 rw [deaf_inside _ _ _ _ _ _ (Nat.le_of_lt hk),T.tr.deaf] at h0
 omega
def sU (ρ:Nat->aX):Prop:=∀j,ρ j=.none\/(∃d,ρ j=.quit d)\/(ρ j).isSelf=true
variable {g:O'}
theorem Yz (T:aC P C b o ae Fin who rel ρ q gs w t) (hi:gs[i]?=some g) (hl:(ρ i).loose=true) {e:Event} (h:NY C i e) (H heard:Prop) (fn:w_) (pos:String):qP C (fun j=>(ρ j).loose=true) gs.size i H heard {g:=i,fn,pos,act:=.ofEvent e}:=by
 rcases h.1 with h|⟨x,h1,h2,h3⟩
 ·exact .mute h
 ·exact .own h1 hl (cI hi) h2 h3
theorem ji (T:aC P C b o ae Fin who rel ρ q gs w t) (b9:C.on) (QM:¬C.Dd i) (hi:gs[i]?=some g) (hk:k=o\/k=o+1) (wr:Bool) {heard:Prop} (hh:i=0\/¬heard) (H:Prop) (fn:w_) (pos:String):
 qP C (fun j=>(ρ j).loose=true) gs.size i H heard {g:=i,fn,pos,act:=.ofEvent ⟨.cell ⟨b,k,none⟩,wr,true⟩}:=
 .book (b:=⟨.cell ⟨b,k,none⟩,wr,.atomic⟩) (by cases wr<;>rfl) (cI hi) QM ((T.yk _).2 ⟨b9,hk.imp (fun e=>by rw [e]) (fun e=>by rw [e])⟩) (.inl ⟨rfl,hh⟩)
def fp (P:U') (C:cS) (b o:Nat) (ae Fin:O'->J'->Prop) (who:Option Nat) (rel:Nat->Prop) (ρ:Nat->aX) (q:Nat->Nat) (gs:Array O') (w:J') (sl:Option (Nat × Nat)) (t:Trace) (i:Nat):Prop:=
 ∃gs' w' ops fT q' who' bZ,runT P (crowd gs w sl) i=(.next (crowd gs' w' sl),ops)/\gs'.size=gs.size/\aC P C b o ae Fin who' bZ fT q' gs' w' (t++ops)/\Bz (meas fT q' gs.size) (meas ρ q gs.size)/\Out (bS C) w w'/\
  (∀j,vS (ρ j) (fT j))/\((∃x,(ρ x).isSelf=true)->who'=who)/\(∀x,(ρ x).isSelf=true->gs'[x]?=gs[x]?)/\(∀j,j≠i->ρ j≠.wait .w3->q' j=q j)/\
  (0<q' i\/∀p home,ρ i=.seat p home->∃g bp,gs[i]?=some g/\gP P (i==0) p g bp)/\(sU ρ->bZ=rel/\sU fT)
def bO (ρ:Nat->aX) (gs:Array O') (w:J'):Prop:=
 ∀x y,(ρ x).isSelf=true->gs[x]?=some y->∀w':J',(∀(r:Nat) (ob:Obj),w.heap[r]?=some ob->ob.isChan=true->w'.heap[r]?=some ob)->y.again w'=y
theorem Bu (h:vS (ρ i) r'):∀j,vS (ρ j) (upd ρ i r' j):=fun j=>by
 by_cases e:j=i
 ·subst e;rw [O_];exact h
 ·rw [P_ _ _ e];exact .inl rfl
variable {g':O'} {n':Nat}
theorem aC.moves (T:aC P C b o ae Fin who rel ρ q gs w t) (hA:∀g w,ae g w->g.status=.running) (hS:bO ρ gs w) (hi:gs[i]?=some g) (lu:(ρ i).isSelf=false)
 (hstep:stepG P (i==0) g w=.go g' w' es) (CO:Out (bS C) w w') (po:∀j,j≠i->RB C b o j w w') (kD:∀p h,r'=.seat p h->∃h₀,ρ i=.seat p h₀) (uG:∀p h,r'=.shut p h->∃h₀,ρ i=.shut p h₀) (su:r'.isSelf=false) (oE:who'=who\/(who'=none/\who=some i)) (ZD:ρ i=.done->r'=.done\/who'=none\/who≠some i)
 (aM:fx P C b o ae Fin i r' n' g' w')
 (AV:Tr C (fun j=>(upd ρ i r' j).loose=true) bZ gs.size (fun j=>(upd ρ i r' j).dd) (Acc who' bZ (t++cC i g.frame.fn g.frame.place es)) (t++cC i g.frame.fn g.frame.place es))
 (Uf:((∃d,ρ i=.quit d)/\(∃d,r'=.quit d)/\bZ=rel)\/(C.on/\∀d,ρ i≠.quit d)) (my:C.on->dy b o (upd ρ i r') gs.size w') (jW:r'.count<=(ρ i).count) (YZ:0<n'\/∀p home,ρ i≠.seat p home) (HN:vS (ρ i) r') (ES:i≠0->ρ 0=.wait .w3->cx b o w' 0 1->cx b o w 0 1\/(mayWake P g=true/\g'.status=.running)) (KG:i=0->r'=.wait .w3->cx b o w' 0 1->0<n')
 (Kt:∀q':Nat->Nat,q' i=n'->(∀j,j≠i->ρ j≠.wait .w3->q' j=q j)->Bz (meas (upd ρ i r') q' gs.size) (meas ρ q gs.size)):fp P C b o ae Fin who rel ρ q gs w sl t i:=by
 have hlt:i<gs.size:=(cI hi)
 have uH:∀x,(ρ x).isSelf=true->who'=who:=fun x hx=>by
  rcases oE with h|⟨_,h⟩
  ·exact h
  ·cases hr:ρ x<;>rw [hr] at hx<;>try (cases hx;done)
   have:=T.one x _ _ hr
   rw [h] at this
   obtain rfl:=some_inj this
   rw [hr] at lu;cases lu
 obtain ⟨q',T',h1,h2⟩:=T.step hA (a:=g) (a':=g') hi po (by rw [CO.size];exact C_ _) (fun r ob hr hc _=>CO.gz r ob hr hc) (fun r hr=>by
  obtain ⟨ob,k1,k2⟩:=T.mO i r hr
  exact ⟨ob,CO.gz r ob k1 k2,k2⟩) kD uG (fun j k d hj=>by
  by_cases e:j=i
  ·subst e;rw [O_] at hj;rw [hj] at su;cases su
  ·rw [P_ _ _ e] at hj
   rw [uH j (by rw [hj];rfl)]
   exact T.one j k d hj) (fun x hx=>by
  rcases oE with h|⟨h,_⟩
  ·rw [h] at hx
   by_cases e:x=i
   ·subst e
    rcases T.holder x hx with h1|h1|h1
    ·exact .inl h1
    ·rw [lu] at h1;cases h1
    ·rcases ZD h1 with h2|h2|h2
     ·rw [O_];exact .inr (.inr h2)
     ·rw [h,hx] at h2;cases h2
     ·exact absurd hx h2
   ·rw [P_ _ _ e];exact T.holder x hx
  ·rw [h] at hx;cases hx) aM AV my (fun c=>by
  rcases Uf with ⟨_,⟨d,e⟩,_⟩|⟨h,_⟩
  ·rw [e];trivial
  ·exact absurd h c) (fun hd=>by
  rcases Uf with ⟨_,h,_⟩|⟨_,h⟩
  ·exact h
  ·exact absurd hd (T.fX h)) (by
  have:=kL (ρ:=ρ) r' hlt
  have hf:=T.few
  omega) ES KG
 refine ⟨_,w',_,upd ρ i r',q',who',bZ,runT_crowd_go (sl:=sl) hi hstep,by simp,T',Kt q' h1 h2,CO,Bu HN,fun ⟨x,hx⟩=>uH x hx,fun x hx=> ?_,h2,by rw [h1];exact YZ.imp id fun h p home e=>absurd e (h p home),fun hc=> ?_⟩
 rotate_left
 ·rcases Uf with ⟨_,⟨d,e⟩,h⟩|⟨_,h⟩
  ·refine ⟨h,fun j=> ?_⟩
   by_cases ej:j=i
   ·subst ej;rw [O_];exact .inr (.inl ⟨d,e⟩)
   ·rw [P_ _ _ ej];exact hc j
  ·rcases hc i with h1|⟨d,h1⟩|h1
   ·have:=T.eD i g hi
    rw [h1] at this;exact this.elim
   ·exact absurd h1 (h d)
   ·rw [lu] at h1;cases h1
 have TS:x≠i:=fun e=>by subst e;rw [lu] at hx;cases hx
 rw [I_ (ru TS),Array.getElem?_map]
 cases hy:gs[x]? with
 |none=>rfl
 |some y=>
  have:y.again w'=y:=hS x y hx hy w' fun r ob h1 h2=>CO.gz r ob h1 (by cases ob<;>first|(cases h2;done)|rfl)
  simp only [Option.map_some,woken,this,ite_self]
variable {x:Nat}
theorem aC.Am (T:aC P C b o ae Fin who rel ρ q gs w t) (hA:∀g w,ae g w->g.status=.running) {y:O'} (hy:gs[x]?=some y) (lu:(ρ x).isSelf=false) {c:Nat} {dir:Bool}
 (h:∀p' h',ρ x=.seat p' h'->p'.chan=c->p'.out≠dir):offersAt y c dir=[]:=by
 have hr:=T.eD x y hy
 rcases hr.status hA lu with hs|hs|⟨hs,hq,⟨p,home,e⟩|e⟩
 ·exact offersAt_of_not_blocked (by rw [hs];simp) _ _
 ·exact offersAt_of_not_blocked (by rw [hs];simp) _ _
 ·rw [e] at hr
  rcases hr.2 with ⟨k,hk,_⟩|⟨_,dN,bp,rfl,_⟩
  ·omega
  ·have hh:=h p home e
   cases p with
   |recv c' z ok=>
    cases dir with
    |true=>exact offersAt_parked_recv' ..
    |false=>
     rw [show (Port.recv c' z ok).cases=#[rcase c' z] from rfl,offersAt_parked_recv,if_neg]
     exact fun ec=>hh ec rfl
   |send c' v z=>
    cases dir with
    |false=>exact offersAt_parked_send' ..
    |true=>
     rw [show (Port.send c' v z).cases=#[scase c' v z] from rfl,offersAt_parked_send,if_neg]
     exact fun ec=>hh ec rfl
 ·rw [e] at hr
  rcases hr.2 with ⟨k,hk,_⟩|⟨_,dN,h1,rfl,_⟩
  ·omega
  ·have:=h1.2.1
   simp [offersAt,this]
theorem dh (h:0<i):(i==0)=false:=by simp;omega
theorem dy.dG {n:Nat} (h:dy b o ρ n w) (hi:i<n) (h0:i≠0\/∀s,ρ 0≠.wait s/\r'≠.wait s) (hc:r'.count=(ρ i).count) (hl:r'.isLast=(ρ i).isLast) (hp:r'=ρ i\/r'.isLast=false):dy b o (upd ρ i r') n w:=by
 have e1:cnt (upd ρ i r') n=cnt ρ n:=by
  have:=kL (ρ:=ρ) r' hi
  rw [hc] at this;omega
 have e2:∀j,(upd ρ i r' j).isLast=(ρ j).isLast:=fun j=>by
  by_cases e:j=i
  ·subst e;rw [O_,hl]
  ·rw [P_ _ _ e]
 have e3:∀j,(ρ j).isLast=true->upd ρ i r' j=ρ j:=fun j hj=>by
  by_cases e:j=i
  ·subst e
   rw [O_]
   rcases hp with hp|hp
   ·exact hp
   ·rw [<-hl,hp] at hj;cases hj
  ·rw [P_ _ _ e]
 have e4:(∃s,ρ 0=.wait s)->upd ρ i r' 0=ρ 0:=fun ⟨s,hs⟩=>by
  rcases h0 with h0|h0
  ·rw [P_ _ _ (ru h0)]
  ·exact absurd hs (h0 s).1
 have e5:(∀s,ρ 0≠.wait s)->∀s,upd ρ i r' 0≠.wait s:=fun hs s=>by
  by_cases e:(0:Nat)=i
  ·subst e
   rw [O_]
   rcases h0 with h0|h0
   ·exact absurd rfl h0
   ·exact (h0 s).2
  ·rw [P_ _ _ e];exact hs s
 have wl:∀j,(ρ j).isLast=true->(ρ j=.ky\/ρ j=.kx)\/ρ j=.ku:=fun j hj=>by
  cases hr:ρ j<;>rw [hr] at hj<;>first|(cases hj;done)|simp
 unfold dy at h ⊢
 by_cases hw:∃s,ρ 0=.wait s
 ·rw [e4 hw]
  split<;>rename_i e<;>simp only [e,e1,e2] at h ⊢
  ·rcases h with h|⟨h1,j,h2,h3⟩
   ·exact .inl h
   ·have:(ρ j).isLast=true:=by rcases h3 with ⟨h3|h3,_⟩|⟨h3,_⟩<;>rw [h3]<;>rfl
    exact .inr ⟨h1,j,h2,by rw [e3 j this];exact h3⟩
  ·exact h
  ·exact h
  ·exact h
  ·exact h
 ·have cf:∀s,ρ 0≠.wait s:=fun s hs=>hw ⟨s,hs⟩
  have wh:=e5 cf
  cases hr:ρ 0 with
  |wait s=>exact absurd hr (cf s)
  |_=>
   all_goals
    rw [hr] at h
    simp only at h
    cases sX:upd ρ i r' 0 with
    |wait s=>exact absurd sX (wh s)
    |_=>simp only [e1,e2];exact h
theorem aC.IM (T:aC P C b o ae Fin who rel ρ q gs w t) (hA:∀g w,ae g w->g.status=.running) (hS:bO ρ gs w) {r:aX} (hi:gs[i]?=some g) (hr:ρ i=r) (iq:0<i)
 (hk:0<r.fW) (lu:r.isSelf=false) (kD:∀p h,r≠.seat p h/\r≠.shut p h) (ZD:r≠.done) (kE:¬r.FP) (hn:n'<q i) (hgo:stepG P false g w=.go g' w #[]) (aM:fx P C b o ae Fin i r n' g' w):fp P C b o ae Fin who rel ρ q gs w sl t i:=by
 have hlt:i<gs.size:=(cI hi)
 refine T.moves hA hS (w':=w) (es:=#[]) (r':=r) (n':=n') (who':=who) (bZ:=rel) hi (by rw [hr];exact lu) (by rw [dh iq];exact hgo) (Out.refl _ _) (fun j _=>RB.refl j w) (fun p h e=>absurd e (kD p h).1) (fun p h e=>absurd e (kD p h).2) lu (.inl rfl) (by rw [hr];exact fun e=>absurd e ZD) aM ?_ ?_ ?_ (by rw [hr];exact C_ _) (.inr (by rw [hr];exact fun p h=>(kD p h).1)) (by rw [hr];exact .inl rfl) (fun _ _ h=>.inl h) (fun e=>by omega) (fun q' h1 h2=>AH hlt (by rw [hr]) hk (by omega) h2)
 ·exact T.jS (H:=False) _ _ (by rw [hr]) (by rw [hr];rfl) (fun k e he=>by simp at he) (fun h=>h.elim)
 ·exact .inr ⟨T.jw (i:=i) (by rw [hr];exact kE),fun d e=>by rw [<-hr,e] at kE;exact kE trivial⟩
 ·exact fun c=>(T.wg c).dG hlt (.inl (by omega)) (by rw [hr]) (by rw [hr]) (.inl hr.symm)
theorem aC.Mp (T:aC P C b o ae Fin who rel ρ q gs w t) (hA:∀g w,ae g w->g.status=.running) (hS:bO ρ gs w) (hi:gs[i]?=some g) (hl:(ρ i).loose=true)
 (hn:n'<q i) (hgo:stepG P (i==0) g w=.go g' w' es) (hd:DR C i w w' es) (aM:fx P C b o ae Fin i (ρ i) n' g' w') (YZ:0<n'\/∀p home,ρ i≠.seat p home):fp P C b o ae Fin who rel ρ q gs w sl t i:=by
 have hlt:i<gs.size:=(cI hi)
 obtain ⟨po,my⟩:=T.P6 hd.1
 have lu:(ρ i).isSelf=false:=by cases h:ρ i<;>rw [h] at hl<;>first|(cases hl;done)|rfl
 have hk:0<(ρ i).fW:=by cases h:ρ i<;>rw [h] at hl<;>first|(cases hl;done)|simp [aX.fW]
 have h0:(ρ i).dd=0:=by cases h:ρ i<;>rw [h] at hl<;>first|(cases hl;done)|rfl
 have b9:C.on:=T.jw (i:=i) (by cases h:ρ i<;>rw [h] at hl<;>first|(cases hl;done)|exact id)
 have ot:cx b o w' 0 1->cx b o w 0 1:=fun h=>by
  obtain ⟨s,m,h₀⟩:=(T.wg b9).live
  have h₁:=my b9 _ _ h₀
  have e1:=h₁.st.symm.trans h.st
  have e2:=h₁.sm.symm.trans h.sm
  simp only [Option.some.injEq,Value.int.injEq,true_and] at e1 e2
  rw [<-e1,<-e2];exact h₀
 have hu:upd ρ i (ρ i)=ρ:=by
  funext j
  by_cases e:j=i
  ·subst e;rw [O_]
  ·rw [P_ _ _ e]
 refine T.moves hA hS (r':=ρ i) (n':=n') (who':=who) (bZ:=rel) hi lu hgo (hd.1.mono fun x k h=>.inr (.inr ⟨i,h⟩)) po (fun p h e=>⟨h,e⟩) (fun p h e=>⟨h,e⟩) lu (.inl rfl) (fun e=>.inl e) aM ?_ (.inr ⟨b9,fun d e=>by rw [e] at hl;cases hl⟩) ?_ (C_ _) YZ (.inl rfl) (fun _ _ h=>.inl (ot h)) (fun e e'=>by rw [e'] at hl;cases hl) (fun q' h1 h2=>AH hlt rfl hk (by omega) h2)
 ·refine T.jS (H:=False) _ _ rfl ?_ (fun k e he=>⟨Yz T hi hl (hd.2 e (l_ he)) _ _ _ _,(hd.2 e (l_ he)).2.2.2⟩) (fun h=>h.elim)
  exact deafBehind_still (fun e he=>⟨(hd.2 e he).2.1,(hd.2 e he).2.2.1⟩) _
 ·rw [hu]
  exact fun c=>(T.wg c).keep (my c)
theorem aC.Yt (T:aC P C b o ae Fin who rel ρ q gs w t) (hA:∀g w,ae g w->g.status=.running) {bp:O'} {p:Port} {home:O'->J'->Prop} (hi:gs[i]?=some g) (hr:ρ i=.seat p home) (hq:0<q i)
 (fH:gP P (i==0) p g bp) (hh:home bp w) (yH:∀(x:Nat) (y:O'),(ρ x).isSelf=true->gs[x]?=some y->offersAt y p.chan (!p.out)=[]):fp P C b o ae Fin who rel ρ q gs w sl t i:=by
 have hlt:i<gs.size:=(cI hi)
 have aM:=T.eD i g hi
 rw [hr] at aM
 obtain ⟨k,hc⟩:=T.chans i p home hr
 have hno:∀(x:Nat) (y:O'),(gs.setIfInBounds i ph)[x]?=some y->offersAt y p.chan (!p.out)=[]:=by
  intro x y hy
  rcases getElem?_stand gs i x y hy with ⟨_,rfl⟩|⟨hx,pg⟩
  ·exact offersAt_ph _ _
  ·cases hs:(ρ x).isSelf with
   |true=>exact yH x y hs pg
   |false=>exact T.Am hA pg hs fun p' h' e ec=>by rw [T.apart x i p' p h' home e hr ec];cases p.out<;>simp
 have hw:∀cc∈p.cases,NoWays w (gs.setIfInBounds i ph) cc:=by
  intro cc hcc
  cases p with
  |recv c z ok=>
   have:cc=rcase c z:=by simpa [Port.cases] using hcc
   subst this
   exact ways_recv_none hc (partners_nil hno)
  |send c v z=>
   have:cc=scase c v z:=by simpa [Port.cases] using hcc
   subst this
   exact ways_send_none hc (by simp) (partners_nil hno)
 have vC:gs.map (woken P g (parked bp p.cases p.shape) w)=gs:=by
  have:woken P g (parked bp p.cases p.shape) w=id:=by funext y;simp [woken,parked]
  rw [this,Array.map_id]
 have hu:upd ρ i (.seat p home)=ρ:=by
  funext j
  by_cases e:j=i
  ·subst e;rw [O_,hr]
  ·rw [P_ _ _ e]
 obtain ⟨q',T',h1,h2⟩:=T.step hA (a:=g) (a':=parked bp p.cases p.shape) (g':=parked bp p.cases p.shape) (r':=.seat p home) (n':=0) (who':=who) (bZ:=rel) (u:=cC i g.frame.fn g.frame.place #[]) hi (fun j _=>RB.refl j w) (C_ _) (fun r ob h _ _=>h) (T.mO i)
  (fun p' h' e=>⟨home,by injection e with e1 e2;rw [<-e1];exact hr⟩) (fun p' h' e=>by cases e) (fun j k d hj=>by rw [hu] at hj;exact T.one j k d hj) (by rw [hu];exact T.holder) ⟨aM.1,.inr ⟨rfl,g,bp,rfl,fH,hh⟩⟩ (T.jS (H:=False) _ _ (by rw [hr]) (by rw [hr];rfl) (fun k e he=>by simp at he) (fun h=>h.elim)) (by rw [hu];exact T.wg) (fun c=>absurd (T.jw (i:=i) (by rw [hr];exact id)) c) (fun hd=>absurd hd (T.fX (by rw [hr];simp))) (by rw [hu];exact T.few) (fun _ _ h=>.inl h) (fun _ e=>by cases e)
 rw [vC] at T'
 refine ⟨_,w,_,upd ρ i (.seat p home),q',who,rel,crowd_waits (sl:=sl) hi (fH.2.2.2.2 w) hw,by simp,T',AH hlt (by rw [hr]) (by simp [aX.fW]) (by omega) h2,Out.refl _ _,by rw [hu];exact fun j=>.inl rfl,fun _=>rfl,fun x hx=> ?_,h2,.inr fun p' h' e=>⟨g,bp,hi,by rw [hr] at e;injection e with e1;subst e1;exact fH⟩,fun hc=>by
  rcases hc i with h|⟨d,h⟩|h<;>rw [hr] at h<;>cases h⟩
 have TS:x≠i:=fun e=>by subst e;rw [hr] at hx;cases hx
 rw [I_ (ru TS)]
theorem aC.RV (T:aC P C b o ae Fin who rel ρ q gs w t) (hA:∀g w,ae g w->g.status=.running) (hS:bO ρ gs w) {p:Port} {home:O'->J'->Prop} (hi:gs[i]?=some g) (hr:ρ i=.seat p home) (hrun:g.status=.running)
 (yH:∀(x:Nat) (y:O'),(ρ x).isSelf=true->gs[x]?=some y->offersAt y p.chan (!p.out)=[]):fp P C b o ae Fin who rel ρ q gs w sl t i:=by
 have aM:=T.eD i g hi
 rw [hr] at aM
 rcases aM.2 with ⟨k,hk,hg⟩|⟨_,dN,bp,rfl,_⟩
 ·rcases hg.cases with dR|⟨k',rfl,hst⟩
  ·obtain ⟨bp,fH,hh⟩:=dR w (RB.refl i w)
   exact T.Yt hA hi hr (by omega) fH hh yH
  ·obtain ⟨g',w',es,hgo,hd,iJ⟩:=hst w (RB.refl i w)
   exact T.Mp hA hS (n':=k'+1) hi (by rw [hr];rfl) (by omega) hgo hd (by rw [hr];exact ⟨aM.1,.inl ⟨k',rfl,iJ⟩⟩) (.inl (Nat.succ_pos _))
 ·cases hrun
end
end Go.aC
