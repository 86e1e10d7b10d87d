/-
  A step of a frame whose code holds only such operations is the same from a lesser world and beside w
-/
import Derived.Conc.Own
import Derived.Conc.Beside
import Derived.Below
import Derived.Test.YtnjkbffmmgckeaaGreatDoorPaa
import Derived.Test.YtnjkbffmmgckeaaGreatDoorPab
set_option linter.all false
set_option maxRecDepth 100000
set_option maxHeartbeats 32000000
open Go renaming World->J',Value->M',Goroutine->O',TypeId->Q',Program->U',execOp->V',Frame->Y',FuncId->w_,Item->x_
open Nat renaming lt_of_lt_of_le->E_
open Array renaming getElem?_eq_getElem->H_
open List renaming mem_cons->R_
open Classical renaming byContradiction->j_
namespace Go.aC
section
open Go Go.Conc
def je (P:U') (ok:w_->Bool):Code->Bool
 | .skip| .ret| .label _| .exit _=>true
 | .region _ ops _=>ops.all (fN P ok)
 | .seq a b=>je P ok a&&je P ok b
 | .cond _ a b=>je P ok a&&je P ok b
 | .block _ b| .loop b=>je P ok b
 |_=>false
def mf (P:U') (ok:w_->Bool):x_->Bool
 | .code c=>je P ok c
 | .inBlock _=>true
 | .inLoop b=>je P ok b
 | .inRegion ops _=>ops.all (fN P ok)
 |_=>false
def gM (P:U') (ok:w_->Bool):Prop:=∀f fn,ok f=true->P.funcs[f]?=some fn->∀c,fn.body=some c->je P ok c=true
structure OkFr (P:U') (ok:w_->Bool) (fr:Y'):Prop where
 mode:fr.mode=.run\/fr.mode=.returning
 defers:fr.defers=[]
 kind:fr.kind=.normal
 round:fr.roundOf=none
 todo:∀it∈fr.todo,mf P ok it=true
 fn:∃fn,P.funcs[fr.fn]?=some fn
variable {P:U'}
theorem OkFr.bare {ok:w_->Bool} {fr:Y'} (h:OkFr P ok fr):fr.defers=[]/\(fr.mode=.run\/fr.mode=.returning)/\∃fn,P.funcs[fr.fn]?=some fn:=⟨h.defers,h.mode,h.fn⟩
structure Bw (P:U') (ok:w_->Bool) (fr:Y'):Prop extends OkFr P ok fr where
 some:fr.todo≠[]
def ext (t:List x_) (fr:Y'):Y':={fr with todo:=fr.todo++t}
theorem ext_nil (fr:Y'):ext [] fr=fr:=by cases fr;simp [ext]
@[simp] theorem RN (t:List x_) (fr:Y'):(ext t fr).fn=fr.fn:=rfl
@[simp] theorem VE (t:List x_) (fr:Y'):(ext t fr).tmps=fr.tmps:=rfl
@[simp] theorem KZ (t:List x_) (fr:Y'):(ext t fr).mode=fr.mode:=rfl
@[simp] theorem VF (t:List x_) (fr:Y'):(ext t fr).kind=fr.kind:=rfl
@[simp] theorem E4 (t:List x_) (fr:Y'):(ext t fr).defers=fr.defers:=rfl
@[simp] theorem SN (t:List x_) (fr:Y'):(ext t fr).roundOf=fr.roundOf:=rfl
@[simp] theorem VD (t:List x_) (fr:Y'):(ext t fr).todo=fr.todo++t:=rfl
def tl (K:List x_):List Y'->List x_
 |[]=>K
 |_::_=>[]
def df (K:List x_):List Y'->List Y'
 |[]=>[]
 |f::X=>ext (tl K X) f::df K X
theorem D1 (X:List Y'):tl [] X=[]:=by cases X<;>rfl
theorem xO:∀X:List Y',df [] X=X
 |[]=>rfl
 |f::X=>by simp [df,D1,ext_nil,xO X]
def fR:List x_:=[.code (.refuse "")]
theorem rz {t:List x_} {id:Nat}:∀{k k':List x_},exitTo id k=some k'->exitTo id (k++t)=some (k'++t)
 |[],k',h=>by simp [exitTo] at h
 |x::k,k',h=>by
  cases x<;>simp only [exitTo,List.cons_append] at h ⊢<;>first
   |exact rz h
   |(split at h
     ·rename_i hc;cases h;simp [hc]
     ·rename_i hc;simp only [hc,if_false];exact rz h)
theorem pz {t:List x_} {id:Nat} (ht:exitTo id t=none):∀{k:List x_},exitTo id k=none->exitTo id (k++t)=none
 |[],h=>ht
 |x::k,h=>by
  cases x<;>simp only [exitTo,List.cons_append] at h ⊢<;>first
   |exact pz ht h
   |(split at h
     ·cases h
     ·rename_i hc;simp only [hc,if_false];exact pz ht h)
theorem nV {t:List x_} {fr:Y'} (h:fr.todo≠[]) (v:M'):(ext t fr).finish v=ext t (fr.finish v):=by
 obtain ⟨fn,tmps,todo,defers,mode,kind,roundOf⟩:=fr
 cases todo with
 |nil=>exact absurd rfl h
 |cons it k=>
  cases it<;>first
   |rfl
   |(rename_i ops td;cases td<;>rfl)
def Sync (wl w:J') (top:Nat):Prop:=∀i,wl.drawn+i<top->w.tape (w.drawn+i)=wl.tape (wl.drawn+i)
structure Mv (wl w aK w':J') (es:Array Event):Prop where
 weak:bI aK w'
 mono:wl.drawn<=aK.drawn
 drawn:w'.drawn+wl.drawn=w.drawn+aK.drawn
 upd:oA wl w w'
 gR:oA wl wl aK
 evs:∀e∈es,vR wl aK.heap.size e
 heap:wl.heap=w.heap->aK.heap=w'.heap
variable {wl w:J'}
theorem Mv.still (h:bI wl w):Mv wl w wl w #[]:=⟨h,Nat.le_refl _,rfl,oA.refl _ _,oA.refl _ _,by simp,fun h=>h⟩
def x8 (P:U') (KS:List x_->Prop) (fr:Y') (X:List Y') (wl:J') (kF:Y') (X':List Y') (aK:J') (es:Array Event):Prop:=
 ∀(K:List x_) (main:Bool) (cs:List Y') (w:J'),KS K->bI wl w->Sync wl w aK.drawn->∃w',stepG P main (G (ext (tl K X) fr) (df K X++cs)) w=.go (G (ext (tl K X') kF) (df K X'++cs)) w' es/\Mv wl w aK w' es
theorem xN {e:Event} (g:Bool × Array Event->Event->Bool × Array Event) (hg:∀a x,(g a x).2=a.2\/(g a x).2=a.2.push x):∀(l:List Event) (a:Bool × Array Event),e∈(l.foldl g a).2->e∈a.2\/e∈l
 |[],a,h=>.inl h
 |x::l,a,h=>by
  rw [List.foldl_cons] at h
  rcases xN g hg l (g a x) h with h1|h1
  ·rcases hg a x with hp|hp
   ·exact .inl (hp▸h1)
   ·rw [hp,Array.mem_push] at h1
    rcases h1 with h1|rfl
    ·exact .inl h1
    ·exact .inr (by simp)
  ·exact .inr (by simp [h1])
variable {fn:w_} {es:Array Event}
theorem Ja {e:Event} (h:e∈seen P fn es):e∈es:=by
 unfold seen at h
 simp only [] at h
 rw [<-Array.foldl_toList] at h
 rcases xN _ (by
  rintro ⟨q,kept⟩ x
  simp only []
  split
  ·exact .inl rfl
  ·simp only []
   split
   ·exact .inl rfl
   ·exact .inr rfl) _ _ h with h|h
 ·simp at h
 ·simpa using h
def Plain (P:U') (ok:w_->Bool):Next->Prop
 | .value _| .skip=>True
 | .enter f _=>ok f=true/\rU P f=true
 |_=>False
def Yields {α:Type} (P:U') (s:Sem α) (Q:α->Prop):Prop:=∀w a w',s.run P w=.ok a w'->Q a
variable {α β:Type}
theorem bm {s:Sem α} {f:α->β} {Q:β->Prop} (h:∀a,Q (f a)):Yields P (s>>=fun a=>Pure.pure (f a)) Q:=by
 intro w b w' hb
 change (s.bind _).run P w=_ at hb
 rw [Sem.run_bind'] at hb
 cases hs:s.run P w with
 |ok a w1=>
  rw [hs] at hb
  have:(Result.ok (f a) w1:Result β)=.ok b w':=hb
  cases this;exact h a
 |halt hh w1=>rw [hs] at hb;cases hb
variable {a:α} {Q:α->Prop}
theorem oM (h:Q a):Yields P (Sem.pure a) Q:=fun _ _ _ hb=>by cases hb;exact h
theorem rJ (h:Q a):Yields P (Pure.pure a) Q:=oM h
theorem lL {s:Sem α} {f:α->Sem β} {Q:β->Prop} (h:∀a,Yields P (f a) Q):Yields P (s>>=f) Q:=by
 intro w b w' hb
 change (s.bind _).run P w=_ at hb
 rw [Sem.run_bind'] at hb
 cases hs:s.run P w with
 |ok a w1=>rw [hs] at hb;exact h a w1 b w' hb
 |halt hh w1=>rw [hs] at hb;cases hb
theorem uv {hh:Halt}:Yields P (Sem.halt hh) Q:=fun _ _ _ hb=>by cases hb
theorem zO (e:RuntimeError) (Q:α->Prop):Yields P (runtimePanic e) Q:=by
 unfold runtimePanic
 refine lL fun p=> ?_
 cases e<;>first
  |exact uv
  |exact lL fun _=>lL fun _=>uv
theorem Aa {f:w_} (h:rU P f=true) (args:Array M') (w:J'):(callFunc f args).run P w=.ok (.enter f args) w:=by
 unfold rU at h
 split at h
 ·rename_i fn xF
  simp only [Bool.and_eq_true,bne_iff_ne,ne_eq] at h
  obtain ⟨hb,hn⟩:=h
  show ((Sem.program Sem.pure).bind _).run P w=_
  simp only [Sem.bind,Sem.run,xF]
  have h1:(fn.name== "runtime.NumGoroutine")=false:=by simpa using hn
  have h2:fn.body.isNone=false:=by cases hx:fn.body<;>simp [hx] at hb ⊢
  simp only [h1,h2,Bool.false_eq_true,if_false]
  rfl
 ·cases h
theorem yh {ok:w_->Bool} {o:Oper} (h:fN P ok o=true) (a:Act):Yields P (V' a.eval o) (Plain P ok):=by
 obtain ⟨dst,op,type,pos,after,guard⟩:=o
 cases op with
 |move x=>exact oM trivial
 |assign x=>exact oM trivial
 |pick c x y=>exact bm (fun _=>trivial)
 |alloc e=>exact bm (fun _=>trivial)
 |box e x=>exact bm (fun _=>trivial)
 |build t ps=>exact bm (fun _=>trivial)
 |buildSlice t n ps=>exact bm (fun _=>trivial)
 |load t x=>exact bm (fun _=>trivial)
 |unOp op t x=>exact bm (fun _=>trivial)
 |makeFunc f x y=>exact bm (fun _=>trivial)
 |makeMap t r=>exact bm (fun _=>trivial)
 |makeChan t s=>exact bm (fun _=>trivial)
 |makeSlice t l c=>exact bm (fun _=>trivial)
 |slice t x l hh m=>exact bm (fun _=>trivial)
 |fieldAddr t x f=>exact bm (fun _=>trivial)
 |field t x f=>exact bm (fun _=>trivial)
 |indexAddr t x i=>exact bm (fun _=>trivial)
 |index t x i=>exact bm (fun _=>trivial)
 |range t x=>exact bm (fun _=>trivial)
 |extract x i=>exact bm (fun _=>trivial)
 |makeInterface t x=>exact bm (fun _=>trivial)
 |lookup t x i b=>exact bm (fun _=>trivial)
 |binOp op t x y u=>exact bm (fun _=>trivial)
 |convert x y z=>exact bm (fun _=>trivial)
 |store t x y=>exact bm (fun _=>trivial)
 |mapUpdate t m k v=>exact bm (fun _=>trivial)
 |insert t m k v=>exact bm (fun _=>trivial)
 |ready g=>exact absurd h (by simp [fN])
 |waits g=>exact absurd h (by simp [fN])
 |sliceToArrayPointer d x=>exact absurd h (by simp [fN])
 |mapEntry t m k=>exact absurd h (by simp [fN])
 |entryStore t m s v=>exact absurd h (by simp [fN])
 |next i b=>exact absurd h (by simp [fN])
 |entry i=>exact absurd h (by simp [fN])
 |typeAssert x t u b=>exact absurd h (by simp [fN])
 |go c=>exact absurd h (by simp [fN])
 |defer c=>exact absurd h (by simp [fN])
 |panic x=>exact bm (fun _=>trivial)
 |send c x=>exact absurd h (by simp [fN])
 |recv t c b=>exact absurd h (by simp [fN])
 |select cs b=>exact absurd h (by simp [fN])
 |nilCheck x=>
  show Yields P ((match a.eval x with
   | .pointer none| .nilIface| .nilFunc=>runtimePanic .nilDeref
   | .func (.method name) first captured=>
     match (first[0]?:Option M') with
     |some .nilIface=>runtimePanic .nilDeref
     |some (.iface t w)=>do
      if (<-nilAhead ((<-program).types.size+Made.depth) t w name) !=some false then
       unsupported (.noEntry "op/nilCheck.the method's receiver behind this interface value is a nil pointer, or cannot be seen to be none, and the arguments act or may panic (ledger 612)")
      pure (.value (.func (.method name) first captured))
     |_=>pure (.value (.func (.method name) first captured))
   |x=>pure (.value x)):Sem Next) _
  repeat' first
   |with_reducible exact zO _ _
   |with_reducible exact rJ trivial
   |with_reducible refine lL fun _=> ?_
   |split
  all_goals exact rJ trivial
 |call c=>
  obtain ⟨callee,args,argTypes⟩:=c
  cases callee with
  |value f=>
   cases f with
   |func f=>
    have hf:(ok f&&rU P f)=true:=h
    obtain ⟨h1,h2⟩:=Bool.and_eq_true_iff.1 hf
    intro w n w' hn
    have e:(V' a.eval {dst:=dst,op:=Op.call {callee:=Callee.value (Operand.func f),args:=args,argTypes:=argTypes},type:=type,pos:=pos,after:=after,guard:=guard}).run P w=(callFunc f ((#[]++args.map a.eval)++#[])).run P w:=rfl
    rw [e,Aa h2] at hn
    cases hn
    exact ⟨h1,h2⟩
   |_=>cases h
  |invoke r n=>cases h
  |builtin b=>
   cases b with
   |append=>exact bm (s:=Builtin.append_ argTypes type (args.map a.eval)) (fun _=>trivial)
   |len=>exact bm (s:=Builtin.len_ argTypes type (args.map a.eval)) (fun _=>trivial)
   |cap=>exact bm (s:=Builtin.cap_ argTypes type (args.map a.eval)) (fun _=>trivial)
   |copy=>exact bm (s:=Builtin.copy_ argTypes type (args.map a.eval)) (fun _=>trivial)
   |min=>exact bm (s:=Builtin.min_ argTypes type (args.map a.eval)) (fun _=>trivial)
   |clear=>exact bm (s:=Builtin.clear_ argTypes type (args.map a.eval)) (fun _=>trivial)
   |max=>exact bm (s:=Builtin.max_ argTypes type (args.map a.eval)) (fun _=>trivial)
   |delete=>exact bm (s:=Builtin.delete_ argTypes type (args.map a.eval)) (fun _=>trivial)
   |_=>cases h
theorem wU {ok:w_->Bool} (hp:gM P ok) {f:w_} (h1:ok f=true) (h2:rU P f=true) (args:Array M'):OkFr P ok (Frame.enter P f args .normal):=by
 unfold rU at h2
 split at h2
 ·rename_i fn xF
  simp only [Bool.and_eq_true] at h2
  refine ⟨.inl rfl,rfl,rfl,rfl, ?_,⟨fn,xF⟩⟩
  intro it HF
  simp only [Frame.enter,xF,Option.bind_some,List.mem_singleton] at HF
  subst HF
  cases hb:fn.body with
  |none=>simp [hb] at h2
  |some c=>exact hp f fn h1 xF c hb
 ·cases h2
theorem Hn {ok:w_->Bool} {ops:Array Oper} {td:List Nat} (h:mf P ok (.inRegion ops td)=true) {i:Nat} {o:Oper} (ho:ops[i]?=some o):fN P ok o=true:=by
 have h':ops.all (fN P ok)=true:=h
 rw [Array.all_eq_true] at h'
 obtain ⟨hl,he⟩:=Array.getElem?_eq_some_iff.1 ho
 rw [<-he];exact h' i hl
theorem sL (fr:Y'):fr.eval=(⟨fr.tmps,fr.defers⟩:Act).eval:=funext fun x=>by cases x<;>rfl
theorem OkFr.S5 {ok:w_->Bool} {fr:Y'} (h:OkFr P ok fr) {k:List x_} (hk:∀it∈k,mf P ok it=true):OkFr P ok {fr with todo:=k}:=⟨h.mode,h.defers,h.kind,h.round,hk,h.fn⟩
theorem ry {P:U'} {ok:w_->Bool} {id:Nat}:∀{k k':List x_},exitTo id k=some k'->(∀it∈k,mf P ok it=true)->∀it∈k',mf P ok it=true
 |[],k',h,_=>by simp [exitTo] at h
 |x::k,k',h,hk=>by
  have yL:∀it∈k,mf P ok it=true:=fun it HF=>hk it (by simp [HF])
  cases x<;>simp only [exitTo] at h<;>first
   |exact ry h yL
   |(split at h
     ·cases h;exact yL
     ·exact ry h yL)
theorem OkFr.finish {ok:w_->Bool} {fr:Y'} (h:OkFr P ok fr) (v:M'):OkFr P ok (fr.finish v):=by
 obtain ⟨h1,h2,h3,h4,h5,h6⟩:=h
 unfold Frame.finish
 split
 ·rename_i ops i rest k hk
  refine ⟨h1,h2,h3,h4, ?_,h6⟩
  intro it HF
  rcases List.mem_cons.1 HF with rfl|HF
  ·exact h5 (.inRegion ops (i::rest)) (by rw [hk];simp)
  ·exact h5 it (by rw [hk];simp [HF])
 ·rename_i l k hk
  have:=h5 (.inRangeFunc l) (by rw [hk];simp)
  cases this
 ·rename_i k hk
  have:=h5 .beginRound (by rw [hk];simp)
  cases this
 ·rename_i d w r s k hk
  have:=h5 (.call d w r s) (by rw [hk];simp)
  cases this
 ·rename_i r a k hk
  have:=h5 _ (hk▸List.mem_cons_self)
  cases this
 ·exact ⟨h1,h2,h3,h4,h5,h6⟩
section
variable {ok:w_->Bool} {KS:List x_->Prop} {K₀:List x_}
inductive Dv (P:U') (ok:w_->Bool) (KS:List x_->Prop) (K₀:List x_) (fr:Y') (X base:List Y') (wl:J'):GStep->Prop
 |nice (kF:Y') (X':List Y') (aK:J') (es:Array Event):OkFr P ok kF->(∀x∈X',Bw P ok x)->x8 P KS fr X wl kF X' aK es->Dv P ok KS K₀ fr X base wl (.go (G (ext (tl K₀ X') kF) (df K₀ X'++base)) aK es)
 |raised (chain:List PanicEntry) (aK:J') (es:Array Event):Dv P ok KS K₀ fr X base wl (.go (G {ext (tl K₀ X) fr with mode:=.panicking chain} (df K₀ X++base)) aK es)
 |ended (o:Outcome) (w:J') (es:Array Event):Dv P ok KS K₀ fr X base wl (.ended o w es)
variable {X:List Y'}
theorem lz {fr:Y'} {base:List Y'} {s:GStep} (h:∃o w es,s=.ended o w es):Dv P ok KS K₀ fr X base wl s:=by
 obtain ⟨o,w,es,rfl⟩:=h
 exact .ended o w es
variable {kF:Y'}
theorem Cl {fr:Y'} (h:∀K main cs w,KS K->stepG P main (G (ext (tl K X) fr) (df K X++cs)) w=.go (G (ext (tl K X) kF) (df K X++cs)) w #[]):x8 P KS fr X wl kF X wl #[]:=
 fun K main cs w hK hw _=>⟨w,h K main cs w hK,Mv.still hw⟩
theorem cN (hK:KS K₀) {fr:Y'} {base:List Y'} (hX:∀x∈X,Bw P ok x) (hf:OkFr P ok kF) (h:∀K main cs w,KS K->stepG P main (G (ext (tl K X) fr) (df K X++cs)) w=.go (G (ext (tl K X) kF) (df K X++cs)) w #[]):
 Dv P ok KS K₀ fr X base wl (stepG P true (G (ext (tl K₀ X) fr) (df K₀ X++base)) wl):=by
 rw [h K₀ true base wl hK]
 exact .nice kF X wl #[] hf hX (Cl h)
end
theorem oS {s:Sem α} (hs:ag P s) (hw:bI wl w) {r:Result α} (hr:s.runT P wl #[]=(r,es)) (hf:rE r) (ff:Sync wl w r.wd.drawn):
 ∃w',s.runT P w #[]=(r.D6 w',es)/\Mv wl w r.wd w' es:=by
 obtain ⟨w',h⟩:=(hs wl w #[] trivial hw).2 (by rw [hr];exact hf) (by rw [hr];exact ff)
 have h1:=h.run;have h2:=h.weak;have h3:=h.mono;have h4:=h.drawn;have h5:=h.upd;have h6:=h.gR;have h7:=h.evs;have h8:=h.heap
 rw [hr] at h1 h2 h3 h4 h6 h7 h8
 refine ⟨w',h1,h2,h3,h4,h5,h6,fun e he=> ?_,h8⟩
 obtain ⟨l,hl,hq⟩:=h7
 simp only at hl
 rw [hl] at he
 simp at he
 exact hq e he
theorem Ck {s:Sem α} (hs:Ds P s) (hw:bI wl wl) {r:Result α} (hr:s.runT P wl #[]=(r,es)):LM r:=by
 have:=(hs wl wl #[] hw hw).1
 rw [hr] at this;exact this
theorem pO {s:Sem α} (hs:Ds P s) (hw:bI wl w) {w₁:J'} (hr:s.runT P wl #[]=(.ok a w₁,es)) (ff:Sync wl w w₁.drawn):
 ∃w',s.runT P w #[]=(.ok a w',es)/\Mv wl w w₁ w' es:=by
 obtain ⟨w',h⟩:=(hs wl w #[] hw.self hw).2 a w₁ (by rw [hr]) (by rw [hr];exact ff)
 have h1:=h.run;have h2:=h.weak;have h3:=h.mono;have h4:=h.drawn;have h5:=h.upd;have h6:=h.gR;have h7:=h.evs;have h8:=h.heap
 rw [hr] at h1 h2 h3 h4 h6 h7 h8
 refine ⟨w',h1,h2,h3,h4,h5,h6,fun e he=> ?_,h8⟩
 obtain ⟨l,hl,hq⟩:=h7
 simp only at hl
 rw [hl] at he
 simp at he
 exact hq e he
variable {aK w':J'}
theorem Mv.seen (h:Mv wl w aK w' es):Mv wl w aK w' (seen P fn es):=⟨h.weak,h.mono,h.drawn,h.upd,h.gR,fun e he=>h.evs e (Ja he),h.heap⟩
variable {K₀:List x_} {X:List Y'}
theorem Lw {ok:w_->Bool} {KS:List x_->Prop} (hp:gM P ok) (hK:KS K₀) (OY:∀id,exitTo id K₀=none) {fr:Y'} {base:List Y'} (AQ:bI wl wl) (hf:OkFr P ok fr) (hX:∀x∈X,Bw P ok x) (hm:fr.mode=.run)
 (hE:X=[]->fr.todo=[]->∀K,KS K->K=[]):
 Dv P ok KS K₀ fr X base wl (stepG P true (G (ext (tl K₀ X) fr) (df K₀ X++base)) wl):=by
 have hX0:∀id,exitTo id (tl K₀ X)=none:=fun id=>by cases X with
  |nil=>exact OY id
  |cons x X=>rfl
 have hT:=hf.todo
 have ZA:=hf
 obtain ⟨fn,tmps,todo,defers,mode,kind,roundOf⟩:=fr
 obtain ⟨-, h2,h3,h4, -, h6⟩:=ZA
 simp only at h2 h3 h4 hm hT hE
 subst h2 h3 h4 hm
 have Iq:∀k:List x_,(∀it∈k,mf P ok it=true)->OkFr P ok {fn:=fn,tmps:=tmps,todo:=k,defers:=[],mode:=.run,kind:=.normal,roundOf:=none}:=fun k hk=>hf.S5 hk
 have Ot:OkFr P ok {fn:=fn,tmps:=tmps,todo:=todo,defers:=[],mode:=.returning,kind:=.normal,roundOf:=none}:=⟨.inr rfl,rfl,rfl,rfl,hT,h6⟩
 cases todo with
 |nil=>
  have ht:∀K,KS K->tl K X=[]:=fun K Vy=>by cases X with
   |nil=>exact hE rfl rfl K Vy
   |cons x X=>rfl
  exact cN hK hX Ot (fun K main cs w Vy=>by simp [stepG,stepG.exec,G,ext,ht K Vy])
 |cons it k=>
  have hk:∀x∈k,mf P ok x=true:=fun x hx=>hT x (by simp [hx])
  have hi:mf P ok it=true:=hT it (by simp)
  cases it with
  |inBlock id=>exact cN hK hX (Iq k hk) (fun K main cs w _=>by simp [stepG,stepG.exec,G,ext])
  |inLoop b=>exact cN hK hX (Iq (.code b::.inLoop b::k) (by intro x hx;simp only [R_] at hx;rcases hx with rfl|rfl|hx;exact hi;exact hi;exact hk x hx)) (fun K main cs w _=>by simp [stepG,stepG.exec,G,ext])
  |code c=>
   cases c with
   |skip=>exact cN hK hX (Iq k hk) (fun K main cs w _=>by simp [stepG,stepG.exec,G,ext])
   |label l=>exact cN hK hX (Iq k hk) (fun K main cs w _=>by simp [stepG,stepG.exec,G,ext])
   |ret=>exact cN hK hX Ot (fun K main cs w _=>by simp [stepG,stepG.exec,G,ext])
   |seq x y=>
    have BF:(je P ok x&&je P ok y)=true:=hi
    obtain ⟨h1,h2⟩:=Bool.and_eq_true_iff.1 BF
    exact cN hK hX (Iq (.code x::.code y::k) (by intro z hz;simp only [R_] at hz;rcases hz with rfl|rfl|hz;exact h1;exact h2;exact hk z hz)) (fun K main cs w _=>by simp [stepG,stepG.exec,G,ext])
   |block id b=>exact cN hK hX (Iq (.code b::.inBlock id::k) (by intro z hz;simp only [R_] at hz;rcases hz with rfl|rfl|hz;exact hi;rfl;exact hk z hz)) (fun K main cs w _=>by simp [stepG,stepG.exec,G,ext])
   |loop b=>exact cN hK hX (Iq (.code b::.inLoop b::k) (by intro z hz;simp only [R_] at hz;rcases hz with rfl|rfl|hz;exact hi;exact hi;exact hk z hz)) (fun K main cs w _=>by simp [stepG,stepG.exec,G,ext])
   |cond cc x y=>
    have BF:(je P ok x&&je P ok y)=true:=hi
    obtain ⟨h1,h2⟩:=Bool.and_eq_true_iff.1 BF
    cases hb:(⟨tmps,[]⟩:Act).eval cc with
    |bool b=>
     exact cN hK hX (Iq (.code (if b then x else y)::k) (by intro z hz;simp only [R_] at hz;rcases hz with rfl|hz;(cases b;exact h2;exact h1);exact hk z hz)) (fun K main cs w _=>by simp [stepG,stepG.exec,G,ext,sL,hb])
    |_=>exact lz (by simp [stepG,stepG.exec,G,ext,sL,hb])
   |exit id=>
    cases he:exitTo id k with
    |some k'=>exact cN hK hX (Iq k' (ry he hk)) (fun K main cs w _=>by simp [stepG,stepG.exec,G,ext,rz he])
    |none=>exact lz (by simp [stepG,stepG.exec,G,ext,pz (hX0 id) he])
   |region id ops draw=>
    have hr:∀td,mf P ok (.inRegion ops td)=true:=fun td=>hi
    cases draw with
    |false=>exact cN hK hX (Iq (.inRegion ops (List.range ops.size)::k) (by intro z hz;simp only [R_] at hz;rcases hz with rfl|hz;exact hr _;exact hk z hz)) (fun K main cs w _=>by simp [stepG,stepG.exec,G,ext])
    |true=>
     have e:∀K main cs w,stepG P main (G (ext (tl K X) {fn:=fn,tmps:=tmps,todo:=.code (.region id ops true)::k,defers:=[],mode:=.run,kind:=.normal,roundOf:=none}) (df K X++cs)) w=
      .go (G (ext (tl K X) {fn:=fn,tmps:=tmps,todo:=.inRegion ops (Region.schedule (P.follows .mixedOrders) ops (w.tape w.drawn (.order fn id)))::k,defers:=[],mode:=.run,kind:=.normal,roundOf:=none}) (df K X++cs)) {w with drawn:=w.drawn+1} #[]:=fun K main cs w=>by
      simp [stepG,stepG.exec,G,ext,choose,Sem.run,Question.forced,Question.cut]
     rw [e]
     refine .nice _ X _ _ (Iq _ (by intro z hz;simp only [R_] at hz;rcases hz with rfl|hz;exact hr _;exact hk z hz)) hX ?_
     intro K main cs w _ hw ff
     obtain ⟨w',h1,h2⟩:=oS (lg (P:=P) (.order fn id)) hw (r:=.ok (wl.tape wl.drawn (.order fn id)) {wl with drawn:=wl.drawn+1}) (es:=#[]) (by rfl) trivial ff
     have h3:(choose (.order fn id)).runT P w #[]=(.ok (w.tape w.drawn (.order fn id)) {w with drawn:=w.drawn+1},#[]):=rfl
     rw [h3] at h1
     have h4:=(Prod.mk.inj h1).1
     simp only [Result.D6,Result.ok.injEq] at h4
     exact ⟨w',by rw [e,h4.1,h4.2],h2⟩
   |_=>cases hi
  |inRegion ops td=>
   cases td with
   |nil=>exact cN hK hX (Iq k hk) (fun K main cs w _=>by simp [stepG,stepG.exec,G,ext])
   |cons i rest=>
    have Zz:=hf.finish
    by_cases hw:((ops[i]?).map (Region.wanted · (yielded ops tmps))).getD false=true
    ·cases ho:ops[i]? with
     |none=>simp [ho] at hw
     |some o=>
      have cK:=Hn hi ho
      obtain ⟨fr,kj⟩:∃fr:Y',({fn:=fn,tmps:=tmps,todo:=.inRegion ops (i::rest)::k,defers:=[],mode:=.run,kind:=.normal,roundOf:=none}:Y')=fr:=⟨_,rfl⟩
      have uO:fr.eval=(⟨tmps,[]⟩:Act).eval:=by rw [<-kj];exact sL _
      have e:∀K main cs w,stepG P main (G (ext (tl K X) fr) (df K X++cs)) w=stepG.apply P true (ext (tl K X) fr) (df K X++cs) none (V' (⟨tmps,[]⟩:Act).eval o) w:=fun K main cs w=>by
       have ZC:(ext (tl K X) fr).eval=(⟨tmps,[]⟩:Act).eval:=by rw [<-kj];exact sL _
       rw [<-ZC,<-kj]
       have wh:(Option.map (fun x=>Region.wanted x (yielded ops tmps)) (some o)).getD false=true:=by rw [<-ho];exact hw
       simp [stepG,stepG.exec,stepG.oper,G,Frame.oper?,ho,ext] at wh ⊢
       simp [wh]
      have hne:fr.todo≠[]:=by rw [<-kj];simp
      have Kr:=jh cK (⟨tmps,[]⟩:Act)
      have hyl:=yh cK (⟨tmps,[]⟩:Act)
      generalize V' (⟨tmps,[]⟩:Act).eval o=s at *
      have Sz:fr.kind=.normal:=by rw [<-kj]
      have hroz:fr.roundOf=none:=by rw [<-kj]
      have YS:∃kk,fr.todo=.inRegion ops (i::rest)::kk:=⟨k,by rw [<-kj]⟩
      rw [kj] at hf Zz
      rw [kj]
      cases hr:s.runT P wl #[] with
      |mk r es=>
       have pk:s.run P wl=r:=by rw [<-Sem.runT_fst P s wl #[],hr]
       cases r with
       |ok n aK=>
        have yd:=hyl wl n aK pk
        have EI:∀w,bI wl w->Sync wl w aK.drawn->∃w',s.runT P w #[]=(.ok n w',es)/\Mv wl w aK w' es:=fun w hw hs=>pO Kr hw hr hs
        cases n with
        |value v=>
         have eg:∀K main cs w w',s.runT P w #[]=(.ok (.value v) w',es)->stepG P main (G (ext (tl K X) fr) (df K X++cs)) w=.go (G (ext (tl K X) (fr.finish v)) (df K X++cs)) w' (seen P fr.fn es):=fun K main cs w w' hq=>by
          rw [e,<-nV hne]
          simp only [stepG.apply,if_true,hq]
          simp [Sz,GStep.after,G]
         rw [eg K₀ true base wl aK hr]
         refine .nice _ X _ _ (Zz v) hX fun K main cs w _ hw hs=> ?_
         obtain ⟨w',h1,h2⟩:=EI w hw hs
         exact ⟨w',eg K main cs w w' h1,h2.seen⟩
        |skip=>
         have eg:∀K main cs w w',s.runT P w #[]=(.ok (.skip) w',es)->stepG P main (G (ext (tl K X) fr) (df K X++cs)) w=.go (G (ext (tl K X) (fr.finish undef)) (df K X++cs)) w' (seen P fr.fn es):=fun K main cs w w' hq=>by
          rw [e,<-nV hne]
          simp only [stepG.apply,if_true,hq]
          simp [Sz,GStep.after,G]
         rw [eg K₀ true base wl aK hr]
         refine .nice _ X _ _ (Zz _) hX fun K main cs w _ hw hs=> ?_
         obtain ⟨w',h1,h2⟩:=EI w hw hs
         exact ⟨w',eg K main cs w w' h1,h2.seen⟩
        |enter f args=>
         have eg:∀K main cs w w',s.runT P w #[]=(.ok (.enter f args) w',es)->stepG P main (G (ext (tl K X) fr) (df K X++cs)) w=.go (G (ext (tl K (fr::X)) (Frame.enter P f args .normal)) (df K (fr::X)++cs)) w' (seen P fr.fn es):=fun K main cs w w' hq=>by
          obtain ⟨kk,hkk⟩:=YS
          rw [e]
          simp only [stepG.apply,if_true,hq]
          simp [Sz,GStep.after,G,hkk,tl,df,ext_nil]
         rw [eg K₀ true base wl aK hr]
         refine .nice _ (fr::X) _ _ (wU hp yd.1 yd.2 args) (fun x hx=> ?_) fun K main cs w _ hw hs=> ?_
         ·rcases List.mem_cons.1 hx with rfl|hx
          ·exact ⟨hf,hne⟩
          ·exact hX x hx
         ·obtain ⟨w',h1,h2⟩:=EI w hw hs
          exact ⟨w',eg K main cs w w' h1,h2.seen⟩
        |_=>exact yd.elim
       |halt h aK=>
        cases h with
        |panic v=>
         have eg:stepG P true (G (ext (tl K₀ X) fr) (df K₀ X++base)) wl=.go (G {ext (tl K₀ X) fr with mode:=.panicking [{v,recovered:=false}]} (df K₀ X++base)) aK (seen P fr.fn es):=by
          rw [e]
          simp only [stepG.apply,if_true,hr]
          have hmd:fr.mode=.run:=by rw [<-kj]
          simp [Sz,GStep.after,G,Frame.raise,hmd]
         rw [eg]
         exact .raised _ _ _
        |stuck m=>exact lz (by rw [e];simp only [stepG.apply,if_true,hr];simp [Sz,GStep.after])
        |unsupported u=>
         have ho:=Ck Kr AQ hr
         cases u with
         |initOrder g=>exact ho.elim
         |_=>exact lz (by rw [e];simp only [stepG.apply,if_true,hr];simp [Sz,GStep.after])
        |_=>exact (Ck Kr AQ hr).elim
    ·have wh:((ops[i]?).map (Region.wanted · (yielded ops tmps))).getD false=false:=by simpa using hw
     exact cN hK hX (hf.finish undef) (fun K main cs w _=>by
      rw [<-nV (by simp)]
      simp [stepG,stepG.exec,G,ext] at wh ⊢;simp [wh])
  |_=>cases hi
theorem iH (fn:Func) (tmps:Array M'):ag P (results fn tmps):=by
 unfold results
 refine af (jO (fun r=> ?_) _) fun vs=>aj _
 cases r with
 |tmp t=>exact aj _
 |cell a t=>exact af (pd _) fun a=>oh _ _
theorem Lx {ok:w_->Bool} {KS:List x_->Prop} (hK:KS K₀) {fr x:Y'} {base:List Y'} (AQ:bI wl wl) (hf:OkFr P ok fr) (hx:Bw P ok x) (hX:∀y∈X,Bw P ok y) (hm:fr.mode=.returning):
 Dv P ok KS K₀ fr (x::X) base wl (stepG P true (G (ext (tl K₀ (x::X)) fr) (df K₀ (x::X)++base)) wl):=by
 obtain ⟨fn,xF⟩:=hf.fn
 have e:∀K main cs w,stepG P main (G (ext (tl K (x::X)) fr) (df K (x::X)++cs)) w=
  GStep.after (seen P fr.fn ((results fn fr.tmps).runT P w #[]).2) (match ((results fn fr.tmps).runT P w #[]).1 with
   | .ok v w=>doReturn P main fr ((ext (tl K X) x::df K X)++cs) none v w
   | .halt (.stuck s) w=>.ended (.stuck s (fr.pos P)) w
   | .halt _ w=>.ended (.stuck "return: the result variables cannot be read" (fr.pos P)) w):=fun K main cs w=>by
  show stepG P main (G (ext [] fr) _) w=_
  rw [ext_nil]
  simp only [stepG,G,hm,unwind,hf.defers,xF]
  rfl
 have Kr:=iH (P:=P) fn fr.tmps
 cases hr:(results fn fr.tmps).runT P wl #[] with
 |mk r es=>
  cases r with
  |ok v aK=>
   have eg:∀K main cs w w',(results fn fr.tmps).runT P w #[]=(.ok v w',es)->stepG P main (G (ext (tl K (x::X)) fr) (df K (x::X)++cs)) w=.go (G (ext (tl K X) (x.finish v)) (df K X++cs)) w' (seen P fr.fn es):=fun K main cs w w' hq=>by
    rw [e,hq,<-nV hx.some]
    simp [doReturn,hf.kind,GStep.after,G]
   rw [eg K₀ true base wl aK hr]
   refine .nice _ X _ _ (hx.toOkFr.finish v) hX fun K main cs w _ hw hs=> ?_
   obtain ⟨w',h1,h2⟩:=oS Kr hw hr trivial hs
   exact ⟨w',eg K main cs w w' h1,h2.seen⟩
  |halt h aK=>exact lz (by rw [e,hr];cases h<;>simp [GStep.after])
theorem Ia {ok:w_->Bool} {KS:List x_->Prop} (hp:gM P ok) (hK:KS K₀) (OY:∀id,exitTo id K₀=none) {fr:Y'} {base:List Y'} (AQ:bI wl wl) (hf:OkFr P ok fr) (hX:∀x∈X,Bw P ok x) (hn:¬(fr.mode=.returning/\X=[]))
 (hE:X=[]->fr.todo=[]->fr.mode=.run->∀K,KS K->K=[]):
 Dv P ok KS K₀ fr X base wl (stepG P true (G (ext (tl K₀ X) fr) (df K₀ X++base)) wl):=by
 rcases hf.mode with hm|hm
 ·exact Lw hp hK OY AQ hf hX hm (fun h1 h2=>hE h1 h2 hm)
 ·cases X with
  |nil=>exact absurd ⟨hm,rfl⟩ hn
  |cons x X=>exact Lx hK AQ hf (hX x (by simp)) (fun y hy=>hX y (by simp [hy])) hm
def _root_.Go.World.re (w:J') (T:Nat->Question->Nat) (d:Nat):J':={w with tape:=T,drawn:=d}
theorem Oa (w:J') (T T':Nat->Question->Nat) (d d':Nat):(w.re T d).re T' d'=w.re T' d':=rfl
theorem pM (h:bI wl w) (T T':Nat->Question->Nat) (d d':Nat):bI (wl.re T d) (w.re T' d'):=⟨h.size,h.obj,h.os,h.out,h.ic⟩
theorem rM (h:bI wl w) (T:Nat->Question->Nat) (d:Nat):bI (wl.re T d) w:=⟨h.size,h.obj,h.os,h.out,h.ic⟩
theorem PK (h:oA wl w w') (T:Nat->Question->Nat) (d:Nat):oA (wl.re T d) w w':=⟨h.size,h.cells,h.chan,h.gz,h.still,h.os,h.out,h.tape⟩
inductive LW (P:U') (KS:List x_->Prop) (Q:Y'->List Y'->J'->Prop):Y'->List Y'->J'->Prop
 |stop {fr:Y'} {X:List Y'} {wl:J'}:Q fr X wl->LW P KS Q fr X wl
 |step {fr:Y'} {X:List Y'} {wl:J'} (nf:(Nat->Question->Nat)->Nat->Y') (nX:(Nat->Question->Nat)->Nat->List Y') (nw:(Nat->Question->Nat)->Nat->J') (ne:(Nat->Question->Nat)->Nat->Array Event):
  (∀T d,x8 P KS fr X (wl.re T d) (nf T d) (nX T d) (nw T d) (ne T d))->(∀T d,LW P KS Q (nf T d) (nX T d) (nw T d))->LW P KS Q fr X wl
theorem LW.gU {KS:List x_->Prop} {Q:Y'->List Y'->J'->Prop} {fr:Y'} (h:∀T d,∃kF X' aK es,x8 P KS fr X (wl.re T d) kF X' aK es/\LW P KS Q kF X' aK):LW P KS Q fr X wl:=
 .step (fun T d=>(h T d).choose) (fun T d=>(h T d).choose_spec.choose) (fun T d=>(h T d).choose_spec.choose_spec.choose) (fun T d=>(h T d).choose_spec.choose_spec.choose_spec.choose)
  (fun T d=>(h T d).choose_spec.choose_spec.choose_spec.choose_spec.1) (fun T d=>(h T d).choose_spec.choose_spec.choose_spec.choose_spec.2)
def aT:Y':={fn:=0,tmps:=#[],todo:=[.code (.refuse "")],defers:=[{target:=.nil,args:=#[]}],mode:=.run,kind:=.normal}
theorem Dj (v:M'):aT.finish v=aT:=rfl
theorem G1 (P:U') (w:J'):∃o w',step P (lone aT [] w)=.ended o w':=⟨_,_,step_lone_ended (by simp [stepG,stepG.exec,aT];exact ⟨rfl,rfl⟩)⟩
theorem tb (P:U') (c:List PanicEntry) (w:J'):∃o w',step P (lone {aT with mode:=.panicking c} [] w)=.ended o w':=⟨_,_,step_lone_ended (by simp [stepG,unwind,callDeferred,aT];exact ⟨rfl,rfl⟩)⟩
def panics:FrameMode->Prop
 | .panicking _=>True
 |_=>False
theorem Ae:∀(X:List Y') (fr:Y') (c:List PanicEntry) (w:J'),fr.defers=[]->(∃fn,P.funcs[fr.fn]?=some fn)->(∀x∈X,x.defers=[]/\(x.mode=.run\/x.mode=.returning)/\∃fn,P.funcs[x.fn]?=some fn)->
 ∀n kF cs' w',runN P n (lone {fr with mode:=.panicking c} (X++[aT]) w)=.next (lone kF cs' w')->panics kF.mode:=by
 intro X
 induction X with
 |nil=>
  intro fr c w hd ⟨fn,xF⟩ _ n kF cs' w' h
  have hs:step P (lone {fr with mode:=.panicking c} ([]++[aT]) w)=.next (lone {aT with mode:=.panicking c} [] w):=
   step_lone_go (by simp [stepG,unwind,hd,Frame.catches,xF,Frame.raise,aT])
  match n with
  |0=>
   simp only [runN,Stepped.next.injEq] at h
   have:=congrArg (fun m:Machine=>(m.gs[0]?).map (·.frame)) h
   simp [lone] at this
   rw [<-this];trivial
  |1=>
   simp only [runN,hs,Stepped.next.injEq] at h
   have:=congrArg (fun m:Machine=>(m.gs[0]?).map (·.frame)) h
   simp [lone] at this
   rw [<-this];trivial
  |n+2=>
   obtain ⟨o,w2,h2⟩:=tb P c w
   simp only [runN,hs,h2] at h
   cases h
 |cons x X ih=>
  intro fr c w hd ⟨fn,xF⟩ hX n kF cs' w' h
  have hx:=hX x (by simp)
  have hs:step P (lone {fr with mode:=.panicking c} ((x::X)++[aT]) w)=.next (lone {x with mode:=.panicking c} (X++[aT]) w):=
   step_lone_go (by
    have hm:x.raise c={x with mode:=.panicking c}:=by
     rcases hx.2.1 with e|e<;>simp [Frame.raise,e]
    simp [stepG,unwind,hd,Frame.catches,xF,hm])
  match n with
  |0=>
   simp only [runN,Stepped.next.injEq] at h
   have:=congrArg (fun m:Machine=>(m.gs[0]?).map (·.frame)) h
   simp [lone] at this
   rw [<-this];trivial
  |n+1=>
   simp only [runN,hs] at h
   exact ih x c w hx.1 hx.2.2 (fun y hy=>hX y (by simp [hy])) n kF cs' w' h
variable {kF:Y'}
theorem Ct {fr:Y'} {cs cs':List Y'} (h:lone fr cs w=lone kF cs' w'):fr=kF/\cs=cs'/\w=w':=by
 have h1:=congrArg (fun m:Machine=>m.gs[0]?) h
 have h2:=congrArg (fun m:Machine=>m.world) h
 simp [lone] at h1 h2
 exact ⟨h1.1,h1.2,h2⟩
theorem D7 {a n:Nat} {m m1 m2:Machine} (h1:runN P a m=.next m1) (h2:runN P n m=.next m2) (h:a<=n):runN P (n - a) m1=.next m2:=by
 have:=runN_add P a (n - a) m
 rw [Nat.add_sub_cancel' h,h1,h2] at this
 exact this.symm
variable {T:Nat->Question->Nat} {d:Nat}
theorem TJ (h:Mv wl w aK w' es) {T':Nat->Question->Nat} (hT:aK.tape=wl.tape):
 Mv (wl.re T d) w (aK.re T (d+(aK.drawn - wl.drawn))) w' es:=
 ⟨⟨h.weak.size,h.weak.obj,h.weak.os,h.weak.out,h.weak.ic⟩,Nat.le_add_right _ _,by
   have h1:=h.mono;have h2:=h.drawn
   show w'.drawn+d=w.drawn+(d+(aK.drawn - wl.drawn));omega,PK h.upd T d,
   ⟨h.gR.size,h.gR.cells,h.gR.chan,h.gR.gz,h.gR.still,h.gR.os,h.gR.out,rfl⟩,h.evs,h.heap⟩
variable {X':List Y'}
theorem FJ {KS:List x_->Prop} {fr:Y'} (h:x8 P KS fr X wl kF X' aK es) (hT:aK.tape=wl.tape) (hm:wl.drawn<=aK.drawn)
 (hs:∀i,wl.drawn+i<aK.drawn->T (d+i)=wl.tape (wl.drawn+i)):x8 P KS fr X (wl.re T d) kF X' (aK.re T (d+(aK.drawn - wl.drawn))) es:=by
 intro K main cs w Vy hw ff
 obtain ⟨w',h1,h2⟩:=h K main cs w Vy ⟨hw.size,hw.obj,hw.os,hw.out,hw.ic⟩ (fun i hi=>by
  have:=ff i (by show d+i<d+(aK.drawn - wl.drawn);omega)
  rw [this];exact hs i hi)
 exact ⟨w',h1,TJ (T':=T) h2 hT⟩
structure St (P:U') (ok:w_->Bool) where
 fr:Y'
 X:List Y'
 wl:J'
 kj:OkFr P ok fr
 hX:∀x∈X,Bw P ok x
 hw:bI wl wl
section
variable {ok:w_->Bool} {KS:List x_->Prop} {Q:Y'->List Y'->J'->Prop}
theorem LC (hX:∀x∈X,Bw P ok x) (K:List x_):∀x∈df K X,x.defers=[]/\(x.mode=.run\/x.mode=.returning)/\∃fn,P.funcs[x.fn]?=some fn:=by
 induction X with
 |nil=>intro x hx;cases hx
 |cons y X ih=>
  intro x hx
  rcases List.mem_cons.1 hx with rfl|hx
  ·exact (hX y (by simp)).toOkFr.bare
  ·exact ih (fun z hz=>hX z (by simp [hz])) x hx
theorem zl (hK:KS K₀) {fr:Y'} (h:x8 P KS fr X wl kF X' aK es) (hw:bI wl wl):bI aK aK/\wl.drawn<=aK.drawn/\aK.tape=wl.tape:=by
 obtain ⟨w',_,h2⟩:=h K₀ true [] wl hK hw (fun _ _=>rfl)
 exact ⟨h2.weak.self,h2.mono,h2.gR.tape⟩
theorem B1 (hp:gM P ok) (hK:KS K₀) (OY:(K₀=[]/\∀K,KS K->K=[])\/K₀=fR) (hQ:∀fr X w,Q fr X w->¬panics fr.mode) (s:St P ok) (hno:∀kF X' aK es,OkFr P ok kF->(∀x∈X',Bw P ok x)->¬x8 P KS s.fr s.X s.wl kF X' aK es)
 (n:Nat) (kF:Y') (X':List Y') (w':J') (h:runN P (n+1) (lone (ext (tl K₀ s.X) s.fr) (df K₀ s.X++[aT]) s.wl)=.next (lone kF (X'++[aT]) w')) (hq:Q kF X' w'):False:=by
 have U4:∀id,exitTo id K₀=none:=by
  rcases OY with ⟨rfl,_⟩|rfl<;>exact fun _=>rfl
 have Us:¬panics kF.mode:=hQ _ _ _ hq
 by_cases Ue:s.fr.mode=.returning/\s.X=[]
 ·
  obtain ⟨hm,hX⟩:=Ue
  obtain ⟨fn,xF⟩:=s.kj.fn
  rw [hX] at h
  change runN P (n+1) (lone (ext K₀ s.fr) ([]++[aT]) s.wl)=_ at h
  have e:stepG P true (G (ext K₀ s.fr) ([]++[aT])) s.wl=
   GStep.after (seen P s.fr.fn ((results fn s.fr.tmps).runT P s.wl #[]).2) (match ((results fn s.fr.tmps).runT P s.wl #[]).1 with
    | .ok v w=>doReturn P true (ext K₀ s.fr) ([]++[aT]) none v w
    | .halt (.stuck x) w=>.ended (.stuck x ((ext K₀ s.fr).pos P)) w
    | .halt _ w=>.ended (.stuck "return: the result variables cannot be read" ((ext K₀ s.fr).pos P)) w):=by
   simp only [stepG,G,KZ,hm,unwind,E4,s.kj.defers,RN,xF]
   rfl
  cases hr:(results fn s.fr.tmps).runT P s.wl #[] with
  |mk r es=>
   rw [hr] at e
   cases r with
   |ok v w1=>
    have hs:step P (lone (ext K₀ s.fr) ([]++[aT]) s.wl)=.next (lone aT [] w1):=step_lone_go (by
     have:({frame:=ext K₀ s.fr,callers:=[]++[aT],status:=.running,dying:=none}:O')=G (ext K₀ s.fr) ([]++[aT]):=rfl
     rw [this,e]
     simp [doReturn,s.kj.kind,GStep.after,Dj])
    simp only [runN,hs] at h
    cases n with
    |zero=>
     simp only [runN,Stepped.next.injEq] at h
     have:=(Ct h).2.1
     simp at this
    |succ n=>
     obtain ⟨o,w2,h2⟩:=G1 P w1
     simp only [runN,h2] at h
     cases h
   |halt hh w1=>
    have hs:∃o w2,step P (lone (ext K₀ s.fr) ([]++[aT]) s.wl)=.ended o w2:=by
     have:({frame:=ext K₀ s.fr,callers:=[]++[aT],status:=.running,dying:=none}:O')=G (ext K₀ s.fr) ([]++[aT]):=rfl
     cases hh<;>exact ⟨_,_,step_lone_ended (by rw [this,e];simp [GStep.after];exact ⟨rfl,rfl⟩)⟩
    obtain ⟨o,w2,hs⟩:=hs
    simp only [runN,hs] at h
    cases h
 ·by_cases OE:s.X=[]/\s.fr.todo=[]/\s.fr.mode=.run/\K₀=fR
  ·
   obtain ⟨hX,YS,hm,rfl⟩:=OE
   rw [hX] at h
   have hs:∃o w2,step P (lone (ext fR s.fr) ([]++[aT]) s.wl)=.ended o w2:=by
    have:({frame:=ext fR s.fr,callers:=[]++[aT],status:=.running,dying:=none}:O')=G (ext fR s.fr) ([]++[aT]):=rfl
    exact ⟨_,_,step_lone_ended (by rw [this];simp [stepG,stepG.exec,G,hm,YS,fR];exact ⟨rfl,rfl⟩)⟩
   obtain ⟨o,w2,hs⟩:=hs
   have h':runN P (n+1) (lone (ext fR s.fr) ([]++[aT]) s.wl)=.next (lone kF (X'++[aT]) w'):=h
   simp only [runN,hs] at h'
   cases h'
  have hc:=Ia (base:=[aT]) (KS:=KS) (K₀:=K₀) hp hK U4 s.hw s.kj s.hX Ue (fun h1 h2 h3=>OY.elim (fun a=>a.2) (fun a=>absurd ⟨h1,h2,h3,a⟩ OE))
  generalize hst:stepG P true (G (ext (tl K₀ s.X) s.fr) (df K₀ s.X++[aT])) s.wl=st at hc
  cases hc with
  |nice fr2 X2 V6 es h1 h2 h3=>exact hno _ _ _ _ h1 h2 h3
  |raised c V6 es=>
   have hs:step P (lone (ext (tl K₀ s.X) s.fr) (df K₀ s.X++[aT]) s.wl)=.next (lone {ext (tl K₀ s.X) s.fr with mode:=.panicking c} (df K₀ s.X++[aT]) V6):=step_lone_go (by
    have:({frame:=ext (tl K₀ s.X) s.fr,callers:=df K₀ s.X++[aT],status:=.running,dying:=none}:O')=G (ext (tl K₀ s.X) s.fr) (df K₀ s.X++[aT]):=rfl
    rw [this,hst];rfl)
   simp only [runN,hs] at h
   exact Us (Ae (df K₀ s.X) (ext (tl K₀ s.X) s.fr) c V6 s.kj.defers s.kj.fn (LC s.hX K₀) n _ _ _ h)
  |ended o w2 es=>
   have hs:step P (lone (ext (tl K₀ s.X) s.fr) (df K₀ s.X++[aT]) s.wl)=.ended o w2:=step_lone_ended (by
    have:({frame:=ext (tl K₀ s.X) s.fr,callers:=df K₀ s.X++[aT],status:=.running,dying:=none}:O')=G (ext (tl K₀ s.X) s.fr) (df K₀ s.X++[aT]):=rfl
    rw [this,hst];rfl)
   simp only [runN,hs] at h
   cases h
theorem least {p:Nat->Prop} (h:∃k,p k):∃k,p k/\∀j,j<k->¬p j:=by
 obtain ⟨k,hk⟩:=h
 induction k using Nat.strongRecOn with
 |_ k ih=>
  by_cases h:∃j,j<k/\p j
  ·obtain ⟨j,h1,h2⟩:=h;exact ih j h1 h2
  ·exact ⟨k,hk,fun j hj hp=>h ⟨j,hj,hp⟩⟩
theorem xk (hp:gM P ok) (hK:KS K₀) (OY:(K₀=[]/\∀K,KS K->K=[])\/K₀=fR) (hQ:∀fr X w,Q fr X w->¬panics fr.mode) (hQ2:∀fr X w T d,bI w w->Q fr X w->Q fr X (w.re T d)) (s0:St P ok)
 (L:∀T d,∃n kF X' w',runN P n (lone (ext (tl K₀ s0.X) s0.fr) (df K₀ s0.X++[aT]) (s0.wl.re T d))=.next (lone kF (X'++[aT]) w')/\Q kF X' w'):LW P KS (fun fr X w=>Q (ext (tl K₀ X) fr) (df K₀ X) w/\bI w w) s0.fr s0.X s0.wl:=by
 classical
 refine j_ fun hno=> ?_
 let SU:=fun s:St P ok=>¬LW P KS (fun fr X w=>Q (ext (tl K₀ X) fr) (df K₀ X) w/\bI w w) s.fr s.X s.wl
 have oF:∀s:St P ok,SU s->∃T d,∀kF X' aK es,x8 P KS s.fr s.X (s.wl.re T d) kF X' aK es->¬LW P KS (fun fr X w=>Q (ext (tl K₀ X) fr) (df K₀ X) w/\bI w w) kF X' aK:=by
  intro s hs
  refine j_ fun hc=>hs (LW.gU fun T d=> ?_)
  refine j_ fun BJ=>hc ⟨T,d,fun kF X' aK es hn hl=>BJ ⟨kF,X',aK,es,hn,hl⟩⟩
 let tp:St P ok->(Nat->Question->Nat):=fun s=>if h:SU s then (oF s h).choose else fun _ _=>0
 let dp:St P ok->Nat:=fun s=>if h:SU s then (oF s h).choose_spec.choose else 0
 have hbd:∀s,SU s->∀kF X' aK es,x8 P KS s.fr s.X (s.wl.re (tp s) (dp s)) kF X' aK es->¬LW P KS (fun fr X w=>Q (ext (tl K₀ X) fr) (df K₀ X) w/\bI w w) kF X' aK:=by
  intro s h
  simp only [tp,dp,dif_pos h]
  exact (oF s h).choose_spec.choose_spec
 let GI:=fun (s s':St P ok)=>∃es,x8 P KS s.fr s.X (s.wl.re (tp s) (dp s)) s'.fr s'.X s'.wl es
 let uU:=fun s:St P ok=>¬∃s',GI s s'
 let nx:St P ok->St P ok:=fun s=>if h:∃s',GI s s' then h.choose else s
 have OL:∀s,¬uU s->GI s (nx s):=by
  intro s h
  have h':∃s',GI s s':=j_ h
  simp only [nx,dif_pos h']
  exact h'.choose_spec
 let sq:Nat->St P ok:=fun k=>Nat.rec s0 (fun _ s=>nx s) k
 have hsq0:sq 0=s0:=rfl
 have hsq:∀k,sq (k+1)=nx (sq k):=fun k=>rfl
 have hBk:∀k,(∀j,j<k->¬uU (sq j))->SU (sq k):=by
  intro k
  induction k with
  |zero=>intro _;exact hno
  |succ k ih=>
   intro h
   have hb:=ih (fun j hj=>h j (by omega))
   obtain ⟨es,hn⟩:=OL (sq k) (h k (by omega))
   show SU (nx (sq k))
   exact hbd _ hb _ _ _ _ hn
 let c:Nat->Nat:=fun k=>(sq (k+1)).wl.drawn - dp (sq k)
 let D:Nat->Nat:=fun k=>Nat.rec 0 (fun j a=>a+c j) k
 have hD0:D 0=0:=rfl
 have hD:∀k,D (k+1)=D k+c k:=fun k=>rfl
 have hDm:∀j k,j<=k->D j<=D k:=by
  intro j k h
  induction k with
  |zero=>have Nn:j=0:=by omega
         rw [Nn];exact Nat.le_refl _
  |succ k ih=>
   by_cases e:j=k+1
   ·rw [e];exact Nat.le_refl _
   ·exact Nat.le_trans (ih (by omega)) (by rw [hD];exact Nat.le_add_right _ _)
 let Pn:=fun n k=>uU (sq k)\/n<D (k+1)
 let Ts:Nat->Question->Nat:=fun n q=>if h:∃k,Pn n k then (tp (sq (least h).choose)) (dp (sq (least h).choose)+(n - D (least h).choose)) q else 0
 have hTs:∀n k,(∀j,j<k->¬uU (sq j))->Pn n k->D k<=n->Ts n=(tp (sq k)) (dp (sq k)+(n - D k)):=by
  intro n k hk hP hn
  have hex:∃k,Pn n k:=⟨k,hP⟩
  have hl:=(least hex).choose_spec
  have e:(least hex).choose=k:=by
   generalize (least hex).choose=m at hl
   rcases Nat.lt_trichotomy m k with h|h|h
   ·rcases hl.1 with h1|h1
    ·exact absurd h1 (hk m h)
    ·have:=hDm (m+1) k h;omega
   ·exact h
   ·exact absurd hP (hl.2 k h)
  funext q
  show (if h:∃k,Pn n k then _ else _)=_
  rw [dif_pos hex,e]
 have hrun:∀k,(∀j,j<k->¬uU (sq j))->runN P k (lone (ext (tl K₀ s0.X) s0.fr) (df K₀ s0.X++[aT]) (s0.wl.re Ts 0))=.next (lone (ext (tl K₀ (sq k).X) (sq k).fr) (df K₀ (sq k).X++[aT]) ((sq k).wl.re Ts (D k))):=by
  intro k
  induction k with
  |zero=>intro _;rfl
  |succ k ih=>
   intro h
   have h1:=ih (fun j hj=>h j (by omega))
   obtain ⟨es,hn⟩:=OL (sq k) (h k (by omega))
   obtain ⟨cf,Nh,ht1⟩:=zl hK hn (pM (sq k).hw _ _ _ _)
   have L9:=FJ hn ht1 Nh (T:=Ts) (d:=D k) (fun i hi=>by
    have lE:dp (sq k)+i<(nx (sq k)).wl.drawn:=hi
    have:D k+i<D (k+1):=by rw [hD];show D k+i<D k+((sq (k+1)).wl.drawn - dp (sq k));rw [hsq];omega
    rw [hTs (D k+i) k (fun j hj=>h j (by omega)) (.inr this) (Nat.le_add_right _ _),Nat.add_sub_cancel_left]
    rfl)
   obtain ⟨w',h2,h3⟩:=L9 K₀ true [aT] ((sq k).wl.re Ts (D k)) hK (pM (sq k).hw _ _ _ _) (fun _ _=>rfl)
   have hd:D k+((nx (sq k)).wl.drawn - dp (sq k))=D (k+1):=rfl
   have e:w'=(sq (k+1)).wl.re Ts (D (k+1)):=by
    have e1:=h3.heap rfl
    have e2:=h3.drawn
    have e3:=h3.upd.tape
    have e4:=h3.weak.os
    have e5:=h3.weak.out
    obtain ⟨Iu,tp1,dr1,os1,ou1⟩:=w'
    simp only [World.re] at e1 e2 e3 e4 e5 ⊢
    subst e1 e3 e4 e5
    rw [hsq] at *
    congr 1
    have hm1':dp (sq k)<=(nx (sq k)).wl.drawn:=Nh
    try simp only [World.re] at e2
    omega
   have hs:step P (lone (ext (tl K₀ (sq k).X) (sq k).fr) (df K₀ (sq k).X++[aT]) ((sq k).wl.re Ts (D k)))=.next (lone (ext (tl K₀ (sq (k+1)).X) (sq (k+1)).fr) (df K₀ (sq (k+1)).X++[aT]) ((sq (k+1)).wl.re Ts (D (k+1)))):=step_lone_go (by
    have:({frame:=ext (tl K₀ (sq k).X) (sq k).fr,callers:=df K₀ (sq k).X++[aT],status:=.running,dying:=none}:O')=G (ext (tl K₀ (sq k).X) (sq k).fr) (df K₀ (sq k).X++[aT]):=rfl
    rw [this,h2,e];rfl)
   rw [runN_add,h1]
   simp only [runN,hs]
 obtain ⟨n,kF,X',w',hn,hq⟩:=L Ts 0
 have atQ:∀k,(∀j,j<k->¬uU (sq j))->k=n->False:=by
  rintro k hk rfl
  have h1:=hrun k hk
  rw [hn] at h1
  simp only [Stepped.next.injEq] at h1
  obtain ⟨e1,e2,e3⟩:=Ct h1
  have VK:X'=df K₀ (sq k).X:=List.append_cancel_right e2
  refine hBk k hk (.stop ?_)
  rw [e1,VK,e3] at hq
  exact ⟨hQ2 _ _ ((sq k).wl.re Ts (D k)) (sq k).wl.tape (sq k).wl.drawn (pM (sq k).hw _ _ _ _) hq,(sq k).hw⟩
 by_cases hst:∃k,uU (sq k)/\k<n
 ·obtain ⟨k,⟨h1,h2⟩,h3⟩:=least hst
  have hk:∀j,j<k->¬uU (sq j):=fun j hj hs=>h3 j hj ⟨hs,by omega⟩
  have hr:=D7 (hrun k hk) hn (Nat.le_of_lt h2)
  obtain ⟨m,hm⟩:∃m,n - k=m+1:=⟨n - k - 1,by omega⟩
  rw [hm] at hr
  let s1:St P ok:={fr:=(sq k).fr,X:=(sq k).X,wl:=(sq k).wl.re Ts (D k),kj:=(sq k).kj,hX:=(sq k).hX,hw:=pM (sq k).hw _ _ _ _}
  refine B1 hp hK OY hQ s1 (fun fr2 X2 V6 es a1 a2 hni=> ?_) m kF X' w' hr hq
  obtain ⟨b1,b2,b3⟩:=zl hK hni s1.hw
  have QO:=FJ hni b3 b2 (T:=tp (sq k)) (d:=dp (sq k)) (fun i _=>by
   show tp (sq k) (dp (sq k)+i)=Ts (D k+i)
   rw [hTs (D k+i) k hk (.inl h1) (Nat.le_add_right _ _),Nat.add_sub_cancel_left])
  exact h1 ⟨{fr:=fr2,X:=X2,wl:=_,kj:=a1,hX:=a2,hw:=pM b1 _ _ _ _},es,QO⟩
 ·exact atQ n (fun j hj hs=>hst ⟨j,hs,hj⟩) rfl
end
end
section
open Go Go.Conc Go.RowKit
inductive Walk (P:U') (main:Bool) (R:J'->J'->Prop) (D:J'->J'->Array Event->Prop) (Stop:O'->J'->Prop):O'->J'->Prop
 |stop {g:O'} {w:J'}:(∀w₁,R w w₁->Stop g w₁)->Walk P main R D Stop g w
 |step {g:O'} {w:J'} (ng:J'->O') (nw:J'->J') (ne:J'->Array Event):g.status=.running->
  (∀w₁,R w w₁->stepG P main g w₁=.go (ng w₁) (nw w₁) (ne w₁)/\D w₁ (nw w₁) (ne w₁))->(∀w₁,R w w₁->Walk P main R D Stop (ng w₁) (nw w₁))->Walk P main R D Stop g w
section
variable {P:U'} {main:Bool} {R:J'->J'->Prop} {D:J'->J'->Array Event->Prop} {Stop:O'->J'->Prop}
variable {g:O'} {w:J'}
theorem Walk.gU (hs:g.status=.running) (h:∀w₁,R w w₁->∃g' w' es,stepG P main g w₁=.go g' w' es/\D w₁ w' es/\Walk P main R D Stop g' w'):Walk P main R D Stop g w:=by
 classical
 refine .step (fun w₁=>if h₁:R w w₁ then (h w₁ h₁).choose else g) (fun w₁=>if h₁:R w w₁ then (h w₁ h₁).choose_spec.choose else w) (fun w₁=>if h₁:R w w₁ then (h w₁ h₁).choose_spec.choose_spec.choose else #[]) hs ?_ ?_
 ·intro w₁ h₁
  simp only [dif_pos h₁]
  exact ⟨(h w₁ h₁).choose_spec.choose_spec.choose_spec.1,(h w₁ h₁).choose_spec.choose_spec.choose_spec.2.1⟩
 ·intro w₁ h₁
  simp only [dif_pos h₁]
  exact (h w₁ h₁).choose_spec.choose_spec.choose_spec.2.2
theorem Walk.bind {Pa:O'->J'->Prop} (refl:∀w,R w w) (h:Walk P main R D Stop g w) (hs:∀g' w',Stop g' w'->Walk P main R D Pa g' w'):Walk P main R D Pa g w:=by
 induction h with
 |stop h=>exact hs _ _ (h _ (refl _))
 |step ng nw ne hr h1 h2 ih=>exact .step ng nw ne hr h1 fun w₁ h₁=>ih w₁ h₁
theorem Walk.keeps {I:J'->Prop} (hR:∀w w₁,R w w₁->I w->I w₁) (h:Walk P main R (fun w w' es=>D w w' es/\(I w->I w')) Stop g w) (hI:I w):Walk P main R D (fun g' w'=>Stop g' w'/\I w') g w:=by
 induction h with
 |stop h=>exact .stop fun w₁ h₁=>⟨h w₁ h₁,hR _ _ h₁ hI⟩
 |step ng nw ne hs h1 h2 ih=>exact .step ng nw ne hs (fun w₁ h₁=>⟨(h1 w₁ h₁).1,(h1 w₁ h₁).2.1⟩) (fun w₁ h₁=>ih w₁ h₁ ((h1 w₁ h₁).2.2 (hR _ _ h₁ hI)))
end
structure Out (hid:Nat->Nat->Prop) (w w':J'):Prop where
 size:w'.heap.size=w.heap.size
 cells:∀(b:Nat) (c:Array M') (e:Q') (f:Nat × Nat),w.heap[b]?=some (.cells c e f)->∃c',w'.heap[b]?=some (.cells c' e f)/\c'.size=c.size/\∀k,¬hid b k->c'[k]?=c[k]?
 gz:∀(b:Nat) (o:Obj),w.heap[b]?=some o->aR o=false->w'.heap[b]?=some o
 os:w'.os=w.os
 out:w'.output=w.output
 tape:w'.tape=w.tape
theorem Out.refl (hid:Nat->Nat->Prop) (w:J'):Out hid w w:=⟨rfl,fun _ c _ _ h=>⟨c,h,rfl,fun _ _=>rfl⟩,fun _ _ h _=>h,rfl,rfl,rfl⟩
theorem Out.trans {hid:Nat->Nat->Prop} {a b c:J'} (h:Out hid a b) (k:Out hid b c):Out hid a c:=by
 refine ⟨k.size.trans h.size,fun x cc e f hx=> ?_,fun x o hx ho=>k.gz x o (h.gz x o hx ho) ho,k.os.trans h.os,k.out.trans h.out,k.tape.trans h.tape⟩
 obtain ⟨c1,h1,h2,h3⟩:=h.cells x cc e f hx
 obtain ⟨c2,h4,h5,h6⟩:=k.cells x c1 e f h1
 exact ⟨c2,h4,h5.trans h2,fun j hj=>(h6 j hj).trans (h3 j hj)⟩
theorem Out.at (hid:Nat->Nat->Prop) (w:J') (d:Nat):Out hid w (w.at d):=⟨rfl,fun _ c _ _ h=>⟨c,h,rfl,fun _ _=>rfl⟩,fun _ _ h _=>h,rfl,rfl,rfl⟩
def EvM (hid gd:Nat->Nat->Prop) (top:Nat) (e:Event):Prop:=
 match e.loc with
 | .cell a=>a.block<top/\e.sync=false/\¬hid a.block a.off/\(e.write=true->¬gd a.block a.off)
 | .obj r=>r<top/\(e.sync=true->e.write=false)
 | .mark .noRoom=>True
 |_=>False
structure Sd (hid gd:Nat->Nat->Prop) (w w':J') (es:Array Event):Prop where
 size:w.heap.size<=w'.heap.size
 cells:∀(b:Nat) (c:Array M') (e:Q') (f:Nat × Nat),w.heap[b]?=some (.cells c e f)->∃c',w'.heap[b]?=some (.cells c' e f)/\c'.size=c.size/\∀k,hid b k\/gd b k->c'[k]?=c[k]?
 chan:∀(b:Nat) (o:Obj),w.heap[b]?=some o->o.isChan=true->w'.heap[b]?=some o
 gz:∀(b:Nat) (o:Obj),w.heap[b]?=some o->aR o=false->∃o',w'.heap[b]?=some o'/\aR o'=false
 os:w'.os=w.os
 out:w'.output=w.output
 tape:w'.tape=w.tape
 evs:∀e∈es,EvM hid gd w'.heap.size e
structure Cut (hid gd:Nat->Nat->Prop) (wl:J'):Prop where
 hid:∀b k,hid b k->b<wl.heap.size/\wl.cell? ⟨b,k,none⟩=none
 gd:∀b k,gd b k->b<wl.heap.size/\wl.frozen? ⟨b,k,none⟩=true
variable {wl aK:J'}
theorem Cut.upd {hid gd:Nat->Nat->Prop} (h:Cut hid gd wl) (hu:oA wl wl aK):Cut hid gd aK:=
 ⟨fun b k hk=>let ⟨h1,h2⟩:=h.hid b k hk;⟨E_ h1 hu.size,(hu.there h1).1.2 h2⟩,fun b k hk=>let ⟨h1,h2⟩:=h.gd b k hk;⟨E_ h1 hu.size,(hu.there h1).2.trans h2⟩⟩
theorem Cut.re {hid gd:Nat->Nat->Prop} (h:Cut hid gd wl) (T:Nat->Question->Nat) (d:Nat):Cut hid gd (wl.re T d):=⟨h.hid,h.gd⟩
variable {w w':J'}
theorem bI.outside {hid gd:Nat->Nat->Prop} (h:bI wl w) (hc:Cut hid gd wl) (ho:Out hid w w'):bI wl w':=by
 refine ⟨h.size.trans ho.size.symm,fun b o o' hb A8=> ?_,h.os.trans ho.os.symm,h.out.trans ho.out.symm,h.ic⟩
 obtain ⟨o1,h1,h2⟩:=h.get hb
 cases rq:aR o1 with
 |false=>rw [ho.gz b o1 h1 rq] at A8;cases A8;exact h2
 |true=>
  cases o1<;>simp [aR] at rq
  rename_i c1 e1 f1
  obtain ⟨c2,h3,h4,h5⟩:=ho.cells b c1 e1 f1 h1
  rw [h3] at A8;cases A8
  have nh:∀(c:Array M') (e:Q') (f:Nat × Nat),wl.heap[b]?=some (.cells c e f)->∀k,k<c.size->¬hid b k:=by
   intro c e f hw k hk hh
   have:=(hc.hid b k hh).2
   simp [World.cell?,hw,hk] at this
  cases h2 with
  |blind hb=>have:=hb.cells.2;simp [aR] at this
  |same=>
   refine .cut (by omega) (fun k hk=>h5 k (nh _ _ _ hb k hk)) (fun k h=>h)
  |cut g1 g2 g3=>exact .cut (by omega) (fun k hk=>(h5 k (nh _ _ _ hb k hk)).trans (g2 k hk)) g3
variable {es:Array Event}
theorem tO {hid gd:Nat->Nat->Prop} (hc:Cut hid gd wl) (h:Mv wl w aK w' es) (hs:wl.heap.size=w.heap.size):Sd hid gd w w' es:=by
 refine ⟨h.upd.size,fun b c e f hb=> ?_,h.upd.chan,fun b o hb ho=>let ⟨o',h1,h2,_⟩:=h.upd.gz b o hb ho;⟨o',h1,h2⟩,h.upd.os,h.upd.out,h.upd.tape,fun ev he=> ?_⟩
 ·obtain ⟨c',h1,h2,h3⟩:=h.upd.cells b c e f hb
  exact ⟨c',h1,h2,fun k hk=>h3 k (hk.elim (fun q=>.inl (hc.hid b k q).2) (fun q=>.inr (hc.gd b k q).2))⟩
 ·have:=h.evs ev he
  have ht:aK.heap.size=w'.heap.size:=h.weak.size
  unfold vR at this
  unfold EvM
  split<;>simp_all
  ·rename_i a _
   obtain ⟨h1,h2,h3⟩:=this
   rcases h3 with h3|⟨⟨v,hv⟩,h4⟩
   ·refine ⟨fun hh=> ?_,fun _ hf=> ?_⟩
    ·have:=(hc.hid _ _ hh).1;omega
    ·have:=(hc.gd _ _ hf).1;omega
   ·have ha:=nB hv
    refine ⟨fun hh=> ?_,fun hw hf=> ?_⟩
    ·have:=(hc.hid _ _ hh).2;rw [<-ha,hv] at this;cases this
    ·have:=(hc.gd _ _ hf).2;rw [<-ha,h4 hw] at this;cases this
def Qb:Obj->Bool
 | .chan _ _ cl _ _ _=> !cl
 |_=>false
inductive LJ:Obj->Obj->Prop
 |cells {c:Array M'} {e:Q'} {RI f:Nat × Nat} (h:∀k,k<c.size->gd f k=true):LJ (.cells c e RI) (.cells c e f)
 |other {tz o:Obj} (h₀:aR tz=false) (h:aR o=false) (hm:isMap o=false) (hc:Qb o=false):LJ tz o
structure Shut (n:Nat) (U wl:J'):Prop where
 size:n<=wl.heap.size
 obj:∀(b:Nat) (o:Obj),b<n->wl.heap[b]?=some o->∃tz,U.heap[b]?=some tz/\LJ tz o
variable {U:J'}
theorem Shut.re {n:Nat} (h:Shut n U wl) (T:Nat->Question->Nat) (d:Nat):Shut n U (wl.re T d):=⟨h.size,h.obj⟩
variable {T:Nat->Question->Nat} {d:Nat}
theorem Shut.j8 {n:Nat} (h:Shut n U (wl.re T d)):Shut n U wl:=⟨h.size,h.obj⟩
theorem p8 {b k:Nat} {c:Array M'} {e:Q'} {f:Nat × Nat} (h:w.heap[b]?=some (.cells c e f)):w.frozen? ⟨b,k,none⟩=gd f k:=by simp [World.frozen?,h,gd]
theorem rA {c c':Array M'} (hs:c'.size=c.size) (h:∀k,k<c.size->c'[k]?=c[k]?):c'=c:=by
 apply Array.ext_getElem?
 intro k
 by_cases hk:k<c.size
 ·exact h k hk
 ·rw [Array.getElem?_eq_none (by omega),Array.getElem?_eq_none (by omega)]
theorem Shut.upd {n:Nat} (h:Shut n U wl) (hu:oA wl wl aK):Shut n U aK:=by
 refine ⟨Nat.le_trans h.size hu.size,fun b o hb ho=> ?_⟩
 have hlt:b<wl.heap.size:=E_ hb h.size
 have h1:=H_ hlt
 obtain ⟨tz,h2,h3⟩:=h.obj b _ hb h1
 generalize wl.heap[b]=p at h1 h3
 refine ⟨tz,h2, ?_⟩
 cases h3 with
 |cells hf=>
  rename_i c e RI f
  obtain ⟨c',g1,g2,g3⟩:=hu.cells b _ _ _ h1
  have:=rA g2 fun k hk=>g3 k (.inr ((p8 h1).trans (hf k hk)))
  subst this
  rw [g1] at ho;cases ho
  exact .cells hf
 |other g0 g1 g2 g3=>
  rw [hu.still b p h1 g1 g2,h1] at ho;cases ho
  exact .other g0 g1 g2 g3
theorem kO {n:Nat} (h:Shut n U wl) (hb:Below n U w) (hs:wl.heap.size=w.heap.size) (hu:oA wl w w'):Below n U w':=by
 refine ⟨hu.os.trans hb.os,hu.tape.trans hb.tape,hu.out.trans hb.output,Nat.le_trans hb.size hu.size,fun b hlt=> ?_⟩
 have gJ:b<wl.heap.size:=E_ hlt h.size
 have h1:=H_ gJ
 obtain ⟨tz,h2,h3⟩:=h.obj b _ hlt h1
 generalize wl.heap[b]=p at h1 h3
 have h4:=(hb.block b hlt).trans h2
 rw [h2]
 cases h3 with
 |cells hf=>
  obtain ⟨c',g1,g2,g3⟩:=hu.cells b _ _ _ h4
  have:=rA g2 fun k hk=>g3 k (.inr ((p8 h1).trans (hf k hk)))
  rw [g1,this]
 |other g0 g1 g2 g3=>rw [hu.still b p h1 g1 g2,h4]
theorem hM {n:Nat} {hid gd:Nat->Nat->Prop} (h:Shut n U wl) (hc:Cut hid gd wl) (hb:Below n U w) (ho:Out hid w w'):Below n U w':=by
 refine ⟨ho.os.trans hb.os,ho.tape.trans hb.tape,ho.out.trans hb.output,by rw [ho.size];exact hb.size,fun b hlt=> ?_⟩
 have gJ:b<wl.heap.size:=E_ hlt h.size
 have h1:=H_ gJ
 obtain ⟨tz,h2,h3⟩:=h.obj b _ hlt h1
 generalize wl.heap[b]=p at h1 h3
 have h4:=(hb.block b hlt).trans h2
 rw [h2]
 cases h3 with
 |cells hf=>
  rename_i c e RI f
  obtain ⟨c',g1,g2,g3⟩:=ho.cells b _ _ _ h4
  have:=rA g2 fun k hk=>g3 k fun hh=>by
   have:=(hc.hid b k hh).2
   simp [World.cell?,h1,hk] at this
  rw [g1,this]
 |other g0 g1 g2 g3=>exact ho.gz b _ h4 g0
def LO (n:Nat) (U:J') (hid gd:Nat->Nat->Prop) (w w':J') (es:Array Event):Prop:=Sd hid gd w w' es/\(Below n U w->Below n U w')
variable {P:U'} {X:List Y'}
theorem LW.walk {n:Nat} {KS:List x_->Prop} {Q:Y'->List Y'->J'->Prop} {hid gd:Nat->Nat->Prop} (K:List x_) (hK:KS K) (main:Bool) (cs:List Y') {fr:Y'} (h:LW P KS Q fr X wl):
 ∀{w:J'},Cut hid gd wl->bI wl w->Shut n U wl->Walk P main (Out hid) (LO n U hid gd) (fun g w'=>∃kF X' aK,g=G (ext (tl K X') kF) (df K X'++cs)/\Q kF X' aK/\Cut hid gd aK/\bI aK w'/\Shut n U aK) (G (ext (tl K X) fr) (df K X++cs)) w:=by
 induction h with
 |stop hq=>exact fun {w} hc hw hs=>.stop fun w₁ h₁=>⟨_,_,_,rfl,hq,hc,hw.outside hc h₁,hs⟩
 |step nf nX nw ne hn hl ih=>
  intro w hc hw fI
  refine Walk.gU rfl fun w₁ h₁=> ?_
  have cv:=hw.outside hc h₁
  obtain ⟨w',h2,h3⟩:=hn w₁.tape w₁.drawn K main cs w₁ hK ⟨cv.size,cv.obj,cv.os,cv.out,cv.ic⟩ (fun _ _=>rfl)
  refine ⟨_,w',_,h2,⟨tO (hc.re _ _) h3 cv.size,fun hb=>kO (fI.re w₁.tape w₁.drawn) hb cv.size h3.upd⟩,ih _ _ ((hc.re _ _).upd h3.gR) h3.weak ((fI.re w₁.tape w₁.drawn).upd h3.gR)⟩
end
end Go.aC
