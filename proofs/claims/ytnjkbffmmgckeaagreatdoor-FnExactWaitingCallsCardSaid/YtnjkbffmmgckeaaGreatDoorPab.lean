/-
  Which operations look at nothing but what is there.
-/
import Derived.Laws.Sem
import Derived.Test.YtnjkbffmmgckeaaGreatDoorPaa
set_option linter.all false
set_option maxRecDepth 100000
set_option maxHeartbeats 32000000
open Go renaming World->J',Value->M',TypeId->Q',Program->U',FuncId->w_,Addr->z_
namespace Go.aC
section
open Go
class Nt {α:Type} (P:U') (s:Sem α):Prop where
 out:ag P s
variable {α β:Type} {P:U'}
theorem nt {s:Sem α} (h:ag P s:=by repeat' first|(with_reducible first|exact Nt.out|assumption|refine cV _ (fun _=> ?_) (fun _ _ b=>by cases b<;>first|exact .inl rfl|exact .inr fun _ _ h=>h)|refine af ?_ fun _=> ?_|refine dZ ?_|refine fL (fun _=> ?_) (fun _=> ?_)|refine jg (fun _ _=> ?_) _ _|refine jf (fun _ _=> ?_) _ _|refine gp (fun _ _=> ?_) _ _|refine jO (fun _=> ?_) _)|split):ag P s:=h
instance (q:Question):Nt P (choose q):=⟨lg _⟩
instance (a:z_):Nt P (load a):=⟨nL _⟩
instance:Nt P (mark .noRoom):=⟨oW⟩
instance (a:α):Nt P (Sem.pure a):=⟨bo _⟩
instance (a:z_) (v:M'):Nt P (store a v):=⟨qC _ _⟩
variable {x:Sem α}
theorem af {f:α->Sem β} (hx:ag P x) (hf:∀a,ag P (f a)):ag P (x>>=f):=sd hx hf
theorem cV (r:Nat) {f:Obj->Sem α} (h:∀o,ag P (f o)) (hb:∀o o',na o o'->f o'=f o\/∀w es,¬rE ((f o).runT P w es).1):ag P (getObj r>>=f):=cJ r (fun o _=>(h o).c) hb
theorem dZ {f:α->β} (hx:ag P x):ag P (Functor.map f x):=sd hx (fun a=>bo (f a))
theorem aj (a:α):ag P (Pure.pure a:Sem α):=bo a
instance (a:α):Nt P (Pure.pure a:Sem α):=⟨aj _⟩
theorem bn (a:String):ag P (stuck a:Sem α):=bd _ trivial
instance (a:String):Nt P (stuck a:Sem α):=⟨bn _⟩
theorem fu (a:Unsupported) (h:pL (.unsupported a)):ag P (unsupported a:Sem α):=bd _ h
theorem wX (a:String):ag P (unsupported (.noEntry a):Sem α):=bd _ trivial
instance (a:String):Nt P (unsupported (.noEntry a):Sem α):=⟨wX _⟩
theorem wW (a:String):ag P (unsupported (.unsafePointer a):Sem α):=bd _ trivial
instance (a:String):Nt P (unsupported (.unsafePointer a):Sem α):=⟨wW _⟩
theorem oV (a:String):ag P (unsupported (.resourceLimit a):Sem α):=bd _ trivial
instance (a:String):Nt P (unsupported (.resourceLimit a):Sem α):=⟨oV _⟩
theorem wY:ag P (unsupported .addressObserved:Sem α):=bd _ trivial
instance:Nt P (unsupported .addressObserved:Sem α):=⟨wY⟩
theorem vk (a:M'):ag P (goPanic a:Sem α):=bd _ trivial
instance (a:M'):Nt P (goPanic a:Sem α):=⟨vk _⟩
theorem gW:ag P program:=vd _ (bo _)
instance:Nt P program:=⟨gW⟩
theorem bE {s s':Sem α} (h:∀w es,s.runT P w es=s'.runT P w es) (hs:ag P s'):ag P s:=by
 intro wl w es h0 h1
 refine ⟨by rw [h];exact (hs wl w es h0 h1).1,fun h2 h3=> ?_⟩
 rw [h] at h2 h3
 obtain ⟨w',k⟩:=(hs wl w es h0 h1).2 h2 h3
 exact ⟨w',by rw [h,h];exact k.run,by rw [h];exact k.weak,by rw [h];exact k.mono,by rw [h];exact k.drawn,k.upd,by rw [h];exact k.gR,by rw [h];exact k.evs,fun hh=>by rw [h];exact k.heap hh⟩
theorem gV (t:Q'):ag P (typeInfo t):=by
 unfold typeInfo
 refine af gW fun p=> ?_
 split
 ·exact bo _
 ·exact bd _ trivial
instance (t:Q'):Nt P (typeInfo t):=⟨gV _⟩
theorem cE (t:Q'):ag P (underlying t):=by
 unfold underlying
 refine af gW fun p=> ?_
 split
 ·exact bo _
 ·exact bd _ trivial
instance (t:Q'):Nt P (underlying t):=⟨cE _⟩
theorem bf (t:Q') {f:TypeDesc->Sem α} (h:∀d,P.underlying t=some d->ag P (f d)):ag P (underlying t>>=f):=by
 cases hu:P.underlying t with
 |none=>
  refine bE (s':=Sem.halt (.stuck "no such type")) (fun w es=> ?_) (bd _ trivial)
  show ((underlying t).bind f).runT P w es=_
  rw [Sem.runT_bind']
  have:(underlying t).runT P w es=(.halt (.stuck "no such type") w,es):=by
   show ((Sem.program Sem.pure).bind _).runT P w es=_
   simp only [Sem.bind,Sem.runT,hu]
   rfl
  rw [this];rfl
 |some d=>
  refine bE (s':=f d) (fun w es=> ?_) (h d hu)
  show ((underlying t).bind f).runT P w es=_
  rw [Sem.runT_bind']
  have:(underlying t).runT P w es=(.ok d w,es):=by
   show ((Sem.program Sem.pure).bind _).runT P w es=_
   simp only [Sem.bind,Sem.runT,hu]
   rfl
  rw [this]
theorem gI (t:Q'):ag P (sizeOf t):=af (gV t) fun _=>bo _
instance (t:Q'):Nt P (sizeOf t):=⟨gI _⟩
theorem lO (t:Q'):ag P (zeroValue t):=by
 unfold zeroValue
 refine af (gV t) fun p=> ?_
 split
 ·exact bo _
 ·exact bd _ trivial
instance (t:Q'):Nt P (zeroValue t):=⟨lO _⟩
theorem mg (t:Q'):ag P (isAgg t):=by
 unfold isAgg
 refine af (cE t) fun p=> ?_
 split<;>exact bo _
instance (t:Q'):Nt P (isAgg t):=⟨mg _⟩
theorem Ap (t:Q') (cs:Array M') (off:Nat):ag P (part t cs off):=by
 unfold part
 refine af (mg t) fun b=> ?_
 split
 ·exact af (gI t) fun _=>bo _
 ·split
  ·exact bo _
  ·exact bd _ trivial
instance (t:Q') (cs:Array M') (off:Nat):Nt P (part t cs off):=⟨Ap _ _ _⟩
theorem jC (a:z_):∀(n i:Nat) (acc:Array M'),ag P (loadCellsFrom a i n acc)
 |0,_,_=>bo _
 |n+1,i,acc=>af (nL _) fun v=>jC a n (i+1) (acc.push v)
theorem lR (a:z_) (n:Nat):ag P (loadCells a n):=jC a n 0 #[]
instance (a:z_) (n:Nat):Nt P (loadCells a n):=⟨lR _ _⟩
theorem eE (a:z_):∀(vs:List M') (i:Nat),ag P (storeCells a vs i)
 |[],_=>bo _
 |_::rest,i=>af (qC _ _) fun _=>eE a rest (i+1)
instance (a:z_) (vs:List M') (i:Nat):Nt P (storeCells a vs i):=⟨eE _ _ _⟩
theorem oh (t:Q') (a:z_):ag P (loadVar t a):=by
 unfold loadVar
 refine af (mg t) fun b=> ?_
 split
 ·exact af (gI t) fun n=>af (lR a n) fun _=>bo _
 ·exact nL a
instance (t:Q') (a:z_):Nt P (loadVar t a):=⟨oh _ _⟩
theorem tG (t:Q') (a:z_) (v:M'):ag P (storeVar t a v):=by
 unfold storeVar
 refine af (gI t) fun n=> ?_
 split
 ·exact af (bd _ trivial) fun _=>eE a _ 0
 ·exact eE a _ 0
instance (t:Q') (a:z_) (v:M'):Nt P (storeVar t a v):=⟨tG _ _ _⟩
theorem oY (t:Q') (c:Array M'):ag P (newRow t c):=af (eZ _ rfl) fun _=>bo _
instance (t:Q') (c:Array M'):Nt P (newRow t c):=⟨oY _ _⟩
theorem oX (t:Q') (v:M'):ag P (newVar t v):=oY t _
instance (t:Q') (v:M'):Nt P (newVar t v):=⟨oX _ _⟩
theorem xe (t:Q'):ag P (elemOf t):=by
 unfold elemOf
 refine af (cE t) fun d=> ?_
 split
 ·exact bo _
 ·exact bd _ trivial
theorem cF (e:RuntimeError):ag P (runtimePanic e:Sem α):=by
 unfold runtimePanic
 refine af gW fun p=> ?_
 cases e<;>first
  |exact bd _ trivial
  |(refine af (xe _) fun t=>af (oX _ _) fun _=>bd _ trivial)
instance (e:RuntimeError):Nt P (runtimePanic e:Sem α):=⟨cF _⟩
theorem qk (k:IntKind) (x y:Int) (c:BoundsCode):ag P (boundsPanic k x y c:Sem α):=by
 unfold boundsPanic
 simp only []
 split
 ·exact af (dZ (lg _)) fun s=>cF _
 ·exact af (bo _) fun s=>cF _
instance (k:IntKind) (x y:Int) (c:BoundsCode):Nt P (boundsPanic k x y c:Sem α):=⟨qk _ _ _ _⟩
theorem oi (v:M'):ag P (asIntOf v):=by
 unfold asIntOf
 split<;>first|exact bo _|exact bd _ trivial
instance (v:M'):Nt P (asIntOf v):=⟨oi _⟩
theorem jP (v:M'):ag P (asInt v):=af (oi v) fun _=>bo _
instance (v:M'):Nt P (asInt v):=⟨jP _⟩
theorem lj (v:M'):ag P (asBool v):=by
 unfold asBool
 split<;>first|exact bo _|exact bd _ trivial
instance (v:M'):Nt P (asBool v):=⟨lj _⟩
theorem yx (v:M'):ag P (asAgg v):=by
 unfold asAgg
 split<;>first|exact bo _|exact bd _ trivial
instance (v:M'):Nt P (asAgg v):=⟨yx _⟩
theorem pd (v:M'):ag P (asAddr v):=by
 unfold asAddr
 split<;>first|exact bo _|exact bd _ trivial|exact cF _
instance (v:M'):Nt P (asAddr v):=⟨pd _⟩
theorem tE (v:M'):ag P (Instr.sureAddr v):=by
 unfold Instr.sureAddr
 split<;>first|exact bo _|exact bd _ trivial
instance (v:M'):Nt P (Instr.sureAddr v):=⟨tE _⟩
theorem vx (n:Nat):ag P (askRoom n):=by
 unfold askRoom
 split
 ·exact oW
 ·exact bo _
instance (n:Nat):Nt P (askRoom n):=⟨vx _⟩
theorem yy (t:Q') (b:Bool) (v:M'):ag P (Instr.alloc t b v):=by
 unfold Instr.alloc
 try simp only []
 all_goals exact nt
theorem Cq (t:Q') (v:M'):ag P (Instr.box t v):=by
 unfold Instr.box
 try simp only []
 all_goals exact nt
theorem xb (t:Q') (v:M'):ag P (Instr.loadAt t v):=by
 unfold Instr.loadAt
 try simp only []
 all_goals exact nt
theorem uZ (t:Q') (a v:M'):ag P (Instr.storeAt t a v):=by
 unfold Instr.storeAt
 try simp only []
 all_goals exact nt
theorem vh (t:Q') (a v:M'):ag P (Instr.indexAt t a v):=by
 unfold Instr.indexAt
 try simp only []
 all_goals exact nt
theorem yq (t:Q') (a v:M'):ag P (Instr.index t a v):=by
 unfold Instr.index
 try simp only []
 all_goals exact nt
theorem yr (t:Q') (a:M') (n:Nat):ag P (Instr.field t a n):=by
 unfold Instr.field
 try simp only []
 all_goals exact nt
theorem vn (a:M') (n:Nat):ag P (Instr.extract a n):=by
 unfold Instr.extract
 try simp only []
 all_goals exact nt
theorem r9 (t:Q') (a b:M'):ag P (Instr.makeSlice t a b):=by
 unfold Instr.makeSlice
 try simp only []
 all_goals exact nt
theorem qU (a:M') (n:Nat) (c:BoundsCode):ag P (Instr.sliceBound a n c):=by
 unfold Instr.sliceBound
 try simp only []
 all_goals exact nt
instance (a:M') (n:Nat) (c:BoundsCode):Nt P (Instr.sliceBound a n c):=⟨qU _ _ _⟩
theorem qg (s:Bool) (l c:Nat) (x y z:Option M'):ag P (Instr.sliceBounds s l c x y z):=by
 unfold Instr.sliceBounds
 try simp only []
 all_goals exact nt
instance (s:Bool) (l c:Nat) (x y z:Option M'):Nt P (Instr.sliceBounds s l c x y z):=⟨qg _ _ _ _ _ _⟩
theorem ym (t:Q') (v:M') (x y z:Option M'):ag P (Instr.slice t v x y z):=by
 unfold Instr.slice
 try simp only []
 all_goals exact nt
instance (t:Q') (v:M') (x y z:Option M'):Nt P (Instr.slice t v x y z):=⟨ym _ _ _ _ _⟩
theorem vc (t:Q') (v:M') (x y z:Option M'):ag P (Instr.sliceAt t v x y z):=by
 unfold Instr.sliceAt
 try simp only []
 all_goals exact nt
theorem tJ (op:BinOp) (k:IntKind) (x y:Int):ag P (Op.intArith op k x y):=by
 unfold Op.intArith
 try simp only []
 all_goals exact nt
instance (op:BinOp) (k:IntKind) (x y:Int):Nt P (Op.intArith op k x y):=⟨tJ _ _ _ _⟩
theorem xc (op:BinOp) (k:IntKind) (x y:Int):ag P (Op.intDiv op k x y):=by
 unfold Op.intDiv
 try simp only []
 all_goals exact nt
instance (op:BinOp) (k:IntKind) (x y:Int):Nt P (Op.intDiv op k x y):=⟨xc _ _ _ _⟩
theorem xd (op:BinOp) (x y:Int):ag P (Op.intCmp op x y):=by
 unfold Op.intCmp
 try simp only []
 all_goals exact nt
instance (op:BinOp) (x y:Int):Nt P (Op.intCmp op x y):=⟨xd _ _ _⟩
theorem vg (op:BinOp) (k:IntKind) (x y:Int):ag P (Op.intBits op k x y):=by
 unfold Op.intBits
 try simp only []
 all_goals exact nt
instance (op:BinOp) (k:IntKind) (x y:Int):Nt P (Op.intBits op k x y):=⟨vg _ _ _ _⟩
theorem yn (op:BinOp) (k k':IntKind) (x y:Int):ag P (Op.shift op k x k' y):=by
 unfold Op.shift
 try simp only []
 all_goals exact nt
instance (op:BinOp) (k k':IntKind) (x y:Int):Nt P (Op.shift op k x k' y):=⟨yn _ _ _ _ _⟩
theorem tF (op:BinOp) (x y:ByteArray):ag P (Op.stringOp op x y):=by
 unfold Op.stringOp
 try simp only []
 all_goals exact nt
instance (op:BinOp) (x y:ByteArray):Nt P (Op.stringOp op x y):=⟨tF _ _ _⟩
theorem yl (op:UnOp) (x:M'):ag P (Op.unary op x):=by
 unfold Op.unary
 try simp only []
 all_goals exact nt
theorem yp (x:M'):ag P (Builtin.lenOf x):=by
 unfold Builtin.lenOf
 try simp only []
 all_goals exact nt
instance (x:M'):Nt P (Builtin.lenOf x):=⟨yp _⟩
theorem qX (s n:Nat) (x:M'):ag P (Builtin.firstCells s n x):=by
 unfold Builtin.firstCells
 try simp only []
 all_goals exact nt
instance (s n:Nat) (x:M'):Nt P (Builtin.firstCells s n x):=⟨qX _ _ _⟩
theorem Co (t:Array Q') (u:Q') (a:Array M'):ag P (Builtin.len_ t u a):=by
 unfold Builtin.len_
 try simp only []
 all_goals exact nt
theorem Cp (t:Array Q') (u:Q') (a:Array M'):ag P (Builtin.cap_ t u a):=by
 unfold Builtin.cap_
 try simp only []
 all_goals exact nt
theorem Au (t:Array Q') (u:Q') (a:Array M'):ag P (Builtin.copy_ t u a):=by
 unfold Builtin.copy_
 try simp only []
 all_goals exact nt
theorem Aq (a b:M'):ag P (Builtin.min2 a b):=by
 unfold Builtin.min2
 try simp only []
 all_goals exact nt
theorem Ar (a b:M'):ag P (Builtin.max2 a b):=by
 unfold Builtin.max2
 try simp only []
 all_goals exact nt
theorem kY {f:M'->α->Sem M'} (h:∀x y,ag P (f x y)):∀(l:List α) (x:M'),ag P (l.foldlM f x)
 |[],_=>bo _
 |a::l,x=>by rw [List.foldlM_cons];exact af (h x a) fun y=>kY h l y
theorem Cm (t:Array Q') (u:Q') (a:Array M'):ag P (Builtin.min_ t u a):=by
 unfold Builtin.min_
 split
 ·exact bd _ trivial
 ·exact kY Aq _ _
theorem Cn (t:Array Q') (u:Q') (a:Array M'):ag P (Builtin.max_ t u a):=by
 unfold Builtin.max_
 split
 ·exact bd _ trivial
 ·exact kY Ar _ _
theorem fL {c:Prop} [Decidable c] {y:Sem α} (h1:c->ag P x) (h2:¬c->ag P y):ag P (if c then x else y):=by
 split
 ·exact h1 ‹_›
 ·exact h2 ‹_›
variable {k:Option (Q' × Nat)->Sem α}
theorem fP (r:Nat) (h:∀s,ag P (k s)) (hn:∀e n n',k (some (e,n))=k (some (e,n'))):ag P (shape r>>=k):=by
 intro wl w es h0 hw
 have e:∀u:J',(shape r>>=k).runT P u es=(k (u.shape? r)).runT P u es:=fun u=>by
  show ((shape r).bind k).runT P u es=_
  rw [Sem.runT_bind'];rfl
 refine ⟨by rw [e];exact (h (wl.shape? r) wl w es h0 hw).1,fun fg ff=> ?_⟩
 have hk:k (w.shape? r)=k (wl.shape? r):=by
  unfold World.shape?
  cases hr:wl.heap[r]? with
  |none=>
   have:w.heap[r]?=none:=by
    rw [Array.getElem?_eq_none_iff] at hr ⊢;rw [<-hw.size];exact hr
   rw [this]
  |some o=>
   obtain ⟨o',h1,h2⟩:=hw.get hr
   rw [h1]
   cases h2 with
   |same=>rfl
   |blind hb=>cases hb<;>rfl
   |cut g1 g2 g3=>exact hn _ _ _
 rw [e] at fg ff
 obtain ⟨w',hs⟩:=(h (wl.shape? r) wl w es h0 hw).2 fg ff
 exact ⟨w',by rw [e,e,hk];exact hs.run,by rw [e];exact hs.weak,by rw [e];exact hs.mono,by rw [e];exact hs.drawn,hs.upd,by rw [e];exact hs.gR,by rw [e];exact hs.evs,fun hh=>by rw [e];exact hs.heap hh⟩
theorem kp (r:Nat) {f:Option (z_ × Q')->Sem α} (h:∀v,ag P (f v)) (hs:∀v v',f (some v)=f (some v')):ag P (viewAt r>>=f):=by
 unfold viewAt
 simp only [bind_assoc]
 refine fP r (fun s=> ?_) (fun _ _ _=>rfl)
 split
 ·simp only [pure_bind];exact h _
 ·simp only [bind_assoc]
  refine cJ r (fun o ho=> ?_) (fun o o' hb=>by cases hb<;>first|exact .inl (hs _ _)|exact .inl rfl)
  split<;>(simp only [pure_bind];exact (h _).c)
theorem mH (r:Nat):ag P (numberAt r):=by
 unfold numberAt
 refine fP r (fun s=> ?_) (fun _ _ _=>rfl)
 split
 ·exact aj _
 ·refine cJ r (fun o ho=> ?_) (fun o o' hb=>by cases hb<;>first|exact .inl rfl|exact .inr fun _ _ h=>h)
  split<;>exact (aj _).c
instance (r:Nat):Nt P (numberAt r):=⟨mH _⟩
theorem o9 (a:z_):ag P (behindNumber a):=af (mH _) fun _=>aj _
instance (a:z_):Nt P (behindNumber a):=⟨o9 _⟩
theorem wZ (a:z_):ag P (noView a):=by
 unfold noView
 refine kp _ (fun b=> ?_) (fun _ _=>rfl)
 split
 ·exact fu _ trivial
 ·exact aj _
theorem lh (a:z_):ag P (byteOf a):=by
 unfold byteOf
 split
 ·exact aj _
 refine af gW fun p=>af (wZ a) fun _=>fP _ (fun s=> ?_) (fun _ _ _=>rfl)
 split
 ·simp only []
  split
  ·exact aj _
  ·split
   ·exact aj _
   ·exact bn _
 ·exact bn _
instance (a:z_):Nt P (byteOf a):=⟨lh _⟩
theorem qY (a:z_) (f:Field):ag P (fieldPlace a f):=by
 unfold fieldPlace partAt
 refine af (gI _) fun n=> ?_
 split
 ·exact af (lh _) fun _=>af (lh _) fun _=>aj _
 ·exact aj _
instance (a:z_) (f:Field):Nt P (fieldPlace a f):=⟨qY _ _⟩
theorem gp {f:α->β->Sem (ForInStep β)} (h:∀a b,ag P (f a b)):∀(l:List α) (b:β),ag P (forIn l b f)
 |[],b=>by rw [List.forIn_nil];exact aj _
 |a::l,b=>by
  rw [List.forIn_cons]
  refine af (h a b) fun s=> ?_
  cases s with
  |done b'=>exact aj _
  |yield b'=>exact gp h l b'
theorem jg {f:α->β->Sem (ForInStep β)} (h:∀a b,ag P (f a b)) (l:Array α) (b:β):ag P (forIn l b f):=by
 rw [<-Array.forIn_toList];exact gp h _ _
theorem jf {f:Nat->β->Sem (ForInStep β)} (h:∀a b,ag P (f a b)) (r:Std.Legacy.Range) (b:β):ag P (forIn r b f):=by
 rw [Std.Legacy.Range.forIn_eq_forIn_range'];exact gp h _ _
theorem r8 {f:α->Sem β} (h:∀a,ag P (f a)):∀(l:List α),ag P (l.mapM f)
 |[]=>by rw [List.mapM_nil];exact aj _
 |a::l=>by rw [List.mapM_cons];exact af (h a) fun _=>af (r8 h l) fun _=>aj _
theorem jO {f:α->Sem β} (h:∀a,ag P (f a)) (l:Array α):ag P (l.mapM f):=by
 rw [Array.mapM_eq_mapM_toList];exact dZ (r8 h _)
def Du {α:Type} (P:U') (s:Sem α):Prop:=∀w es,¬rE (s.runT P w es).1/\LM (s.runT P w es).1
def Calm {α:Type} (P:U') (s:Sem α):Prop:=∀w es h w',(s.runT P w es).1≠.halt h w'
theorem At {s:Sem α} (h:Du P s):ag P s:=fun wl _ es _ _=>⟨(h wl es).2,fun hf _=>absurd hf (h wl es).1⟩
theorem E8 (a:String):Du P (unsupported (.resourceLimit a):Sem α):=fun _ _=>⟨fun h=>h,trivial⟩
theorem zE {f:α->Sem β} (hx:Calm P x) (hf:∀a,Du P (f a)):Du P (x>>=f):=by
 intro w es
 have e:=Sem.runT_bind' P x f w es
 change ¬rE ((x.bind f).runT P w es).1/\LM ((x.bind f).runT P w es).1
 rw [e]
 cases hr:x.runT P w es with
 |mk r es'=>
  cases r with
  |ok a w'=>exact hf a w' es'
  |halt hh w'=>exact absurd (by rw [hr]) (hx w es hh w')
theorem zK {f:α->Sem β} (hx:Calm P x) (hf:∀a,Calm P (f a)):Calm P (x>>=f):=by
 intro w es v SW h
 have e:=Sem.runT_bind' P x f w es
 change ((x.bind f).runT P w es).1=_ at h
 rw [e] at h
 cases hr:x.runT P w es with
 |mk r es'=>
  rw [hr] at h
  cases r with
  |ok a w'=>exact hf a w' es' v SW h
  |halt hh w'=>exact absurd (by rw [hr]) (hx w es hh w')
theorem zJ (a:α):Calm P (Pure.pure a:Sem α):=fun _ _ _ _ h=>by cases h
theorem Fe (r:Nat):Calm P (shape r):=fun _ _ _ _ h=>by cases h
theorem Dm (a:z_):Calm P (frozen a):=fun _ _ _ _ h=>by cases h
theorem Dl:Calm P (mark .noRoom):=fun _ _ _ _ h=>by cases h
theorem vN (a:z_) (n:Nat):Calm P (Builtin.holdsCells a n):=by
 unfold Builtin.holdsCells
 refine zK (Fe _) fun s=> ?_
 split<;>exact zJ _
theorem yS (a b c:Nat) (d:Option z_) (v:M'):Calm P (Builtin.mayShare a b c d v):=by
 unfold Builtin.mayShare
 simp only []
 repeat' first
  |with_reducible exact zJ _
  |with_reducible exact vN _ _
  |with_reducible exact Dm _
  |with_reducible refine zK ?_ fun _=> ?_
  |split
theorem vm (t:Q') (a:M') (n:Nat):ag P (Instr.fieldAt t a n):=by
 unfold Instr.fieldAt
 try simp only []
 all_goals exact nt
theorem yv (t:Q') (ps:Array (Nat × M')):ag P (Instr.build t ps):=by
 unfold Instr.build
 try simp only []
 all_goals exact nt
theorem qZ (t:Q') (n:Nat) (ps:Array (Nat × M')):ag P (Instr.buildSlice t n ps):=by
 unfold Instr.buildSlice
 try simp only []
 all_goals exact nt
theorem vf (t:Q') (r:Option M'):ag P (Instr.makeMap t r):=by
 unfold Instr.makeMap
 cases r with
 |none=>exact af (eZ _ rfl) fun _=>aj _
 |some h=>
  refine af (cE _) fun d=> ?_
  split
  ·exact af (jP _) fun _=>af (eZ _ rfl) fun _=>aj _
  ·exact bn _
theorem tI (t:Q') (v:M'):ag P (Instr.makeChan t v):=by
 unfold Instr.makeChan
 refine af (jP _) fun n=>af (cE _) fun d=> ?_
 split
 ·refine af (gV _) fun i=> ?_
  split
  ·exact af (cF _) fun _=>af (eZ _ rfl) fun _=>aj _
  ·exact af (eZ _ rfl) fun _=>aj _
 ·exact bn _
theorem oC (t:Q') (v:M'):ag P (Instr.makeInterface t v):=by
 unfold Instr.makeInterface
 refine af (cE _) fun d=> ?_
 split
 ·exact bn _
 ·exact aj _
theorem oD (v:M'):ag P (Conv.bytesToString v):=by
 unfold Conv.bytesToString
 try simp only []
 all_goals exact nt
def rN:TypeDesc->Bool
 | .bool| .int _| .string| .chan ..=>true
 |_=>false
def iG (P:U') (t:Q'):Bool:=(P.underlying t).any rN
theorem vp {t:Q'} (ht:iG P t=true) (n:Nat) (x y:M'):ag P (Op.equalIn (n+1) t x y):=by
 unfold Op.equalIn
 refine bf t fun d hd=> ?_
 have hs:rN d=true:=by simpa [iG,hd] using ht
 split<;>first
  |(simp [rN] at hs;done)
  |skip
 all_goals exact nt
theorem qD {t:Q'} (ht:iG P t=true) (x y:M'):ag P (Op.equal t x y):=vp ht 9999 x y
theorem gX {t:Q'} (ht:iG P t=true) (b:Bool) (n:Nat) (x:M'):ag P (Instr.checkKey b (n+1) t x):=by
 unfold Instr.checkKey
 refine bf t fun d hd=> ?_
 have hs:rN d=true:=by simpa [iG,hd] using ht
 split<;>first
  |(simp [rN] at hs;done)
  |exact aj _
theorem lf {t:Q'} (ht:iG P t=true) (k:M'):∀(l:List MapEntry) (i:Nat),ag P (Instr.findAsking t k l i)
 |[],_=>aj _
 |e::l,i=>by
  unfold Instr.findAsking
  refine af (qD ht _ _) fun b=> ?_
  split
  ·exact aj _
  ·exact lf ht k l (i+1)
theorem kg {t:Q'} (ht:iG P t=true) (k:M') (l:List MapEntry):ag P (Instr.findKey t k l):=by
 unfold Instr.findKey
 refine af (cE _) fun d=> ?_
 split
 ·exact aj _
 ·exact lf ht k l 0
def iR (P:U') (t:Q'):Bool:=match P.underlying t with|some (.map k _)=>iG P k|_=>true
theorem xa {t:Q'} (ht:iR P t=true) (x i:M') (b:Bool):ag P (Instr.lookup t x i b):=by
 unfold Instr.lookup
 refine bf t fun d hd=> ?_
 split
 ·rename_i key elem
  have hk:iG P key=true:=by simpa [iR,hd] using ht
  repeat' first|(with_reducible first|exact Nt.out|assumption|refine cV _ (fun _=> ?_) (fun _ _ b=>by cases b<;>first|exact .inl rfl|exact .inr fun _ _ h=>h)|refine af ?_ fun _=> ?_|refine dZ ?_|refine fL (fun _=> ?_) (fun _=> ?_)|refine jg (fun _ _=> ?_) _ _|refine jf (fun _ _=> ?_) _ _|refine gp (fun _ _=> ?_) _ _|refine jO (fun _=> ?_) _|exact gX hk _ 9999 _|exact kg hk _ _)|split
 ·exact bn _
theorem ln {r:Nat} {f:α->Sem β} (hx:ag P x) (hf:∀a,x9 P (fun w=>r<w.heap.size/\xZ r w) (f a)):x9 P (fun w=>r<w.heap.size/\xZ r w) (x>>=f):=mK (jN r) hx.c hf
theorem tM {C C':J'->Prop} {s:Sem α} (h:x9 P C s) (hc:∀w,C' w->C w):x9 P C' s:=fun wl w es h0=>h wl w es (hc _ h0)
theorem tD {r:Nat} {o:Obj} (h:isMap o=true):∀w:J',w.heap[r]?=some o->r<w.heap.size/\xZ r w:=fun w hw=>⟨(cI hw),fun o' ho=>by rw [hw] at ho;cases ho;exact h⟩
theorem oZ (a b:M'):ag P (Instr.keyThatStays a b):=by
 unfold Instr.keyThatStays
 all_goals exact nt
theorem lQ {t:Q'} (ht:iR P t=true) (m k v:M'):ag P (Instr.mapUpdate t m k v):=by
 unfold Instr.mapUpdate
 refine bf t fun d hd=> ?_
 split
 ·rename_i key elem
  have hk:iG P key=true:=by simpa [iR,hd] using ht
  split
  ·exact cF _
  ·rename_i r
   refine cJ r (fun o ho=> ?_) (fun o o' hb=>by cases hb<;>first|exact .inl rfl|exact .inr fun _ _ h=>h)
   split
   ·rename_i es clock
    refine tM ?_ (tD (r:=r) (o:=.map es clock) rfl)
    refine ln (gX hk _ 9999 _) fun _=>ln (kg hk _ _) fun q=> ?_
    split
    ·exact ln (oZ _ _) fun _=>jU r _ rfl rfl rfl rfl
    ·exact jU r _ rfl rfl rfl rfl
   ·exact (bn _).c
  ·exact bn _
 ·exact bn _
theorem xf {ts:Array Q'} (ht:∀t,ts[0]?=some t->iR P t=true) (u:Q') (a:Array M'):ag P (Builtin.delete_ ts u a):=by
 unfold Builtin.delete_
 split
 ·rename_i t m k heq
  have h1:ts[0]?=some t:=(Prod.mk.inj heq).1
  refine bf t fun d hd=> ?_
  split
  ·rename_i key elem
   have hk:iG P key=true:=by simpa [iR,hd] using ht t h1
   split
   ·exact af (gX hk _ 9999 _) fun _=>aj _
   ·rename_i r
    show ag P ((getObj r).bind _)
    refine cJ r (fun o ho=> ?_) (fun o o' hb=>by cases hb<;>first|exact .inl rfl|exact .inr fun _ _ h=>h)
    split
    ·rename_i es clock
     refine tM ?_ (tD (r:=r) (o:=.map es clock) rfl)
     refine ln (gX hk _ 9999 _) fun _=>ln (kg hk _ _) fun q=> ?_
     split
     ·exact mK (jN r) (jU r _ rfl rfl rfl rfl) fun _=>(aj _).c
     ·exact mK (jN r) (jU r _ rfl rfl rfl rfl) fun _=>(aj _).c
    ·exact (bn _).c
   ·exact bn _
  ·exact bn _
 ·exact bn _
theorem yo (t:Q') (x:M'):ag P (Instr.range t x):=by
 unfold Instr.range
 refine af (cE t) fun d=> ?_
 split
 ·simp only [pure_bind];exact af (eZ _ rfl) fun _=>aj _
 ·simp only [pure_bind];exact af (eZ _ rfl) fun _=>aj _
 ·refine cJ _ (fun o ho=> ?_) (fun o o' hb=>by cases hb<;>first|exact .inl rfl|exact .inr fun _ _ h=>h)
  split
  ·simp only [pure_bind];exact (af (eZ _ rfl) fun _=>aj _).c
  ·exact (bn _).c
 ·exact bE (s':=Sem.halt (.stuck "Range: string or map expected")) (fun _ _=>rfl) (bd _ trivial)
theorem Lr {c:Prop} [Decidable c] {y:Sem α} (h1:Du P x) (h2:Du P y):Du P (if c then x else y):=by
 split
 ·exact h1
 ·exact h2
theorem xh (ts:Array Q') (u:Q') (a:Array M'):ag P (Builtin.append_ ts u a):=by
 unfold Builtin.append_
 simp only []
 repeat' first|(with_reducible first|exact Nt.out|refine At (zE (yS _ _ _ _ _) fun _=> ?_)|exact E8 _|refine Lr ?_ ?_|refine zE Dl fun _=> ?_|assumption|refine cV _ (fun _=> ?_) (fun _ _ b=>by cases b<;>first|exact .inl rfl|exact .inr fun _ _ h=>h)|refine af ?_ fun _=> ?_|refine dZ ?_|refine fL (fun _=> ?_) (fun _=> ?_)|refine jg (fun _ _=> ?_) _ _|refine jf (fun _ _=> ?_) _ _|refine gp (fun _ _=> ?_) _ _|refine jO (fun _=> ?_) _)|split
theorem fO (a:Unsupported) (f:α->Sem β) (h:pL (.unsupported a)):ag P (unsupported a>>=f):=bE (s':=Sem.halt (.unsupported a)) (fun _ _=>rfl) (bd _ h)
theorem qe (a:String) (f:α->Sem β):ag P (unsupported (.noEntry a)>>=f):=fO _ _ trivial
instance {α β:Type} (a:String) (f:α->Sem β):Nt P (unsupported (.noEntry a)>>=f):=⟨qe _ _⟩
theorem qc (a:String) (f:α->Sem β):ag P (unsupported (.unsafePointer a)>>=f):=fO _ _ trivial
instance {α β:Type} (a:String) (f:α->Sem β):Nt P (unsupported (.unsafePointer a)>>=f):=⟨qc _ _⟩
theorem qd (a:String) (f:α->Sem β):ag P (unsupported (.resourceLimit a)>>=f):=fO _ _ trivial
instance {α β:Type} (a:String) (f:α->Sem β):Nt P (unsupported (.resourceLimit a)>>=f):=⟨qd _ _⟩
theorem qf (f:α->Sem β):ag P (unsupported .addressObserved>>=f):=fO _ _ trivial
instance {α β:Type} (f:α->Sem β):Nt P (unsupported .addressObserved>>=f):=⟨qf _⟩
theorem qT (a:String) (f:α->Sem β):ag P (stuck a>>=f):=bE (s':=Sem.halt (.stuck a)) (fun _ _=>rfl) (bd _ trivial)
instance {α β:Type} (a:String) (f:α->Sem β):Nt P (stuck a>>=f):=⟨qT _ _⟩
theorem qW (s:FloatKind) (b:Nat) (k:IntKind):ag P (Conv.floatToInt s b k):=by
 unfold Conv.floatToInt
 simp only []
 all_goals exact nt
theorem qj {src dst:Q'} {k k':IntKind} (h1:P.underlying src=some (.int k)) (h2:P.underlying dst=some (.int k')) (x:M'):ag P (convert src dst x):=by
 unfold convert
 refine bf src fun d hd=>bf dst fun d' HG=> ?_
 rw [h1] at hd;rw [h2] at HG;cases hd;cases HG
 split<;>first
  |exact aj _
  |exact fu _ trivial
  |(simp_all;done)
  |(rename_i h;cases h;done)
  |(rename_i h;cases h;exact qW _ _ _)
theorem qh {src dst e:Q'} (h1:P.underlying src=some (.slice e)) (h2:P.underlying dst=some .string) (h3:P.underlying e=some (.int .u8)) (x:M'):ag P (convert src dst x):=by
 unfold convert
 refine bf src fun d hd=>bf dst fun d' HG=> ?_
 rw [h1] at hd;rw [h2] at HG;cases hd;cases HG
 split
 all_goals first
  |exact aj _
  |exact fu _ trivial
  |(simp_all;done)
  |(rename_i h;cases h;done)
  |(rename_i HQ WR;cases HQ;cases WR;done)
  |(refine bf _ fun d hd=> ?_
    simp_all
    exact oD _)
  |skip
def MP (P:U') (t:Q') (x y:Operand):Bool:=
 iG P t||(match P.underlying t with
  |some (.pointer _)=>(match x,y with
   | .const (.pointer none),_|_,.const (.pointer none)=>true
   |_,_=>false)
  |some (.slice _)|some (.map _ _)=>true
  |_=>false)
theorem tK {t:Q'} {x y:Operand} (h:MP P t x y=true) (a:Act):ag P (Op.equal t (a.eval x) (a.eval y)):=by
 unfold MP at h
 rcases (Bool.or_eq_true_iff.1 h) with h|h
 ·exact qD h _ _
 ·show ag P (Op.equalIn (9999+1) t _ _)
  unfold Op.equalIn
  refine bf t fun d hd=> ?_
  rw [hd] at h
  cases d<;>simp only [Bool.false_eq_true] at h
  ·split at h
   ·simp only [Act.eval]
    split<;>first|exact aj _|exact bn _|(simp_all;done)|skip
   ·simp only [Act.eval]
    split<;>first|exact aj _|exact bn _|(simp_all;done)|skip
   ·cases h
  ·split<;>first|exact aj _|exact bn _|(simp_all;done)
  ·split<;>first|exact aj _|exact bn _|(simp_all;done)
theorem lS:∀(n:Nat) (t:Q') (x y:M'),ag P (Op.eqGuardIn n t x y)
 |0,_,_,_=>oV _
 |n+1,t,x,y=>by
  have ih:=fun t x y=>lS n t x y
  unfold Op.eqGuardIn
  repeat' first|(with_reducible first|exact Nt.out|assumption|refine cV _ (fun _=> ?_) (fun _ _ b=>by cases b<;>first|exact .inl rfl|exact .inr fun _ _ h=>h)|refine af ?_ fun _=> ?_|refine dZ ?_|refine fL (fun _=> ?_) (fun _=> ?_)|exact ih _ _ _|refine jg (fun _ _=> ?_) _ _|refine jf (fun _ _=> ?_) _ _)|split
  all_goals (dsimp only;split<;>exact aj _)
instance (n:Nat) (t:Q') (x y:M'):Nt P (Op.eqGuardIn n t x y):=⟨lS _ _ _ _⟩
theorem vq (op:BinOp) (t:Q') (x y:Operand) (a b:M'):ag P (eqGuard op t x y a b):=by
 unfold eqGuard
 all_goals exact nt
def JB (P:U') (op:BinOp) (t:Q') (x y:Operand):Bool:=
 match op with
 | .eql| .neq=>MP P t x y
 |_=>match P.underlying t with
  |some (.int _)|some .string=>true
  |_=>false
theorem Eo {t:Q'} {d:TypeDesc} (h:(match P.underlying t with|some (.int _)|some .string=>true|_=>false)=true) (hd:P.underlying t=some d):d≠.unsafePointer:=by
 rintro rfl;rw [hd] at h;cases h
theorem kZ (op:BinOp) (k:FloatKind) (x y:Nat):ag P (Op.floatArith op k x y):=by
 unfold Op.floatArith
 simp only []
 all_goals exact nt
instance (op:BinOp) (k:FloatKind) (x y:Nat):Nt P (Op.floatArith op k x y):=⟨kZ _ _ _ _⟩
theorem mJ (op:BinOp) (k:FloatKind) (x y:Nat):ag P (Op.floatCmp op k x y):=by
 unfold Op.floatCmp
 simp only []
 all_goals exact nt
instance (op:BinOp) (k:FloatKind) (x y:Nat):Nt P (Op.floatCmp op k x y):=⟨mJ _ _ _ _⟩
theorem o8 (s:FloatKind) (x:Nat) (d:FloatKind):ag P (Conv.floatToFloat s x d):=by
 unfold Conv.floatToFloat
 simp only []
 all_goals exact nt
theorem xg (op:BinOp) (k:FloatKind) (x y:Nat):ag P (Op.Complex.arith op k x y):=by
 unfold Op.Complex.arith
 refine af (kZ _ _ _ _) fun v=> ?_
 split<;>first|exact aj _|exact bn _
instance (op:BinOp) (k:FloatKind) (x y:Nat):Nt P (Op.Complex.arith op k x y):=⟨xg _ _ _ _⟩
theorem Av (op:BinOp) (k:FloatKind) (x y:Nat):ag P (Op.Complex.cmp op k x y):=af (mJ _ _ _ _) fun v=>lj _
instance (op:BinOp) (k:FloatKind) (x y:Nat):Nt P (Op.Complex.cmp op k x y):=⟨Av _ _ _ _⟩
theorem yu (s:FloatKind) (x:Nat) (d:FloatKind):ag P (Op.Complex.conv s x d):=by
 unfold Op.Complex.conv
 split
 ·exact aj _
 ·refine af (o8 _ _ _) fun v=> ?_
  split<;>first|exact aj _|exact bn _
instance (s:FloatKind) (x:Nat) (d:FloatKind):Nt P (Op.Complex.conv s x d):=⟨yu _ _ _⟩
theorem ve (a b c d:Nat):ag P (Op.Complex.product a b c d):=by
 unfold Op.Complex.product Op.Complex.sub Op.Complex.add Op.Complex.mul
 all_goals exact nt
instance (a b c d:Nat):Nt P (Op.Complex.product a b c d):=⟨ve _ _ _ _⟩
theorem sa (s a b c d:Nat):ag P (Op.Complex.corrected s a b c d):=by
 unfold Op.Complex.corrected Op.Complex.sub Op.Complex.add Op.Complex.mul
 all_goals exact nt
instance (s a b c d:Nat):Nt P (Op.Complex.corrected s a b c d):=⟨sa _ _ _ _ _⟩
theorem tH (a b c d:Nat):ag P (Op.Complex.quotient a b c d):=by
 unfold Op.Complex.quotient Op.Complex.sub Op.Complex.add Op.Complex.mul Op.Complex.quo
 simp only []
 all_goals exact nt
instance (a b c d:Nat):Nt P (Op.Complex.quotient a b c d):=⟨tH _ _ _ _⟩
theorem sb (op:BinOp) (k:FloatKind) (a b c d:Nat):ag P (Op.complexOp op k a b c d):=by
 unfold Op.complexOp
 simp only []
 all_goals exact nt
instance (op:BinOp) (k:FloatKind) (a b c d:Nat):Nt P (Op.complexOp op k a b c d):=⟨sb _ _ _ _ _ _⟩
theorem uo {p:U'} {n:Nat} {e:Q'} {c c' off:Nat} {b:Int} {o:Nat} (h:cellAtBytes p n e c off b=some o) (hc:c<=c'):cellAtBytes p n e c' off b=some o:=by
 unfold cellAtBytes at *
 simp only [] at *
 split at h
 ·simp at h
 rename_i h1
 rw [if_neg h1]
 cases hb:byteOfCell p n e (off % p.cellsOf e) with
 |none=>rw [hb] at h;simp at h
 |some q=>
  rw [hb] at h
  simp only [pure_bind,Option.bind_eq_bind,Option.bind_some] at h ⊢
  split at h
  ·simp at h
  rename_i h2
  rw [if_neg (fun hh=>h2 ?_)]
  ·exact h
  ·simp only [Bool.or_eq_true,decide_eq_true_eq] at hh ⊢
   rcases hh with hh|hh
   ·exact .inl hh
   ·have:Int.ofNat (c * p.bytesOf e)<=Int.ofNat (c' * p.bytesOf e):=by
     have:=Nat.mul_le_mul_right (p.bytesOf e) hc
     exact Int.ofNat_le.2 this
    exact .inr (by omega)
theorem qV (r:Nat) (h:∀s,ag P (k s)) (hn:∀e n n',n<=n'->Du P (k (some (e,n)))\/∀w es,(k (some (e,n))).runT P w es=(k (some (e,n'))).runT P w es):ag P (shape r>>=k):=by
 intro wl w es h0 hw
 have e:∀u:J',(shape r>>=k).runT P u es=(k (u.shape? r)).runT P u es:=fun u=>by
  show ((shape r).bind k).runT P u es=_
  rw [Sem.runT_bind'];rfl
 refine ⟨by rw [e];exact (h (wl.shape? r) wl w es h0 hw).1,fun fg ff=> ?_⟩
 have hk:∀u es,(k (w.shape? r)).runT P u es=(k (wl.shape? r)).runT P u es:=by
  intro u es'
  rw [e] at fg
  unfold World.shape? at fg ⊢
  cases hr:wl.heap[r]? with
  |none=>
   have:w.heap[r]?=none:=by
    rw [Array.getElem?_eq_none_iff] at hr ⊢;rw [<-hw.size];exact hr
   rw [this]
  |some o=>
   rw [hr] at fg
   obtain ⟨o',h1,h2⟩:=hw.get hr
   rw [h1]
   cases h2 with
   |same=>rfl
   |blind hb=>cases hb<;>rfl
   |cut g1 g2 g3=>
    rcases hn _ _ _ g1 with hd|he
    ·exact absurd fg (hd _ _).1
    ·exact (he _ _).symm
 rw [e] at fg ff
 obtain ⟨w',hs⟩:=(h (wl.shape? r) wl w es h0 hw).2 fg ff
 exact ⟨w',by rw [e,e,hk];exact hs.run,by rw [e];exact hs.weak,by rw [e];exact hs.mono,by rw [e];exact hs.drawn,hs.upd,by rw [e];exact hs.gR,by rw [e];exact hs.evs,fun hh=>by rw [e];exact hs.heap hh⟩
theorem rP (k:U'->Sem α) (w:J') (es:Array Event):(program>>=k).runT P w es=(k P).runT P w es:=rfl
theorem rZ (u:Q') (x y:M'):ag P (Builtin.unsafeAdd_ #[] u #[x,y]):=by
 cases x with
 |pointer ptr=>
  refine af (jP y) fun n=> ?_
  by_cases hn:n=0
  ·subst hn
   cases ptr with
   |none=>exact bE (s':=Sem.halt (.unsupported (.unsafePointer "Add: from nil"))) (fun _ _=>rfl) (bd _ trivial)
   |some a=>
    refine kp _ (fun v=> ?_) (fun _ _=>rfl)
    cases v with
    |none=>exact aj _
    |some v=>exact bE (s':=Sem.halt (.unsupported (.unsafePointer "Add: at a place where no cell lies"))) (fun _ _=>rfl) (bd _ trivial)
  ·simp only [hn,if_false]
   by_cases hl:n<0
   ·simp only [hl,if_true]
    exact bE (s':=Sem.halt (.unsupported (.unsafePointer "Add: a move by a count below zero"))) (fun _ _=>rfl) (bd _ trivial)
   ·simp only [hl,if_false]
    cases ptr with
    |none=>exact fu _ trivial
    |some a=>
     refine qV _ (fun s=> ?_) (fun e c c' hc=> ?_)
     ·cases s with
      |none=>exact fu _ trivial
      |some q=>
       refine af gW fun p=> ?_
       split
       ·exact aj _
       ·exact fu _ trivial
     ·cases h:cellAtBytes P P.depth e (c / P.cellsOf e) a.off n with
      |none=>refine .inl (fun w es=> ?_);simp only [rP,h];exact ⟨fun h=>h,trivial⟩
      |some off=>refine .inr (fun w es=> ?_);simp only [rP,h,uo h (Nat.div_le_div_right hc)]
 |_=>exact bE (s':=Sem.halt (.stuck "unsafe.Add: a pointer and an integer expected")) (fun _ _=>rfl) (bd _ trivial)
instance (u:Q') (x y:M'):Nt P (Builtin.unsafeAdd_ #[] u #[x,y]):=⟨rZ _ _ _⟩
theorem kq (t:Q') (x y:M'):ag P (movedNumber t x y):=by
 unfold movedNumber asNumber
 simp only []
 repeat' first|(with_reducible first|exact Nt.out|assumption|refine cV _ (fun _=> ?_) (fun _ _ b=>by cases b<;>first|exact .inl rfl|exact .inr fun _ _ h=>h)|refine af ?_ fun _=> ?_|refine dZ ?_|refine fL (fun _=> ?_) (fun _=> ?_))|split|exact eZ _ rfl
instance (t:Q') (x y:M'):Nt P (movedNumber t x y):=⟨kq _ _ _⟩
theorem vz (k:IntKind) (a:z_) (n:Int):ag P (Op.addrMod k a n):=by
 unfold Op.addrMod
 refine fP _ (fun s=> ?_) (fun _ _ _=>rfl)
 simp only []
 all_goals exact nt
instance (k:IntKind) (a:z_) (n:Int):Nt P (Op.addrMod k a n):=⟨vz _ _ _⟩
theorem lP (a b:z_):ag P (Op.twoPlaces a b):=by
 unfold Op.twoPlaces
 simp only []
 all_goals exact nt
theorem vy (k:IntKind) (a b:z_):ag P (Op.addrSub k a b):=af (lP _ _) fun _=>aj _
instance (k:IntKind) (a b:z_):Nt P (Op.addrSub k a b):=⟨vy _ _ _⟩
theorem vA (op:BinOp) (a b:z_):ag P (Op.addrCmp op a b):=by
 unfold Op.addrCmp
 refine af (lP _ _) fun q=> ?_
 cases op<;>first|exact aj _|exact fu _ trivial
instance (op:BinOp) (a b:z_):Nt P (Op.addrCmp op a b):=⟨vA _ _ _⟩
def rU (P:U') (f:w_):Bool:=match P.funcs[f]? with
 |some fn=>fn.body.isSome&&fn.name != "runtime.NumGoroutine"
 |none=>false
theorem yw {op:BinOp} {t:Q'} {x y:Operand} (h:JB P op t x y=true) (a:Act):ag P (binOp op t (a.eval x) (a.eval y)):=by
 by_cases he:op=.eql\/op=.neq
 ·have hq:MP P t x y=true:=by rcases he with rfl|rfl<;>exact h
  have hE:=tK hq a
  revert hE
  generalize a.eval x=u;generalize a.eval y=v
  intro hE
  unfold binOp
  rcases he with rfl|rfl
  all_goals
   split<;>first
    |(simp_all;done)
    |skip
   all_goals exact nt
 ·have ht:(match P.underlying t with|some (.int _)|some .string=>true|_=>false)=true:=by
   unfold JB at h
   cases op<;>first|exact h|exact absurd (.inl rfl) he|exact absurd (.inr rfl) he
  clear h
  generalize a.eval x=u;generalize a.eval y=v
  have Zd:∀p q,ag P (do if (<-underlying t) matches .unsafePointer then movedPointer t p q else movedNumber t p q):=fun p q=>by
   refine bf t fun d hd=> ?_
   have:=Eo ht hd
   cases d<;>first|exact kq _ _ _|exact absurd rfl this
  unfold binOp
  split<;>first
   |(exact absurd (.inl rfl) he)
   |(exact absurd (.inr rfl) he)
   |exact Zd _ _
   |skip
  repeat' first|(with_reducible first|exact Nt.out|assumption|refine cV _ (fun _=> ?_) (fun _ _ b=>by cases b<;>first|exact .inl rfl|exact .inr fun _ _ h=>h)|refine af ?_ fun _=> ?_|refine dZ ?_|refine fL (fun _=> ?_) (fun _=> ?_))|split|(exact absurd (.inl rfl) he)|(exact absurd (.inr rfl) he)
theorem kr:∀(l:List FieldStep) (t:Q') (x:Option M'),ag P (followBlind l t x)
 |[],_,_=>aj _
 |s::l,t,x=>by
  have ih:=fun t x=>kr l t x
  unfold followBlind
  repeat' first|(with_reducible first|exact Nt.out|assumption|refine cV _ (fun _=> ?_) (fun _ _ b=>by cases b<;>first|exact .inl rfl|exact .inr fun _ _ h=>h)|refine af ?_ fun _=> ?_|refine dZ ?_|refine fL (fun _=> ?_) (fun _=> ?_)|exact ih _ _)|split
instance (l:List FieldStep) (t:Q') (x:Option M'):Nt P (followBlind l t x):=⟨kr _ _ _⟩
theorem mI:∀(n:Nat) (t:Q') (v:M') (s:String),ag P (nilAhead n t v s)
 |0,_,_,_=>aj _
 |n+1,t,v,s=>by
  have ih:=fun t v s=>mI n t v s
  unfold nilAhead
  repeat' first|(with_reducible first|exact Nt.out|assumption|refine cV _ (fun _=> ?_) (fun _ _ b=>by cases b<;>first|exact .inl rfl|exact .inr fun _ _ h=>h)|refine af ?_ fun _=> ?_|refine dZ ?_|refine fL (fun _=> ?_) (fun _=> ?_)|exact ih _ _ _)|split
instance (n:Nat) (t:Q') (v:M') (s:String):Nt P (nilAhead n t v s):=⟨mI _ _ _ _⟩
def En (P:U') (ok:w_->Bool) (c:Call):Bool:=
 match c.callee with
 | .value (.func f)=>ok f&&rU P f
 | .builtin .append| .builtin .len| .builtin .cap| .builtin .copy| .builtin .min| .builtin .max| .builtin .clear=>true
 | .builtin .delete=>(match c.argTypes[0]? with|some t=>iR P t|none=>true)
 |_=>false
def fN (P:U') (ok:w_->Bool) (o:Oper):Bool:=
 match o.op with
 | .move _| .assign _| .pick ..| .alloc _| .box ..| .build ..| .buildSlice ..| .load ..| .store ..| .unOp ..| .makeFunc ..| .makeMap ..| .makeChan ..| .makeSlice ..
 | .slice ..| .fieldAddr ..| .field ..| .indexAddr ..| .index ..| .range ..| .extract ..| .nilCheck _| .makeInterface ..| .panic _=>true
 | .lookup t ..| .mapUpdate t ..| .insert t ..=>iR P t
 | .binOp op t x y _=>JB P op t x y
 | .convert a b _=>(match P.underlying a,P.underlying b with
   |some (.int _),some (.int _)=>true
   |some (.slice e),some .string=>(match P.underlying e with|some (.int .u8)=>true|_=>false)
   |_,_=>false)
 | .call c=>En P ok c
 |_=>false
theorem vu {x y:Q'} (h:(match P.underlying x,P.underlying y with
 |some (.int _),some (.int _)=>true
 |some (.slice e),some .string=>(match P.underlying e with|some (.int .u8)=>true|_=>false)
 |_,_=>false)=true) (v:M'):ag P (convert x y v):=by
 split at h
 ·rename_i h1 h2;exact qj h1 h2 v
 ·rename_i e h1 h2
  split at h
  ·rename_i h3;exact qh h1 h2 h3 v
  ·cases h
 ·cases h
theorem tL {f:w_} (h:rU P f=true) (args:Array M'):ag P (callFunc f args):=by
 unfold rU at h
 split at h
 ·rename_i fn xF
  simp only [Bool.and_eq_true,bne_iff_ne,ne_eq] at h
  obtain ⟨hb,hn⟩:=h
  refine bE (s':=Sem.pure (.enter f args)) (fun w es=> ?_) (bo _)
  show ((Sem.program Sem.pure).bind _).runT P w es=_
  simp only [Sem.bind,Sem.runT,xF]
  have h1:(fn.name== "runtime.NumGoroutine")=false:=by simpa using hn
  have h2:fn.body.isNone=false:=by cases hx:fn.body<;>simp [hx] at hb ⊢
  simp only [h1,h2,Bool.false_eq_true,if_false]
  rfl
 ·cases h
theorem yt (ts:Array Q') (u:Q') (a:Array M'):ag P (Builtin.clear_ ts u a):=by
 unfold Builtin.clear_
 split
 ·rename_i t x heq
  refine bf t fun d hd=> ?_
  split
  ·exact aj _
  ·exact aj _
  ·exact aj _
  ·rename_i r
   show ag P ((getObj r).bind _)
   refine cJ r (fun o ho=> ?_) (fun o o' hb=>by cases hb<;>first|exact .inl rfl|exact .inr fun _ _ h=>h)
   split
   ·rename_i es clock
    refine tM ?_ (tD (r:=r) (o:=.map es clock) rfl)
    exact mK (jN r) (jU r _ rfl rfl rfl rfl) fun _=>(aj _).c
   ·exact (bn _).c
  ·exact af (lO _) fun _=>af (eE _ _ _) fun _=>aj _
  ·exact bn _
 ·exact bn _
def Ds {α:Type} (P:U') (s:Sem α):Prop:=∀wl w es,bI wl wl->bI wl w->LM (s.runT P wl es).1/\∀a w₁,(s.runT P wl es).1=.ok a w₁->(∀i,wl.drawn+i<(s.runT P wl es).1.wd.drawn->w.tape (w.drawn+i)=wl.tape (wl.drawn+i))->∃w',Same P s wl w es w'
theorem ag.fe {s:Sem α} (h:ag P s):Ds P s:=fun wl w es _ hw=>⟨(h wl w es trivial hw).1,fun a w₁ e hs=>(h wl w es trivial hw).2 (by rw [e];trivial) hs⟩
theorem uq:∀(a:Ask α) (w:J'),(w.ask a).2.heap=w.heap/\(w.ask a).2.output=w.output
 | .done _,_=>⟨rfl,rfl⟩
 | .ask what range k,w=>by
   unfold World.ask
   simp only []
   split
   ·exact uq (k 0) w
   ·exact uq (k _) _
theorem GX (w:J') (c:Sys):(w.sys c).2.heap=w.heap/\(w.sys c).2.output=w.output:=by
 have h:=uq (Kernel.perform c w.os) w
 unfold World.sys
 split
 ·exact ⟨rfl,rfl⟩
 ·rename_i r os w1 e
  rw [e] at h
  exact h
theorem IK {w:J'} (h:bI w w) (c:Sys):bI (w.sys c).2 (w.sys c).2:=by
 have e:=(GX w c).1
 exact ⟨rfl,fun b o o' h1 h2=>h.obj b o o' (by rw [<-e];exact h1) (by rw [<-e];exact h2),rfl,rfl,fun b o h1=>h.ic b o (by rw [<-e];exact h1)⟩
theorem Ah (w:J') (es:Array Event) (hw:bI w w):(∃n w' es',Instr.panicnil.runT P w es=(.ok n w',es')/\bI w' w')\/∃m w' es',Instr.panicnil.runT P w es=(.halt (.stuck m) w',es'):=by
 have hs:=IK hw .env
 unfold Instr.panicnil
 show (∃n w' es',((Sem.sys .env Sem.pure).bind _).runT P w es=_/\_)\/∃m w' es',((Sem.sys .env Sem.pure).bind _).runT P w es=_
 simp only [Sem.bind,Sem.runT]
 generalize (w.sys .env).1=r
 cases r with
 |strings env=>exact .inl ⟨_,_,_,rfl,hs⟩
 |_=>exact .inr ⟨"strings expected",_,_,rfl⟩
theorem Eg (e:RuntimeError):∀(w:J') (a:M') (w':J'),(runtimePanic e:Sem M').run P w≠.ok a w':=by
 have hb:∀{β γ:Type} {s:Sem β} {f:β->Sem γ},(∀b w a w',(f b).run P w≠.ok a w')->∀w a w',(s>>=f).run P w≠.ok a w':=fun {β γ s f} h w a w' hx=>by
  change (s.bind f).run P w=_ at hx
  rw [Sem.run_bind'] at hx
  cases hs:s.run P w with
  |ok b w1=>rw [hs] at hx;exact h b w1 a w' hx
  |halt hh w1=>rw [hs] at hx;cases hx
 have hh:∀{γ:Type} (h:Halt) (w:J') (a:γ) (w':J'),(Sem.halt h:Sem γ).run P w≠.ok a w':=fun h w a w' hx=>by cases hx
 unfold runtimePanic
 refine hb fun p=> ?_
 cases e<;>first
  |exact hh _
  |exact hb fun _=>hb fun _=>hh _
theorem Cr (x:M'):Ds P (Instr.panic x>>=fun a=>Pure.pure (Next.value a)):=by
 have key:∀wl es,bI wl wl->∃h w' es',(Instr.panic x).runT P wl es=(.halt h w',es')/\pL h:=by
  intro wl es hw
  unfold Instr.panic
  split
  ·exact ⟨_,_,_,rfl,trivial⟩
  ·have e:=Sem.runT_bind' P Instr.panicnil (fun n=>if (n==1)=true then goPanic .nilIface else (runtimePanic .panicNil:Sem M')) wl es
   change ∃h w' es',(Instr.panicnil.bind _).runT P wl es=(.halt h w',es')/\pL h
   rw [e]
   rcases Ah wl es hw with ⟨n,w',es',h1,h2⟩|⟨m,w',es',h1⟩
   ·rw [h1]
    simp only []
    split
    ·exact ⟨_,_,_,rfl,trivial⟩
    ·have h3:=((cF (P:=P) (α:=M') .panicNil) w' w' es' trivial h2).1
     have h4:=Eg (P:=P) .panicNil w'
     cases hr:(runtimePanic .panicNil:Sem M').runT P w' es' with
     |mk r es''=>
      rw [hr] at h3
      cases r with
      |ok a w2=>exact absurd (by rw [<-Sem.runT_fst P _ w' es',hr]) (h4 a w2)
      |halt h w2=>exact ⟨h,w2,es'',rfl,h3⟩
   ·rw [h1]
    exact ⟨_,_,_,rfl,trivial⟩
  ·exact ⟨_,_,_,rfl,trivial⟩
 intro wl w es cf _
 obtain ⟨h,w',es',h1,h2⟩:=key wl es cf
 have e:=Sem.runT_bind' P (Instr.panic x) (fun a=>(Pure.pure (Next.value a):Sem Next)) wl es
 have e2:(Instr.panic x>>=fun a=>(Pure.pure (Next.value a):Sem Next)).runT P wl es=(.halt h w',es'):=by
  change ((Instr.panic x).bind _).runT P wl es=_
  rw [e,h1]
 rw [e2]
 exact ⟨h2,fun a w₁ e=>by cases e⟩
theorem Aw {ok:w_->Bool} {c:Call} (h:En P ok c=true) (t:Q') (a:Act):ag P (do let d <-resolve a.eval c t;invoke d.target d.args):=by
 obtain ⟨callee,args,argTypes⟩:=c
 cases callee with
 |value f=>
  cases f with
  |func f=>
   have hf:rU P f=true:=(Bool.and_eq_true_iff.1 h).2
   exact bE (s':=callFunc f ((#[]++args.map a.eval)++#[])) (fun _ _=>rfl) (tL hf _)
  |_=>cases h
 |invoke r n=>cases h
 |builtin b=>
  cases b with
  |append=>exact bE (s':=(Builtin.append_ argTypes t (args.map a.eval)>>=fun v=>Pure.pure (Next.value v))) (fun _ _=>rfl) (af (xh _ _ _) fun _=>aj _)
  |len=>exact bE (s':=(Builtin.len_ argTypes t (args.map a.eval)>>=fun v=>Pure.pure (Next.value v))) (fun _ _=>rfl) (af (Co _ _ _) fun _=>aj _)
  |cap=>exact bE (s':=(Builtin.cap_ argTypes t (args.map a.eval)>>=fun v=>Pure.pure (Next.value v))) (fun _ _=>rfl) (af (Cp _ _ _) fun _=>aj _)
  |copy=>exact bE (s':=(Builtin.copy_ argTypes t (args.map a.eval)>>=fun v=>Pure.pure (Next.value v))) (fun _ _=>rfl) (af (Au _ _ _) fun _=>aj _)
  |min=>exact bE (s':=(Builtin.min_ argTypes t (args.map a.eval)>>=fun v=>Pure.pure (Next.value v))) (fun _ _=>rfl) (af (Cm _ _ _) fun _=>aj _)
  |clear=>exact bE (s':=(Builtin.clear_ argTypes t (args.map a.eval)>>=fun v=>Pure.pure (Next.value v))) (fun _ _=>rfl) (af (yt _ _ _) fun _=>aj _)
  |max=>exact bE (s':=(Builtin.max_ argTypes t (args.map a.eval)>>=fun v=>Pure.pure (Next.value v))) (fun _ _=>rfl) (af (Cn _ _ _) fun _=>aj _)
  |delete=>exact bE (s':=(Builtin.delete_ argTypes t (args.map a.eval)>>=fun v=>Pure.pure (Next.value v))) (fun _ _=>rfl) (af (xf (fun u hu=>by simp only [En,hu] at h;exact h) _ _) fun _=>aj _)
  |_=>cases h
theorem jh {ok:w_->Bool} {o:Oper} (h:fN P ok o=true) (a:Act):Ds P (execOp a.eval o):=by
 obtain ⟨dst,op,type,pos,after,guard⟩:=o
 cases op with
 |panic x=>exact Cr _
 |move x=>exact ag.fe<|aj _
 |assign x=>exact ag.fe<|aj _
 |pick c x y=>exact ag.fe<|af (lj _) fun b=>aj _
 |alloc e=>exact ag.fe<|af (yy _ _ _) fun _=>aj _
 |box e x=>exact ag.fe<|af (Cq _ _) fun _=>aj _
 |build t ps=>exact ag.fe<|af (yv _ _) fun _=>aj _
 |buildSlice t n ps=>exact ag.fe<|af (qZ _ _ _) fun _=>aj _
 |load t x=>exact ag.fe<|af (xb _ _) fun _=>aj _
 |store t x y=>exact ag.fe<|af (uZ _ _ _) fun _=>aj _
 |unOp op t x=>exact ag.fe<|af (yl _ _) fun _=>aj _
 |makeFunc f x y=>exact ag.fe<|af (aj _) fun _=>aj _
 |makeMap t r=>exact ag.fe<|af (vf _ _) fun _=>aj _
 |makeChan t s=>exact ag.fe<|af (tI _ _) fun _=>aj _
 |makeSlice t l c=>exact ag.fe<|af (r9 _ _ _) fun _=>aj _
 |slice t x l hh m=>exact ag.fe<|af (vc _ _ _ _ _) fun _=>aj _
 |fieldAddr t x f=>exact ag.fe<|af (vm _ _ _) fun _=>aj _
 |field t x f=>exact ag.fe<|af (yr _ _ _) fun _=>aj _
 |indexAddr t x i=>exact ag.fe<|af (vh _ _ _) fun _=>aj _
 |index t x i=>exact ag.fe<|af (yq _ _ _) fun _=>aj _
 |range t x=>exact ag.fe<|af (yo _ _) fun _=>aj _
 |extract x i=>exact ag.fe<|af (vn _ _) fun _=>aj _
 |makeInterface t x=>exact ag.fe<|af (oC _ _) fun _=>aj _
 |lookup t x i b=>exact ag.fe<|af (xa h _ _ _) fun _=>aj _
 |mapUpdate t m k v=>exact ag.fe<|af (lQ h _ _ _) fun _=>aj _
 |insert t m k v=>exact ag.fe<|af (lQ h _ _ _) fun _=>aj _
 |binOp op t x y u=>exact ag.fe<|af (af (vq _ _ _ _ _ _) fun _=>yw h a) fun _=>aj _
 |convert x y z=>exact ag.fe<|af (vu h _) fun _=>aj _
 |nilCheck x=>
  refine ag.fe ?_
  unfold execOp
  simp only []
  generalize a.eval x=v
  all_goals exact nt
 |call c=>exact ag.fe<|Aw h _ _
 |ready g=>exact absurd h (by simp [fN])
 |waits g=>exact absurd h (by simp [fN])
 |sliceToArrayPointer d x=>exact absurd h (by simp [fN])
 |mapEntry t m k=>exact absurd h (by simp [fN])
 |entryStore t m s v=>exact absurd h (by simp [fN])
 |next i b=>exact absurd h (by simp [fN])
 |entry i=>exact absurd h (by simp [fN])
 |typeAssert x t u b=>exact absurd h (by simp [fN])
 |go c=>exact absurd h (by simp [fN])
 |defer c=>exact absurd h (by simp [fN])
 |send c x=>exact absurd h (by simp [fN])
 |recv t c b=>exact absurd h (by simp [fN])
 |select cs b=>exact absurd h (by simp [fN])
end
end Go.aC
