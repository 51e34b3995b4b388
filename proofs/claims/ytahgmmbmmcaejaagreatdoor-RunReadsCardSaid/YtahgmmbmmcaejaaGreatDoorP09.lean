/-
  More fuel says no less: the deterministic reading is monotone in its fuel. No statement of this seat stands here.
-/
import Derived.Test.YtahgmmbmmcaejaaGreatDoorP07
import Derived.Test.YtahgmmbmmcaejaaGreatDoorP08
import Derived.KernelRfl
namespace Go.Dt
theorem Le.bnd{α β:Type}{x y:R α}{f g:α→R β}(h:Le x y)(k:∀a,Le (f a) (g a)):Le (x>>=f) (y>>=g):=by
 intro b hb
 rw [bind_ok] at hb ⊢
 obtain ⟨a,ha,hb⟩:=hb
 exact ⟨a,h a ha,k a b hb⟩
def RLe(r r':RoundT):Prop:=∀l args σ,Le (r l args σ) (r' l args σ)
structure FLe(F G:Fns):Prop where
 run:∀fr pan σ,Le (F.run fr pan σ) (G.run fr pan σ)
 finish:∀f T ds m pan σ,Le (F.finish f T ds m pan σ) (G.finish f T ds m pan σ)
 endLoop:∀fr l e pan σ,Le (F.endLoop fr l e pan σ) (G.endLoop fr l e pan σ)
 call:CLe F.call G.call
 round:RLe F.round G.round
section
variable {D:Tab}
theorem runOne_mono{call call':CallT}{round round':RoundT}(hc:CLe call call')(hr:RLe round round')(b:Bool)(o:Oper)(T:List AV)(ds:List ADef)(pan:Pan)(σ:St):
  Le (runOne D call round b o T ds pan σ) (runOne D call' round' b o T ds pan σ):=by
 unfold runOne
 refine Le.bnd (Le.refl _) fun p=> ?_
 obtain ⟨nx,σ⟩:=p
 cases nx with
 | enter f args=>exact Le.bnd (hc f args σ) fun e=>Le.refl _
 | round l args=>exact Le.bnd (hr l args σ) fun e=>Le.refl _
 | _=>exact Le.refl _
theorem runSeq_mono{call call':CallT}{round round':RoundT}(hc:CLe call call')(hr:RLe round round')(b:Bool)(ops:Array Oper):
  ∀(l:List Oper) (T:List AV) (ds:List ADef) (pan:Pan) (σ:St),Le (runSeq D call round b ops l T ds pan σ) (runSeq D call' round' b ops l T ds pan σ)
 | [],_,_,_,_=>Le.refl _
 | o::rest,T,ds,pan,σ=>by
  unfold runSeq
  split
  ·refine Le.bnd (runOne_mono hc hr b o T ds pan σ) fun r=> ?_
   cases r with
   | go T ds pan σ=>exact runSeq_mono hc hr b ops rest T ds pan σ
   | panic=>exact Le.refl _
  ·exact runSeq_mono hc hr b ops rest _ ds pan σ
theorem runDraw_mono{call call':CallT}{round round':RoundT}(hc:CLe call call')(hr:RLe round round')(b:Bool)(ops:Array Oper):
  ∀(l:List PlanItem) (sn:List St) (T:List AV) (ds:List ADef) (pan:Pan) (σ:St),Le (runDraw D call round b ops l sn T ds pan σ) (runDraw D call' round' b ops l sn T ds pan σ)
 | [],_,_,_,_,_=>Le.refl _
 | it::rest,sn,T,ds,pan,σ=>by
  unfold runDraw
  split
  ·exact Le.refl _
  ·rename_i o _
   split
   ·split
    ·split
     ·refine Le.bnd (runOne_mono hc hr b o T ds pan σ) fun r=> ?_
      cases r with
      | go T ds pan σ'=>
       try simp only []
       split
       ·exact runDraw_mono hc hr b ops rest _ T ds pan σ'
       ·exact Le.refl _
      | panic=>exact Le.refl _
     ·exact Le.refl _
    ·split
     ·exact Le.bnd (Le.refl _) fun v=>runDraw_mono hc hr b ops rest _ _ ds pan σ
     ·refine Le.bnd (Le.refl _) fun v=> ?_
      try simp only []
      split
      ·exact runDraw_mono hc hr b ops rest _ _ ds pan σ
      ·exact Le.refl _
     ·refine Le.bnd (Le.refl _) fun p=> ?_
      obtain ⟨v,ob⟩:=p
      try simp only []
      split
      ·exact runDraw_mono hc hr b ops rest _ _ ds pan _
      ·exact Le.refl _
     ·exact Le.refl _
   ·exact runDraw_mono hc hr b ops rest _ _ ds pan σ
theorem runRegion_mono{call call':CallT}{round round':RoundT}(hc:CLe call call')(hr:RLe round round')(b:Bool)(ops:Array Oper)(d:Bool)(T:List AV)(ds:List ADef)(pan:Pan)(σ:St):
  Le (runRegion D call round b ops d T ds pan σ) (runRegion D call' round' b ops d T ds pan σ):=by
 unfold runRegion
 split
 ·split
  ·refine Le.bnd (runDraw_mono hc hr b ops _ _ T ds pan σ) fun r=> ?_
   cases r with
   | go T ds pan σ=>
    try simp only []
    split
    ·split
     ·exact runSeq_mono hc hr b ops _ T ds pan σ
     ·exact Le.refl _
    ·exact Le.refl _
   | panic=>exact Le.refl _
  ·exact Le.refl _
 ·exact runSeq_mono hc hr b ops _ T ds pan σ
variable {F G:Fns} (h:FLe F G)
include h
theorem leaveF_mono(fr:AFr)(j:Option Code)(pan:Pan)(σ:St):Le (leaveF F fr j pan σ) (leaveF G fr j pan σ):=by
 unfold leaveF
 split
 ·split
  ·exact h.finish _ _ _ _ _ _
  ·exact h.finish _ _ _ _ _ _
  ·exact Le.refl _
 ·exact Le.refl _
theorem panicF_mono(fr:AFr)(v:AV)(pan:Pan)(σ:St):Le (panicF F fr v pan σ) (panicF G fr v pan σ):=by
 unfold panicF
 split
 ·exact h.finish _ _ _ _ _ _
 ·exact Le.refl _
theorem goF_mono(nx:ANext)(σ:St):Le (goF F nx σ) (goF G nx σ):=by
 unfold goF
 split
 ·exact h.call _ _ _
 ·exact h.round _ _ _
 ·exact Le.refl _
theorem runF_mono(fr:AFr)(pan:Pan)(σ:St):Le (runF D F fr pan σ) (runF D G fr pan σ):=by
 unfold runF
 split
 ·exact leaveF_mono h _ _ _ _
 ·exact h.run _ _ _
 ·exact h.run _ _ _
 ·exact h.run _ _ _
 ·split
  ·refine Le.bnd (Le.refl _) fun r=> ?_
   try simp only []
   split
   ·exact h.run _ _ _
   ·exact Le.refl _
  ·exact Le.refl _
 ·split
  ·exact leaveF_mono h _ _ _ _
  ·exact h.run _ _ _
  ·exact h.run _ _ _
  ·exact h.run _ _ _
  ·exact Le.bnd (Le.refl _) fun b=>h.run _ _ _
  ·exact h.run _ _ _
  ·exact h.run _ _ _
  ·exact h.run _ _ _
  ·split
   ·exact h.run _ _ _
   ·exact leaveF_mono h _ _ _ _
  ·split
   ·exact h.run _ _ _
   ·exact leaveF_mono h _ _ _ _
  ·refine Le.bnd (runRegion_mono h.call h.round _ _ _ _ _ _ _) fun r=> ?_
   cases r with
   | go T ds pan σ=>exact h.run _ _ _
   | panic v T ds pan σ=>exact panicF_mono h _ _ _ _
  ·split
   ·refine Le.bnd (Le.refl _) fun r0=>Le.bnd (Le.refl _) fun nx=>Le.bnd (goF_mono h _ _) fun e=> ?_
    exact h.endLoop _ _ _ _ _
   ·refine Le.bnd (Le.refl _) fun nx=>Le.bnd (goF_mono h _ _) fun e=> ?_
    exact h.endLoop _ _ _ _ _
  ·exact Le.refl _
theorem endLoopF_mono(fr:AFr)(l:Nat)(e:AEnd)(pan:Pan)(σ:St):Le (endLoopF F fr l e pan σ) (endLoopF G fr l e pan σ):=by
 unfold endLoopF
 split
 ·refine Le.bnd (Le.refl _) fun r=> ?_
  try simp only []
  split
  ·exact Le.refl _
  ·split
   ·exact h.run _ _ _
   ·exact h.run _ _ _
 ·exact panicF_mono h _ _ _ _
theorem finishF_mono(f:FuncId)(T:List AV)(ds:List ADef)(m:Option AV)(pan:Pan)(σ:St):Le (finishF D F f T ds m pan σ) (finishF D G f T ds m pan σ):=by
 unfold finishF
 split
 ·exact Le.refl _
 ·refine Le.bnd (Le.refl _) fun o=> ?_
  try simp only []
  split
  ·exact h.finish _ _ _ _ _ _
  ·exact Le.refl _
 ·refine Le.bnd (Le.refl _) fun nx=> ?_
  try simp only []
  split
  ·refine Le.bnd (Le.refl _) fun fr=>Le.bnd (h.run _ _ _) fun e=> ?_
   obtain ⟨e,p,σ⟩:=e
   try simp only []
   split
   ·split
    ·exact h.finish _ _ _ _ _ _
    ·exact h.finish _ _ _ _ _ _
   ·split
    ·exact h.finish _ _ _ _ _ _
    ·exact Le.refl _
  ·exact Le.refl _
theorem plainF_mono(f:FuncId)(args:List AV)(σ:St):Le (plainF D F f args σ) (plainF D G f args σ):=by
 unfold plainF
 exact Le.bnd (Le.refl _) fun fr=>Le.bnd (h.run _ _ _) fun e=>Le.refl _
theorem pureF_mono(f:FuncId)(args:List AV)(σ:St):Le (pureF D F f args σ) (pureF D G f args σ):=by
 unfold pureF
 exact Le.bnd (Le.refl _) fun fr=>Le.bnd (h.run _ _ _) fun e=>Le.refl _
theorem callF_mono:CLe (callF D F) (callF D G):=by
 intro f args σ
 unfold callF
 split
 ·refine Le.bnd (Le.refl _) fun p=> ?_
  obtain ⟨args',σX⟩:=p
  try simp only []
  split
  ·exact Le.refl _
  ·exact Le.bnd (pureF_mono h _ _ _) fun m=>Le.refl _
 ·exact plainF_mono h _ _ _
theorem roundF_mono:RLe (roundF D F) (roundF D G):=by
 intro l args σ
 unfold roundF
 refine Le.bnd (Le.refl _) fun r=> ?_
 try simp only []
 split
 ·exact Le.refl _
 ·split
  ·exact Le.bnd (h.run _ _ _) fun e=>Le.refl _
  ·exact Le.refl _
theorem nextFns_mono:FLe (nextFns D F) (nextFns D G):=
 ⟨runF_mono h,finishF_mono h,endLoopF_mono h,callF_mono h,roundF_mono h⟩
omit h
theorem fns_succ:∀n,FLe (fns D n) (fns D (n+1))
 | 0=>⟨fun _ _ _=>Le.error,fun _ _ _ _ _ _=>Le.error,fun _ _ _ _ _=>Le.error,fun _ _ _=>Le.error,fun _ _ _=>Le.error⟩
 | n+1=>nextFns_mono (fns_succ n)
theorem FLe.refl(F:Fns):FLe F F:=⟨fun _ _ _=>Le.refl _,fun _ _ _ _ _ _=>Le.refl _,fun _ _ _ _ _=>Le.refl _,fun _ _ _=>Le.refl _,fun _ _ _=>Le.refl _⟩
theorem FLe.trans{F G H:Fns}(a:FLe F G)(b:FLe G H):FLe F H:=
 ⟨fun _ _ _=>(a.run _ _ _).trans (b.run _ _ _),fun _ _ _ _ _ _=>(a.finish _ _ _ _ _ _).trans (b.finish _ _ _ _ _ _),fun _ _ _ _ _=>(a.endLoop _ _ _ _ _).trans (b.endLoop _ _ _ _ _),
  fun _ _ _=>(a.call _ _ _).trans (b.call _ _ _),fun _ _ _=>(a.round _ _ _).trans (b.round _ _ _)⟩
theorem fns_le'{n m:Nat}(hnm:n≤m):FLe (fns D n) (fns D m):=by
 induction hnm with
 | refl=>exact FLe.refl _
 | step _ ih=>exact ih.trans (fns_succ _)
end
end Go.Dt
namespace Go.Dt
open Classical in
noncomputable def callW(D:Tab):CallT:=fun f args σ=>
 if h:∃r n,(fns D n).call f args σ= .ok r then .ok h.choose else .error "no end"
theorem callW_ok{D:Tab}{f:FuncId}{args:List AV}{σ:St}{r:AEnd×St}:callW D f args σ= .ok r↔∃n,(fns D n).call f args σ= .ok r:=by
 unfold callW
 constructor
 ·intro h
  split at h
  ·rename_i hx
   simp at h;subst h
   exact hx.choose_spec
  ·cases h
 ·rintro ⟨n,h⟩
  have hx:∃r n,(fns D n).call f args σ= .ok r:=⟨r,n,h⟩
  rw [dif_pos hx]
  obtain ⟨m,hm⟩:=hx.choose_spec
  have h1:=(fns_le' (D:=D) (Nat.le_max_left n m)).call _ _ _ _ h
  have h2:=(fns_le' (D:=D) (Nat.le_max_right n m)).call _ _ _ _ hm
  rw [h1] at h2
  simpa using h2.symm
abbrev Rg:=Nat→AV
def putE(N:Nat)(T:Rg)(dst:Option Tmp)(v:AV):Rg:=
 match dst with
 | some d=>fun i=>bif Nat.beq i d then (bif Nat.blt d N then v else T i) else T i
 | none=>T
def evalE(D:Tab)(T:Rg):Operand→AV
 | .tmp t=>T t
 | .const v=>ofConst v
 | .global g=>bif Nat.blt g D.nglob then .ptr g 0 else .base (.pointer (some ⟨g,0,none⟩))
 | .func f=> .func (.func f) [] []
def isBoolV(v:AV)(want:Bool):Bool:=
 match v with
 | .base (.bool b)=>bif want then b else !b
 | _=>false
def wantE(N:Nat)(ops:Array Oper)(o:Oper)(T:Rg):Bool:=
 match o.guard with
 | none=>true
 | some (j,want)=>
  match (ops[j]?).bind (·.dst) with
  | some d=>bif Nat.blt d N then isBoolV (T d) want else false
  | none=>false
def TE(N:Nat)(T:Rg)(L:List AV):Prop:=L.length=N∧∀i,T i=L.getD i .undef
theorem TE.eval{D:Tab}{N:Nat}{T:Rg}{L:List AV}(h:TE N T L):evalO D L=evalE D T:=by
 funext x
 cases x with
 | tmp t=>exact (h.2 t).symm
 | const v=>rfl
 | global g=>
  simp only [evalO,evalE,blt_eq]
  by_cases hg:g<D.nglob<;>simp [hg]
 | func f=>rfl
theorem TE.put{N:Nat}{T:Rg}{L:List AV}(h:TE N T L)(d:Option Tmp)(v:AV):TE N (putE N T d v) (put L d v):=by
 cases d with
 | none=>exact h
 | some d=>
  refine ⟨by simp [Dt.put,h.1],fun i=> ?_⟩
  simp only [putE,Dt.put,beq_eq,blt_eq]
  by_cases hi:i=d
  ·subst hi
   by_cases hn:i<N
   ·simp [hn,List.getD,h.1]
   ·simp [hn,h.2 i,List.getD,h.1]
  ·simp [hi,h.2 i,List.getD,Ne.symm hi]
theorem TE.want{N:Nat}{T:Rg}{L:List AV}(h:TE N T L)(ops:Array Oper)(o:Oper):wantedA ops o L=wantE N ops o T:=by
 unfold wantedA wantE
 cases o.guard with
 | none=>rfl
 | some g=>
  obtain ⟨j,want⟩:=g
  simp only
  unfold yieldedA
  cases hd:(ops[j]?).bind (·.dst) with
  | none=>simp
  | some d=>
   simp only [Option.bind_some,blt_eq]
   by_cases hn:d<N
   ·have:L[d]? =some (T d):=by
     rw [h.2 d]
     simp [List.getD,List.getElem?_eq_getElem (h.1 ▸ hn:d<L.length)]
    rw [this]
    simp only [hn,decide_true,cond_true,isBoolV]
    cases T d with
    | base v=>cases v<;>simp;rename_i b;cases b<;>cases want<;>rfl
    | _=>simp
   ·have:L[d]? =none:=List.getElem?_eq_none (by rw [h.1];exact Nat.not_lt.1 hn)
    rw [this]
    simp [hn]
inductive RO where
 | go (T:Rg) (σ:St)
 | pan (v:AV) (σ:St)
inductive Oc where
 | nxt (T:Rg) (σ:St)
 | exit (id:Nat) (T:Rg) (σ:St)
 | ret (T:Rg) (σ:St)
 | pan (v:AV) (σ:St)
structure K(ρ:Type) where
 nxt:Rg→St→R ρ
 ret:Rg→St→R ρ
 exit:Nat→Rg→St→R ρ
 pan:AV→St→R ρ
def K.app{ρ:Type}(k:K ρ):Oc→R ρ
 | .nxt T σ=>k.nxt T σ
 | .ret T σ=>k.ret T σ
 | .exit id T σ=>k.exit id T σ
 | .pan v σ=>k.pan v σ
def kOc:K Oc:=⟨fun T σ=> .ok (.nxt T σ),fun T σ=> .ok (.ret T σ),fun id T σ=> .ok (.exit id T σ),fun v σ=> .ok (.pan v σ)⟩
def bodyC(D:Tab)(f:Nat):Code:=match D.func f with
 | some fn=>fn.body.getD .skip
 | none=> .skip
def subC:Code→List Nat→Code
 | c,[]=>c
 | .seq a _,0::p=>subC a p
 | .seq _ b,1::p=>subC b p
 | .cond _ a _,0::p=>subC a p
 | .cond _ _ b,1::p=>subC b p
 | .block _ b,0::p=>subC b p
 | .loop b,0::p=>subC b p
 | .scope b,0::p=>subC b p
 | c,_=>c
def extK(D:Tab)(g:Nat):ExtKind:=match D.ext g with
 | some k=>k
 | none=> .same
def kseq{ρ:Type}(f:Rg→St→R ρ)(k:K ρ):K ρ:=⟨f,k.ret,k.exit,k.pan⟩
def kblk{ρ:Type}(id:Nat)(k:K ρ):K ρ:=⟨k.nxt,k.ret,fun id' T σ=>match Nat.beq id' id with
 | true=>k.nxt T σ
 | false=>k.exit id' T σ,k.pan⟩
def retK{ρ:Type}(p:AEnd×St)(k:AV→St→R ρ)(kp:AV→St→R ρ):R ρ:=
 match p.1 with
 | .ret v=>k v p.2
 | .panic v=>kp v p.2
def nilCheckV(v:AV):R AV:=
 match v with
 | .ptr b o=> .ok (.ptr b o)
 | .func (.func f) a b=> .ok (.func (.func f) a b)
 | .yield l=> .ok (.yield l)
 | .iface t v=> .ok (.iface t v)
 | _=> .error "nilCheck"
def extractV(v:AV)(ix:Nat):R AV:=
 match v with
 | .tuple vs=>match vs[ix]? with
  | some x=> .ok x
  | none=> .error "extract"
 | _=> .error "extract"
def pickV(c a b:AV):R AV:=do
 let t ← asB c
 return if t then a else b
def boxA(D:Tab)(elem:Nat)(x:AV)(b:Nat):R (AV×AO):=do
 let s ← size D elem
 return (.ptr b 0,.cells x.cells elem true s)
def buildSliceA(D:Tab)(t len:Nat)(parts:List (Nat×AV))(b:Nat):R (AV×AO):=do
 let elem ← sliceElem D t
 let s ← size D elem
 if len*s>2^24 then .error "buildSlice" else do
 let z ← zeroRow D elem len
 let cells ← fill (fun i=>some (i*s,s)) z parts
 return (.slice b 0 len (some len) s,.cells cells elem true s)
def makeSliceA(D:Tab)(t:Nat)(l c:AV)(b:Nat):R (AV×AO):=do
 let elem ← sliceElem D t
 let (_,l) ← asI l
 let (_,c) ← asI c
 let i ← inf D elem
 if 0≤l∧l≤c∧c<2^30∧i.bytes<2^16 then do
  let s ← size D elem
  let z ← zeroRow D elem c.toNat
  return (.slice b 0 l.toNat (some c.toNat) s,.cells z elem true s)
 else .error "makeSlice"
def allocA(D:Tab)(elem:Nat)(b:Nat):R (AV×AO):=do
 let z ← zero D elem
 let s ← size D elem
 return (.ptr b 0,.cells z.cells elem true s)
def sameR(r:R AV)(v:AV):Bool:=
 match r with
 | .ok v'=>beqA v' v
 | .error _=>false
def bindR{α β:Type}(x:R α)(f:α→R β):R β:=match x with | .ok a=>f a | .error e=> .error e
def g1(x:R AV):R AV:=bif true then x else .ok .undef
def mv(x:AV):R AV:=g1 (.ok x)
def g2(σ:St)(x:R (AEnd×St)):R (AEnd×St):=bif true then x else .ok (.ret .undef,σ)
def g3(σ:St)(x:R St):R St:=bif true then x else .ok σ
def g4(σ:St)(x:R (AV×St)):R (AV×St):=bif true then x else .ok (.undef,σ)
def puts(N:Nat)(T:Rg):List (Nat×AV)→Rg
 | []=>T
 | (d,v)::l=>puts N (putE N T (some d) v) l
section
variable {ρ:Type} (D:Tab) (call:CallT) (N:Nat)
def nextK(T:Rg)(dst:Option Tmp)(k:Rg→St→R ρ)(kp:AV→St→R ρ)(nx:ANext)(σ:St):R ρ:=
 match nx with
 | .value v=>k (putE N T dst v) σ
 | .skip=>k (putE N T dst .undef) σ
 | .enter f args=>bindR (call f args σ) fun p=>retK p (fun v σ=>k (putE N T dst v) σ) kp
 | .panic v=>kp v σ
 | _=> .error "next"
def enterQ(nx:ANext)(σ:St):R (AEnd×St):=
 match nx with
 | .enter f args=>call f args σ
 | _=> .error "enterQ"
def callG(f:AV)(args:List AV)(σ:St):R (AEnd×St):=
 match extOf D f with
 | some kk=>bindR (extV D σ kk args) fun p=> .ok (.ret p.1,p.2)
 | none=>bindR (callV D f args) fun nx=>enterQ call nx σ
def invokeQ(recv:AV)(name:String)(args:List AV)(σ:St):R (AEnd×St):=bindR (callM D recv name args) fun nx=>enterQ call nx σ
def actK(g:Bool)(o:Oper)(T:Rg)(σ:St)(k:Rg→St→R ρ)(kp:AV→St→R ρ):R ρ:=
 match o.op with
 | .store t a x=>bindR (bif g then storeV D σ t (evalE D T a) (evalE D T x) else .ok σ) fun σ'=>k (putE N T o.dst .undef) σ'
 | .call c=>
  match c.callee with
  | .builtin b=>
   match b,c.argTypes.toList,c.args.toList with
   | .append,[t,u],[s,x]=>bindR (bif g then appendV D σ t u (evalE D T s) (evalE D T x) else .ok (.undef,σ)) fun p=>k (putE N T o.dst p.1) p.2
   | _,_,_=>match g with
    | true=>bindR (actOp D σ (evalE D T) (.call c)) fun p=>nextK call N T o.dst k kp p.1 p.2
    | false=>k (putE N T o.dst .undef) σ
  | .invoke recv name=>bindR (bif g then invokeQ D call (evalE D T recv) name (c.args.toList.map (evalE D T)) σ else .ok (.ret .undef,σ)) fun p=>retK p (fun v σ=>k (putE N T o.dst v) σ) kp
  | .value f=>bindR (bif g then callG D call (evalE D T f) (c.args.toList.map (evalE D T)) σ else .ok (.ret .undef,σ)) fun p=>retK p (fun v σ=>k (putE N T o.dst v) σ) kp
 | op=>match g with
  | true=>bindR (actOp D σ (evalE D T) op) fun p=>nextK call N T o.dst k kp p.1 p.2
  | false=>k (putE N T o.dst .undef) σ
def oneK(g:Bool)(o:Oper)(T:Rg)(σ:St)(k:Rg→St→R ρ)(kp:AV→St→R ρ):R ρ:=
 match clsD D o.op with
 | .pure=>bindR (bif g then pureOp D (evalE D T) o.op else .ok .undef) fun v=>k (putE N T o.dst v) σ
 | .read=>bindR (bif g then readOp D σ (evalE D T) o.op else .ok .undef) fun v=>k (putE N T o.dst v) σ
 | .alloc=>match g with
  | true=>bindR (allocOp D (evalE D T) o.op σ.n) fun p=>k (putE N T o.dst p.1) (σ.push p.2)
  | false=>k (putE N T o.dst .undef) σ
 | .act=>actK D call N g o T σ k kp
def seqK(ops:Array Oper)(k:Rg→St→R ρ)(kp:AV→St→R ρ):List Oper→Rg→St→R ρ
 | [],T,σ=>k T σ
 | o::rest,T,σ=>oneK D call N (wantE N ops o T) o T σ (seqK ops k kp rest) kp
def sameE(T:Rg)(op:Op)(v:AV)(snap:St):Bool:=sameR (readOp D snap (evalE D T) op) v
def drawK(ops:Array Oper)(k:Rg→St→R ρ):List PlanItem→List St→Rg→St→R ρ
 | [],_,T,σ=>k T σ
 | it::rest,snaps,T,σ=>
  match ops[it.i]? with
  | none=> .error "draw"
  | some o=>
  match wantE N ops o T with
  | true=>
   match it.act with
   | true=>
    bif o.op.operands.toList.all fun x=>bndA σ.n (evalE D T x) then
     oneK D call N true o T σ (fun T σ'=>bif Nat.ble σ.n σ'.n then drawK ops k rest (σ'::snaps) T σ' else .error "draw n") (fun _ _=> .error "panic in a drawn region")
    else .error "draw ids"
   | false=>
    match clsD D o.op with
    | .pure=>bindR (pureOp D (evalE D T) o.op) fun v=>drawK ops k rest snaps (putE N T o.dst v) σ
    | .read=>bindR (readOp D σ (evalE D T) o.op) fun v=>
     bif Nat.blt it.lo (lenS snaps) && (snaps.take (Nat.sub (lenS snaps) it.lo)).all (sameE D T o.op v) then drawK ops k rest snaps (putE N T o.dst v) σ else .error "unstable read"
    | .alloc=>bindR (allocOp D (evalE D T) o.op σ.n) fun p=>
     bif bndO (σ.n+1) p.2 then drawK ops k rest snaps (putE N T o.dst p.1) (σ.push p.2) else .error "draw object"
    | .act=> .error "draw"
  | false=>drawK ops k rest (match it.act with | true=>σ::snaps | false=>snaps) (putE N T o.dst .undef) σ
where lenS:List St→Nat
 | []=>0
 | _::l=>Nat.succ (lenS l)
noncomputable def regionK(ops:Array Oper)(draw:Bool)(T:Rg)(σ:St)(k:Rg→St→R ρ)(kp:AV→St→R ρ):R ρ:=
 match draw with
 | true=>
  match drawOkF ops (D.cut ops) with
  | true=>
   drawK D call N ops (fun T σ=>match Nat.ble ops.size (D.cut ops) with
    | true=>k T σ
    | false=>
     match Nat.beq ops.size (Nat.succ (D.cut ops)) && canE ops (D.cut ops) 0 (D.cut ops) with
     | true=>seqK D call N ops k kp (ops.toList.drop (D.cut ops)) T σ
     | false=> .error "rest") (planM ops (D.cut ops)) [σ] T σ
  | false=> .error "plan"
 | false=>seqK D call N ops k kp ops.toList T σ
def nextE(T:Rg)(dst:Option Tmp)(nx:ANext)(σ:St):R RO:=
 match nx with
 | .value v=> .ok (.go (putE N T dst v) σ)
 | .skip=> .ok (.go (putE N T dst .undef) σ)
 | .enter f args=>bindR (call f args σ) fun p=>
  match p.1 with
  | .ret v=> .ok (.go (putE N T dst v) p.2)
  | .panic v=> .ok (.pan v p.2)
 | .panic v=> .ok (.pan v σ)
 | _=> .error "next"
def RO.app(k:Rg→St→R ρ)(kp:AV→St→R ρ):RO→R ρ
 | .go T σ=>k T σ
 | .pan v σ=>kp v σ
def oneE(o:Oper)(T:Rg)(σ:St):R RO:=bindR (execOp D (evalE D T) σ o.op) fun p=>nextE call N T o.dst p.1 p.2
def seqE(ops:Array Oper):List Oper→Rg→St→R RO
 | [],T,σ=> .ok (.go T σ)
 | o::rest,T,σ=>
  bif wantE N ops o T then bindR (oneE D call N o T σ) (RO.app (seqE ops rest) fun v σ=> .ok (.pan v σ)) else seqE ops rest (putE N T o.dst .undef) σ
def drawE(ops:Array Oper):List PlanItem→List St→Rg→St→R (Rg×St)
 | [],_,T,σ=> .ok (T,σ)
 | it::rest,snaps,T,σ=>
  match ops[it.i]? with
  | none=> .error "draw"
  | some o=>
  bif wantE N ops o T then
   bif it.act then
    bif o.op.operands.toList.all fun x=>bndA σ.n (evalE D T x) then
     bindR (oneE D call N o T σ) (RO.app (fun T σ'=>bif Nat.ble σ.n σ'.n then drawE ops rest (σ'::snaps) T σ' else .error "draw n") (fun _ _=> .error "panic in a drawn region"))
    else .error "draw ids"
   else
    match clsD D o.op with
    | .pure=>bindR (pureOp D (evalE D T) o.op) fun v=>drawE ops rest snaps (putE N T o.dst v) σ
    | .read=>bindR (readOp D σ (evalE D T) o.op) fun v=>
     bif Nat.blt it.lo (drawK.lenS snaps) && (snaps.take (Nat.sub (drawK.lenS snaps) it.lo)).all (sameE D T o.op v) then drawE ops rest snaps (putE N T o.dst v) σ else .error "unstable read"
    | .alloc=>bindR (allocOp D (evalE D T) o.op σ.n) fun p=>
     bif bndO (σ.n+1) p.2 then drawE ops rest snaps (putE N T o.dst p.1) (σ.push p.2) else .error "draw object"
    | .act=> .error "draw"
  else drawE ops rest (bif it.act then σ::snaps else snaps) (putE N T o.dst .undef) σ
noncomputable def regionE(ops:Array Oper)(draw:Bool)(T:Rg)(σ:St):R RO:=
 bif draw then
  bif drawOkF ops (D.cut ops) then
   bindR (drawE D call N ops (planM ops (D.cut ops)) [σ] T σ) fun p=>bif Nat.ble ops.size (D.cut ops) then .ok (.go p.1 p.2) else
    bif Nat.beq ops.size (Nat.succ (D.cut ops)) && canE ops (D.cut ops) 0 (D.cut ops) then seqE D call N ops (ops.toList.drop (D.cut ops)) p.1 p.2 else .error "rest"
  else .error "plan"
 else seqE D call N ops ops.toList T σ
def loopN(step:Rg→St→R Oc):Nat→Rg→St→R Oc
 | 0,_,_=> .error "fuel"
 | n+1,T,σ=>match step T σ with
  | .ok (.nxt T σ)=>loopN step n T σ
  | r=>r
open Classical in
noncomputable def loopLim(step:Rg→St→R Oc)(T:Rg)(σ:St):R Oc:=
 if h:∃r n,loopN step n T σ= .ok r then .ok h.choose else .error "no end"
def condR(v:AV)(a b:R ρ):R ρ:=
 match v with
 | .base (.bool c)=>bif c then a else b
 | _=> .error "bool"
noncomputable def dd:Code→Rg→St→R Oc
 | .skip,T,σ=> .ok (.nxt T σ)
 | .label _,T,σ=> .ok (.nxt T σ)
 | .ret,T,σ=> .ok (.ret T σ)
 | .exit id,T,σ=> .ok (.exit id T σ)
 | .seq a b,T,σ=>bindR (dd a T σ) fun o=>match o with
  | .nxt T σ=>dd b T σ
  | o=> .ok o
 | .cond c a b,T,σ=>condR (evalE D T c) (dd a T σ) (dd b T σ)
 | .block id b,T,σ=>bindR (dd b T σ) fun o=>match o with
  | .exit id' T σ=>bif Nat.beq id' id then .ok (.nxt T σ) else .ok (.exit id' T σ)
  | o=> .ok o
 | .loop b,T,σ=>loopLim (dd b) T σ
 | .scope b,T,σ=>dd b T σ
 | .region _ ops draw,T,σ=>bindR (regionE D call N ops draw T σ) fun o=>match o with
  | .go T σ=> .ok (.nxt T σ)
  | .pan v σ=> .ok (.pan v σ)
 | _,_,_=> .error "dd"
noncomputable def denK:Code→K ρ→Rg→St→R ρ
 | .skip,k,T,σ=>k.nxt T σ
 | .label _,k,T,σ=>k.nxt T σ
 | .ret,k,T,σ=>k.ret T σ
 | .exit id,k,T,σ=>k.exit id T σ
 | .seq a b,k,T,σ=>denK a (kseq (denK b k) k) T σ
 | .cond c a b,k,T,σ=>condR (evalE D T c) (denK a k T σ) (denK b k T σ)
 | .block id b,k,T,σ=>denK b (kblk id k) T σ
 | .loop b,k,T,σ=>bindR (loopLim (dd D call N b) T σ) k.app
 | .scope b,k,T,σ=>denK b k T σ
 | .region _ ops draw,k,T,σ=>regionK D call N ops draw T σ k.nxt k.pan
 | _,_,_,_=> .error "dd"
theorem bindR_assoc{α β γ:Type}(x:R α)(f:α→R β)(g:β→R γ):bindR (bindR x f) g=bindR x fun a=>bindR (f a) g:=by
 cases x<;>rfl
theorem bindR_ok{α β:Type}{x:R α}{f:α→R β}{b:β}:bindR x f= .ok b↔∃a,x= .ok a∧f a= .ok b:=by
 cases x<;>simp [bindR]
theorem bindR_eq{α β:Type}(x:R α)(f:α→R β):x>>=f=bindR x f:=by cases x<;>rfl
theorem nextK_eq(T:Rg)(dst:Option Tmp)(k:Rg→St→R ρ)(kp:AV→St→R ρ)(nx:ANext)(σ:St):
  nextK call N T dst k kp nx σ=bindR (nextE call N T dst nx σ) (RO.app k kp):=by
 cases nx with
 | enter f args=>
  simp only [nextK,nextE,bindR_assoc]
  congr 1
  funext p
  unfold retK
  cases p.1<;>rfl
 | _=>rfl
theorem enterQ_le{ρ:Type}(T:Rg)(dst:Option Tmp)(k:Rg→St→R ρ)(kp:AV→St→R ρ)(nx:ANext)(σ:St)(r:ρ)
  (h:bindR (enterQ call nx σ) (fun p=>retK p (fun v σ=>k (putE N T dst v) σ) kp)= .ok r):nextK call N T dst k kp nx σ= .ok r:=by
 cases nx with
 | enter f args=>exact h
 | _=>cases h
theorem actK_le(g:Bool)(o:Oper)(T:Rg)(σ:St)(k:Rg→St→R ρ)(kp:AV→St→R ρ)(r:ρ)(h:actK D call N g o T σ k kp= .ok r):
  (bif g then bindR (bindR (actOp D σ (evalE D T) o.op) fun p=>nextE call N T o.dst p.1 p.2) (RO.app k kp) else k (putE N T o.dst .undef) σ)= .ok r:=by
 cases g with
 | false=>
  simp only [cond_false]
  unfold actK at h
  split at h
  ·exact h
  ·split at h
   ·split at h<;>exact h
   ·exact h
   ·exact h
  ·exact h
 | true=>
  simp only [cond_true]
  rw [bindR_assoc]
  have hn:∀nx σ,bindR (nextE call N T o.dst nx σ) (RO.app k kp)=nextK call N T o.dst k kp nx σ:=fun nx σ=>(nextK_eq call N T o.dst k kp nx σ).symm
  simp only [hn]
  unfold actK at h
  split at h
  ·rename_i t a x heq
   rw [heq]
   simp only [cond_true] at h
   simp only [actOp,bindR_eq,bindR_assoc]
   exact h
  ·rename_i c heq
   rw [heq]
   split at h
   ·rename_i b hc
    split at h
    ·rename_i t u s x h1 h2
     simp only [cond_true] at h
     simp only [actOp,hc,h1,h2,bindR_eq,bindR_assoc]
     exact h
    ·exact h
   ·rename_i recv name hc
    simp only [cond_true,invokeQ,bindR_assoc] at h
    simp only [actOp,hc,bindR_eq,bindR_assoc]
    rw [bindR_ok] at h ⊢
    obtain ⟨nx,h1,h2⟩:=h
    exact ⟨nx,h1,enterQ_le call N T o.dst k kp nx σ r h2⟩
   ·rename_i f hc
    simp only [cond_true,callG] at h
    split at h
    ·rename_i kk hk
     simp only [bindR_assoc] at h
     simp only [actOp,hc,hk,bindR_eq,bindR_assoc]
     exact h
    ·rename_i hk
     simp only [bindR_assoc] at h
     simp only [actOp,hc,hk,bindR_eq,bindR_assoc]
     rw [bindR_ok] at h ⊢
     obtain ⟨nx,h1,h2⟩:=h
     exact ⟨nx,h1,enterQ_le call N T o.dst k kp nx σ r h2⟩
  ·exact h
theorem oneK_le(g:Bool)(o:Oper)(T:Rg)(σ:St)(k:Rg→St→R ρ)(kp:AV→St→R ρ)(r:ρ)(h:oneK D call N g o T σ k kp= .ok r):
  (bif g then bindR (oneE D call N o T σ) (RO.app k kp) else k (putE N T o.dst .undef) σ)= .ok r:=by
 unfold oneK at h
 unfold oneE execOp
 cases hc:clsD D o.op with
 | act=>rw [hc] at h;exact actK_le D call N g o T σ k kp r h
 | _=>
  rw [hc] at h
  cases g with
  | false=>exact h
  | true=>
   simp only [cond_true] at h ⊢
   simp only [bindR_eq,bindR_assoc]
   exact h
theorem seqK_le(ops:Array Oper)(k:Rg→St→R ρ)(kp:AV→St→R ρ)(r:ρ):∀(l:List Oper) (T:Rg) (σ:St),
  seqK D call N ops k kp l T σ= .ok r→bindR (seqE D call N ops l T σ) (RO.app k kp)= .ok r
 | [],T,σ,h=>h
 | o::rest,T,σ,h=>by
  unfold seqK at h
  have:=oneK_le D call N _ o T σ _ kp r h
  unfold seqE
  cases hw:wantE N ops o T with
  | false=>
   rw [hw] at this
   exact seqK_le ops k kp r rest _ _ this
  | true=>
   rw [hw] at this
   simp only [cond_true] at this ⊢
   rw [bindR_assoc]
   rw [bindR_ok] at this ⊢
   obtain ⟨r1,h1,h2⟩:=this
   refine ⟨r1,h1,?_⟩
   cases r1 with
   | go T σ=>exact seqK_le ops k kp r rest _ _ h2
   | pan v σ=>exact h2
theorem drawK_le(ops:Array Oper)(k:Rg→St→R ρ)(r:ρ):∀(l:List PlanItem) (sn:List St) (T:Rg) (σ:St),
  drawK D call N ops k l sn T σ= .ok r→bindR (drawE D call N ops l sn T σ) (fun p=>k p.1 p.2)= .ok r
 | [],_,T,σ,h=>h
 | it::rest,sn,T,σ,h=>by
  unfold drawK at h
  unfold drawE
  cases hop:ops[it.i]? with
  | none=>rw [hop] at h;cases h
  | some o=>
   rw [hop] at h
   simp only at h ⊢
   cases hw:wantE N ops o T with
   | false=>
    rw [hw] at h
    exact drawK_le ops k r rest _ _ _ h
   | true=>
    rw [hw] at h
    simp only [cond_true] at h ⊢
    cases hact:it.act with
    | true=>
     rw [hact] at h
     simp only [cond_true] at h ⊢
     cases hb:(o.op.operands.toList.all fun x=>bndA σ.n (evalE D T x)) with
     | false=>rw [hb] at h;cases h
     | true=>
      rw [hb] at h
      simp only [cond_true] at h ⊢
      have:=oneK_le D call N true o T σ _ _ r h
      simp only [cond_true] at this
      rw [bindR_assoc]
      rw [bindR_ok] at this ⊢
      obtain ⟨r1,h1,h2⟩:=this
      refine ⟨r1,h1,?_⟩
      cases r1 with
      | go T σ'=>
       simp only [RO.app] at h2 ⊢
       cases hle:Nat.ble σ.n σ'.n with
       | true=>rw [hle] at h2;exact drawK_le ops k r rest _ _ _ h2
       | false=>rw [hle] at h2;cases h2
      | pan v σ=>cases h2
    | false=>
     rw [hact] at h
     simp only [cond_false] at h ⊢
     cases hc:clsD D o.op with
     | pure=>
      rw [hc] at h
      simp only at h ⊢
      rw [bindR_assoc,bindR_ok]
      rw [bindR_ok] at h
      obtain ⟨v,h1,h2⟩:=h
      exact ⟨v,h1,drawK_le ops k r rest _ _ _ h2⟩
     | read=>
      rw [hc] at h
      simp only at h ⊢
      rw [bindR_assoc,bindR_ok]
      rw [bindR_ok] at h
      obtain ⟨v,h1,h2⟩:=h
      refine ⟨v,h1,?_⟩
      cases hs:(Nat.blt it.lo (drawK.lenS sn) && (sn.take (Nat.sub (drawK.lenS sn) it.lo)).all (sameE D T o.op v)) with
      | false=>rw [hs] at h2;cases h2
      | true=>rw [hs] at h2;exact drawK_le ops k r rest _ _ _ h2
     | alloc=>
      rw [hc] at h
      simp only at h ⊢
      rw [bindR_assoc,bindR_ok]
      rw [bindR_ok] at h
      obtain ⟨p,h1,h2⟩:=h
      refine ⟨p,h1,?_⟩
      cases hs:bndO (σ.n+1) p.2 with
      | false=>rw [hs] at h2;cases h2
      | true=>rw [hs] at h2;exact drawK_le ops k r rest _ _ _ h2
     | act=>rw [hc] at h;cases h
theorem regionK_le(ops:Array Oper)(d:Bool)(T:Rg)(σ:St)(k:Rg→St→R ρ)(kp:AV→St→R ρ)(r:ρ)(h:regionK D call N ops d T σ k kp= .ok r):
  bindR (regionE D call N ops d T σ) (RO.app k kp)= .ok r:=by
 unfold regionK at h
 unfold regionE
 cases d with
 | false=>exact seqK_le D call N ops k kp r _ _ _ h
 | true=>
  simp only [cond_true] at h ⊢
  cases hok:drawOkF ops (D.cut ops) with
  | false=>rw [hok] at h;cases h
  | true=>
   rw [hok] at h
   simp only [cond_true] at h ⊢
   have:=drawK_le D call N ops _ r _ _ _ _ h
   rw [bindR_assoc]
   rw [bindR_ok] at this ⊢
   obtain ⟨p,h1,h2⟩:=this
   refine ⟨p,h1,?_⟩
   cases hle:Nat.ble ops.size (D.cut ops) with
   | true=>rw [hle] at h2;exact h2
   | false=>
    rw [hle] at h2
    simp only [cond_false] at h2 ⊢
    cases hq:(Nat.beq ops.size (Nat.succ (D.cut ops)) && canE ops (D.cut ops) 0 (D.cut ops)) with
    | false=>rw [hq] at h2;cases h2
    | true=>rw [hq] at h2;exact seqK_le D call N ops k kp r _ _ _ h2
theorem condR_bind{α β:Type}(v:AV)(a b:R α)(f:α→R β):bindR (condR v a b) f=condR v (bindR a f) (bindR b f):=by
 unfold condR
 split
 ·rename_i c;cases c<;>rfl
 ·rfl
theorem denK_le:∀(c:Code) (k:K ρ) (T:Rg) (σ:St) (r:ρ),denK D call N c k T σ= .ok r→bindR (dd D call N c T σ) k.app= .ok r
 | .skip,k,T,σ,r,h=>h
 | .label _,k,T,σ,r,h=>h
 | .ret,k,T,σ,r,h=>h
 | .exit id,k,T,σ,r,h=>h
 | .seq a b,k,T,σ,r,h=>by
  simp only [denK] at h
  simp only [dd,bindR_assoc]
  have:=denK_le a _ T σ r h
  rw [bindR_ok] at this ⊢
  obtain ⟨o,h1,h2⟩:=this
  refine ⟨o,h1,?_⟩
  cases o with
  | nxt T σ=>exact denK_le b k T σ r h2
  | _=>exact h2
 | .cond c a b,k,T,σ,r,h=>by
  simp only [denK] at h
  simp only [dd,condR_bind]
  unfold condR at h ⊢
  split at h
  ·rename_i q heq
   cases q with
   | true=>exact denK_le a k T σ r h
   | false=>exact denK_le b k T σ r h
  ·cases h
 | .block id b,k,T,σ,r,h=>by
  simp only [denK] at h
  simp only [dd,bindR_assoc]
  have:=denK_le b _ T σ r h
  rw [bindR_ok] at this ⊢
  obtain ⟨o,h1,h2⟩:=this
  refine ⟨o,h1,?_⟩
  cases o with
  | exit id' T σ=>
   simp only [K.app,kblk] at h2
   cases hb:Nat.beq id' id with
   | true=>rw [hb] at h2;simp only [hb];exact h2
   | false=>rw [hb] at h2;simp only [hb];exact h2
  | _=>exact h2
 | .loop b,k,T,σ,r,h=>h
 | .scope b,k,T,σ,r,h=>denK_le b k T σ r h
 | .region _ ops d,k,T,σ,r,h=>by
  simp only [denK] at h
  simp only [dd,bindR_assoc]
  have:=regionK_le D call N ops d T σ _ _ r h
  rw [bindR_ok] at this ⊢
  obtain ⟨o,h1,h2⟩:=this
  refine ⟨o,h1,?_⟩
  cases o<;>exact h2
 | .rangeFunc _ _ _ _,k,T,σ,r,h=>by cases h
 | .goto _,k,T,σ,r,h=>by cases h
 | .refuse _,k,T,σ,r,h=>by cases h
theorem dd_of{c:Code}{T:Rg}{σ:St}{o:Oc}(h:denK D call N c kOc T σ= .ok o):dd D call N c T σ= .ok o:=by
 have:=denK_le D call N c kOc T σ o h
 rw [bindR_ok] at this
 obtain ⟨o',h1,h2⟩:=this
 rw [h1]
 cases o'<;>exact h2
end
end Go.Dt
namespace Go.Dt
section
variable {D:Tab} {N:Nat}
def RG(N:Nat)(X:Nat→R OpEnd):RO→Prop
 | .go T' σ'=>∃L',TE N T' L'∧∃n,X n= .ok (.go L' [] none σ')
 | .pan v σ'=>∃L' n,X n= .ok (.panic v L' [] none σ')
theorem oneE_run{o:Oper}{T:Rg}{L:List AV}{σ:St}{r:RO}(hT:TE N T L)(h:oneE D (callW D) N o T σ= .ok r):
  RG N (fun n=>runOne D (fns D n).call (fns D n).round false o L [] none σ) r:=by
 unfold oneE at h
 rw [bindR_ok] at h
 obtain ⟨⟨nx,σ1⟩,he,h⟩:=h
 rw [← hT.eval] at he
 unfold runOne
 simp only [he]
 cases nx with
 | value v=>
  simp only [nextE] at h
  cases h
  exact ⟨_,hT.put _ _,0,rfl⟩
 | skip=>
  simp only [nextE] at h
  cases h
  exact ⟨_,hT.put _ _,0,rfl⟩
 | enter f args=>
  simp only [nextE,bindR_ok] at h
  obtain ⟨⟨e,σ2⟩,hc,h⟩:=h
  obtain ⟨n,hn⟩:=callW_ok.1 hc
  cases e with
  | ret v=>
   simp only at h
   cases h
   refine ⟨_,hT.put _ _,n,?_⟩
   show ((fns D n).call f args σ1>>=_)=_
   rw [hn];rfl
  | panic v=>
   simp only at h
   cases h
   refine ⟨L,n,?_⟩
   show ((fns D n).call f args σ1>>=_)=_
   rw [hn];rfl
 | panic v=>
  simp only [nextE] at h
  cases h
  exact ⟨L,0,rfl⟩
 | _=>simp [nextE] at h
theorem runOne_up{o:Oper}{L:List AV}{σ:St}{r:OpEnd}{n m:Nat}(h:runOne D (fns D n).call (fns D n).round false o L [] none σ= .ok r)(hm:n≤m):
  runOne D (fns D m).call (fns D m).round false o L [] none σ= .ok r:=
 runOne_mono (fns_le' hm).call (fns_le' hm).round _ _ _ _ _ _ _ h
theorem seqE_run{ops:Array Oper}:∀(l:List Oper) {T:Rg} {L:List AV} {σ:St} {r:RO},TE N T L→seqE D (callW D) N ops l T σ= .ok r→
  RG N (fun n=>runSeq D (fns D n).call (fns D n).round false ops l L [] none σ) r
 | [],T,L,σ,r,hT,h=>by
  simp only [seqE] at h
  cases h
  exact ⟨L,hT,0,rfl⟩
 | o::rest,T,L,σ,r,hT,h=>by
  unfold seqE at h
  unfold runSeq
  rw [hT.want]
  cases hw:wantE N ops o T with
  | false=>
   rw [hw] at h
   simp only [cond_false] at h
   simp only [Bool.false_eq_true,if_false]
   exact seqE_run rest (hT.put _ _) h
  | true=>
   rw [hw] at h
   simp only [cond_true,bindR_ok] at h
   simp only [if_true]
   obtain ⟨r1,h1,h⟩:=h
   have k1:=oneE_run hT h1
   cases r1 with
   | go T1 σ1=>
    obtain ⟨L1,hT1,n1,hn1⟩:=k1
    have k2:=seqE_run rest hT1 h
    cases r with
    | go T' σ'=>
     obtain ⟨L',hT',n2,hn2⟩:=k2
     refine ⟨L',hT',max n1 n2,?_⟩
     dsimp only at hn1 hn2 ⊢
     rw [runOne_up hn1 (Nat.le_max_left n1 n2)]
     exact runSeq_mono (fns_le' (Nat.le_max_right n1 n2)).call (fns_le' (Nat.le_max_right n1 n2)).round _ _ _ _ _ _ _ _ hn2
    | pan v σ'=>
     obtain ⟨L',n2,hn2⟩:=k2
     refine ⟨L',max n1 n2,?_⟩
     dsimp only at hn1 hn2 ⊢
     rw [runOne_up hn1 (Nat.le_max_left n1 n2)]
     exact runSeq_mono (fns_le' (Nat.le_max_right n1 n2)).call (fns_le' (Nat.le_max_right n1 n2)).round _ _ _ _ _ _ _ _ hn2
   | pan v σ1=>
    obtain ⟨L1,n1,hn1⟩:=k1
    simp only [RO.app] at h
    cases h
    refine ⟨L1,n1,?_⟩
    dsimp only at hn1 ⊢
    rw [hn1]
    rfl
theorem lenS_eq:∀l:List St,drawK.lenS l=l.length
 | []=>rfl
 | _::l=>by simp [drawK.lenS,lenS_eq l]
theorem sameE_eq{T:Rg}{L:List AV}(hT:TE N T L):sameAt D L=sameE D T:=by
 funext op v s
 simp only [sameAt,sameE,sameR,hT.eval]
 rfl
theorem drawE_run{ops:Array Oper}:∀(l:List PlanItem) (sn:List St) {T:Rg} {L:List AV} {σ:St} {p:Rg×St},TE N T L→drawE D (callW D) N ops l sn T σ= .ok p→
  ∃L',TE N p.1 L'∧∃n,runDraw D (fns D n).call (fns D n).round false ops l sn L [] none σ= .ok (.go L' [] none p.2)
 | [],sn,T,L,σ,p,hT,h=>by
  simp only [drawE] at h
  cases h
  exact ⟨L,hT,0,rfl⟩
 | it::rest,sn,T,L,σ,p,hT,h=>by
  unfold drawE at h
  unfold runDraw
  cases hop:ops[it.i]? with
  | none=>rw [hop] at h;cases h
  | some o=>
   rw [hop] at h
   simp only at h ⊢
   rw [hT.want]
   cases hw:wantE N ops o T with
   | false=>
    rw [hw] at h
    simp only [cond_false] at h
    simp only [Bool.false_eq_true,if_false]
    have e:(if it.act=true then σ::sn else sn)=(bif it.act then σ::sn else sn):=by cases it.act<;>rfl
    rw [e]
    exact drawE_run rest _ (hT.put _ _) h
   | true=>
    rw [hw] at h
    simp only [cond_true] at h
    simp only [if_true]
    cases hact:it.act with
    | true=>
     rw [hact] at h
     simp only [cond_true] at h
     simp only [if_true]
     rw [hT.eval]
     cases hb:(o.op.operands.toList.all fun x=>bndA σ.n (evalE D T x)) with
     | false=>rw [hb] at h;cases h
     | true=>
      rw [hb] at h
      simp only [cond_true,bindR_ok] at h
      simp only [if_true]
      obtain ⟨r1,h1,h⟩:=h
      have k1:=oneE_run hT h1
      cases r1 with
      | pan v σ1=>cases h
      | go T1 σ1=>
       obtain ⟨L1,hT1,n1,hn1⟩:=k1
       simp only [RO.app] at h
       cases hle:Nat.ble σ.n σ1.n with
       | false=>rw [hle] at h;cases h
       | true=>
        rw [hle] at h
        simp only [cond_true] at h
        obtain ⟨L',hT',n2,hn2⟩:=drawE_run rest _ hT1 h
        refine ⟨L',hT',max n1 n2,?_⟩
        dsimp only at hn1 ⊢
        rw [runOne_up hn1 (Nat.le_max_left n1 n2)]
        have hle':σ.n≤σ1.n:=Nat.le_of_ble_eq_true hle
        show (if σ.n≤σ1.n then _ else _)=_
        rw [if_pos hle']
        exact runDraw_mono (fns_le' (Nat.le_max_right n1 n2)).call (fns_le' (Nat.le_max_right n1 n2)).round _ _ _ _ _ _ _ _ _ hn2
    | false=>
     rw [hact] at h
     simp only [cond_false] at h
     simp only [Bool.false_eq_true,if_false]
     cases hc:clsD D o.op with
     | pure=>
      rw [hc] at h
      simp only [bindR_ok] at h
      obtain ⟨v,hv,h⟩:=h
      rw [← hT.eval] at hv
      simp only [hv]
      exact drawE_run rest _ (hT.put _ _) h
     | read=>
      rw [hc] at h
      simp only [bindR_ok] at h
      obtain ⟨v,hv,h⟩:=h
      rw [← hT.eval] at hv
      simp only [hv]
      rw [lenS_eq,blt_eq,← sameE_eq hT] at h
      have hsub:Nat.sub sn.length it.lo=sn.length - it.lo:=rfl
      rw [hsub] at h
      cases hs:(decide (it.lo<sn.length) && (sn.take (sn.length - it.lo)).all (sameAt D L o.op v)) with
      | false=>rw [hs] at h;cases h
      | true=>
       rw [hs] at h
       simp only [cond_true] at h
       show ∃L',TE N p.1 L'∧∃n,(if (decide (it.lo<sn.length) && (sn.take (sn.length - it.lo)).all (sameAt D L o.op v))=true then _ else _)=_
       rw [hs]
       simp only [if_true]
       exact drawE_run rest _ (hT.put _ _) h
     | alloc=>
      rw [hc] at h
      simp only [bindR_ok] at h
      obtain ⟨⟨v,ob⟩,hv,h⟩:=h
      rw [← hT.eval] at hv
      simp only [hv]
      cases hs:bndO (σ.n+1) ob with
      | false=>simp only [hs] at h;cases h
      | true=>
       simp only [hs,cond_true] at h
       show ∃L',TE N p.1 L'∧∃n,(if bndO (σ.n+1) ob=true then _ else _)=_
       rw [hs]
       simp only [if_true]
       exact drawE_run rest _ (hT.put _ _) h
     | act=>rw [hc] at h;cases h
theorem regionE_run{ops:Array Oper}{d:Bool}{T:Rg}{L:List AV}{σ:St}{r:RO}(hT:TE N T L)(h:regionE D (callW D) N ops d T σ= .ok r):
  RG N (fun n=>runRegion D (fns D n).call (fns D n).round false ops d L [] none σ) r:=by
 unfold regionE at h
 unfold runRegion
 cases d with
 | false=>exact seqE_run _ hT h
 | true=>
  simp only [cond_true] at h
  simp only [if_true]
  cases hok:drawOkF ops (D.cut ops) with
  | false=>rw [hok] at h;cases h
  | true=>
   rw [hok] at h
   simp only [cond_true,bindR_ok] at h
   obtain ⟨p,hp,h⟩:=h
   simp only [drawOkF_ok hok,if_true]
   obtain ⟨L1,hT1,n1,hn1⟩:=drawE_run _ _ hT hp
   rw [ble_eq'] at h
   by_cases hle:ops.size≤D.cut ops
   ·rw [decide_eq_true hle] at h
    simp only [cond_true] at h
    cases h
    refine ⟨L1,hT1,n1,?_⟩
    dsimp only
    rw [hn1]
    show (if ops.size=D.cut ops+1 then _ else _)=_
    rw [if_neg (by omega)]
    show (runRest D beqL beqH ops (D.cut ops) L1 p.2>>=_)=_
    unfold runRest
    rw [if_pos hle]
    rfl
   ·rw [decide_eq_false hle] at h
    simp only [cond_false] at h
    cases hlast:(Nat.beq ops.size (Nat.succ (D.cut ops)) && canE ops (D.cut ops) 0 (D.cut ops)) with
    | false=>rw [hlast] at h;cases h
    | true=>
     rw [hlast] at h
     simp only [cond_true] at h
     rw [Bool.and_eq_true,beq_eq,decide_eq_true_eq] at hlast
     have k2:=seqE_run _ hT1 h
     cases r with
     | go T' σ'=>
      obtain ⟨L',hT',n2,hn2⟩:=k2
      refine ⟨L',hT',max n1 n2,?_⟩
      dsimp only at hn2 ⊢
      rw [runDraw_mono (fns_le' (Nat.le_max_left n1 n2)).call (fns_le' (Nat.le_max_left n1 n2)).round _ _ _ _ _ _ _ _ _ hn1]
      show (if ops.size=D.cut ops+1 then _ else _)=_
      rw [if_pos hlast.1]
      show (if canE ops (D.cut ops) 0 (D.cut ops)=true then _ else _)=_
      rw [if_pos hlast.2]
      exact runSeq_mono (fns_le' (Nat.le_max_right n1 n2)).call (fns_le' (Nat.le_max_right n1 n2)).round _ _ _ _ _ _ _ _ hn2
     | pan v σ'=>
      obtain ⟨L',n2,hn2⟩:=k2
      refine ⟨L',max n1 n2,?_⟩
      dsimp only at hn2 ⊢
      rw [runDraw_mono (fns_le' (Nat.le_max_left n1 n2)).call (fns_le' (Nat.le_max_left n1 n2)).round _ _ _ _ _ _ _ _ _ hn1]
      show (if ops.size=D.cut ops+1 then _ else _)=_
      rw [if_pos hlast.1]
      show (if canE ops (D.cut ops) 0 (D.cut ops)=true then _ else _)=_
      rw [if_pos hlast.2]
      exact runSeq_mono (fns_le' (Nat.le_max_right n1 n2)).call (fns_le' (Nat.le_max_right n1 n2)).round _ _ _ _ _ _ _ _ hn2
def fr0(fn:FuncId)(L:List AV)(k:List AItem):AFr:= {fn,T:=L,todo:=k,defers:=[],round:=none}
def DR(D:Tab)(N:Nat)(fn:FuncId)(L:List AV)(σ:St)(c:List AItem):Oc→Prop
 | .nxt T' σ'=>∃L',TE N T' L'∧∀k n r,(fns D n).run (fr0 fn L' k) none σ'= .ok r→∃m,(fns D m).run (fr0 fn L (c++k)) none σ= .ok r
 | .exit id T' σ'=>∃L',TE N T' L'∧∀k k' n r,exitTo id k=some k'→(fns D n).run (fr0 fn L' k') none σ'= .ok r→∃m,(fns D m).run (fr0 fn L (c++k)) none σ= .ok r
 | .ret T' σ'=>∃L',TE N T' L'∧∀k n r,(fns D n).finish fn L' [] none none σ'= .ok r→∃m,(fns D m).run (fr0 fn L (c++k)) none σ= .ok r
 | .pan v σ'=>∀k,∃m,(fns D m).run (fr0 fn L (c++k)) none σ= .ok (.panic v,none,σ')
theorem loopLim_ok{step:Rg→St→R Oc}{T:Rg}{σ:St}{o:Oc}(h:loopLim step T σ= .ok o):∃n,loopN step n T σ= .ok o:=by
 unfold loopLim at h
 split at h
 ·rename_i hx
  cases h
  exact hx.choose_spec
 ·cases h
theorem loopN_up{step:Rg→St→R Oc}:∀(n:Nat) {T:Rg} {σ:St} {o:Oc},loopN step n T σ= .ok o→loopN step (n+1) T σ= .ok o
 | 0,_,_,_,h=>by cases h
 | n+1,T,σ,o,h=>by
  unfold loopN at h ⊢
  split at h
  ·exact loopN_up n h
  ·exact h
theorem loopN_le{step:Rg→St→R Oc}{n m:Nat}(hnm:n≤m){T:Rg}{σ:St}{o:Oc}(h:loopN step n T σ= .ok o):loopN step m T σ= .ok o:=by
 induction hnm with
 | refl=>exact h
 | step _ ih=>exact loopN_up _ ih
theorem loopLim_of{step:Rg→St→R Oc}{T:Rg}{σ:St}{o:Oc}{n:Nat}(h:loopN step n T σ= .ok o):loopLim step T σ= .ok o:=by
 unfold loopLim
 have hx:∃r n,loopN step n T σ= .ok r:=⟨o,n,h⟩
 rw [dif_pos hx]
 obtain ⟨m,hm⟩:=hx.choose_spec
 have h1:=loopN_le (Nat.le_max_left n m) h
 have h2:=loopN_le (Nat.le_max_right n m) hm
 rw [h1] at h2
 exact h2.symm
theorem loop_next{step:Rg→St→R Oc}{T T':Rg}{σ σ':St}{o:Oc}(h:step T σ= .ok (.nxt T' σ'))(ho:loopLim step T' σ'= .ok o):loopLim step T σ= .ok o:=by
 obtain ⟨n,hn⟩:=loopLim_ok ho
 refine loopLim_of (n:=n+1) ?_
 unfold loopN
 rw [h]
 exact hn
theorem loop_exit{step:Rg→St→R Oc}{T T':Rg}{σ σ':St}{id:Nat}(h:step T σ= .ok (.exit id T' σ')):loopLim step T σ= .ok (.exit id T' σ'):=by
 refine loopLim_of (n:=1) ?_
 unfold loopN
 rw [h]
theorem loop_ret{step:Rg→St→R Oc}{T T':Rg}{σ σ':St}(h:step T σ= .ok (.ret T' σ')):loopLim step T σ= .ok (.ret T' σ'):=by
 refine loopLim_of (n:=1) ?_
 unfold loopN
 rw [h]
theorem run_step{fr fr':AFr}{σ:St}{r:AEnd×Pan×St}{n:Nat}(h:∀F,runF D F fr none σ=F.run fr' none σ)(hr:(fns D n).run fr' none σ= .ok r):(fns D (n+1)).run fr none σ= .ok r:=by
 show runF D (fns D n) fr none σ= .ok r
 rw [h];exact hr
theorem run_succ(n:Nat)(fr:AFr)(pan:Pan)(σ:St):(fns D (n+1)).run fr pan σ=runF D (fns D n) fr pan σ:=rfl
theorem DR.pre{fn:FuncId}{L:List AV}{σ:St}{c c':List AItem}{o:Oc}(h:DR D N fn L σ c o)(hs:∀k F,runF D F (fr0 fn L (c'++k)) none σ=F.run (fr0 fn L (c++k)) none σ):
  DR D N fn L σ c' o:=by
 cases o with
 | nxt T' σ'=>
  obtain ⟨L',hT,h⟩:=h
  refine ⟨L',hT,fun k n r hr=> ?_⟩
  obtain ⟨m,hm⟩:=h k n r hr
  exact ⟨m+1,run_step (hs k) hm⟩
 | exit id T' σ'=>
  obtain ⟨L',hT,h⟩:=h
  refine ⟨L',hT,fun k k' n r he hr=> ?_⟩
  obtain ⟨m,hm⟩:=h k k' n r he hr
  exact ⟨m+1,run_step (hs k) hm⟩
 | ret T' σ'=>
  obtain ⟨L',hT,h⟩:=h
  refine ⟨L',hT,fun k n r hr=> ?_⟩
  obtain ⟨m,hm⟩:=h k n r hr
  exact ⟨m+1,run_step (hs k) hm⟩
 | pan v σ'=>
  intro k
  obtain ⟨m,hm⟩:=h k
  exact ⟨m+1,run_step (hs k) hm⟩
theorem DR.then{fn:FuncId}{L:List AV}{σ:St}{c d:List AItem}{T1:Rg}{σ1:St}{o:Oc}(h:DR D N fn L σ c (.nxt T1 σ1))(k:∀L1,TE N T1 L1→DR D N fn L1 σ1 d o):
  DR D N fn L σ (c++d) o:=by
 obtain ⟨L1,hT1,h⟩:=h
 have k:=k L1 hT1
 cases o with
 | nxt T' σ'=>
  obtain ⟨L',hT,k⟩:=k
  refine ⟨L',hT,fun q n r hr=> ?_⟩
  obtain ⟨m,hm⟩:=k q n r hr
  rw [List.append_assoc]
  exact h _ m r hm
 | exit id T' σ'=>
  obtain ⟨L',hT,k⟩:=k
  refine ⟨L',hT,fun q k' n r he hr=> ?_⟩
  obtain ⟨m,hm⟩:=k q k' n r he hr
  rw [List.append_assoc]
  exact h _ m r hm
 | ret T' σ'=>
  obtain ⟨L',hT,k⟩:=k
  refine ⟨L',hT,fun q n r hr=> ?_⟩
  obtain ⟨m,hm⟩:=k q n r hr
  rw [List.append_assoc]
  exact h _ m r hm
 | pan v σ'=>
  intro q
  obtain ⟨m,hm⟩:=k q
  rw [List.append_assoc]
  exact h _ m _ hm
theorem DR.stop{fn:FuncId}{L:List AV}{σ:St}{c d:List AItem}{o:Oc}(h:DR D N fn L σ c o)(hd:∀id k,exitTo id (d++k)=exitTo id k)(hn:∀T' σ',o≠ .nxt T' σ'):
  DR D N fn L σ (c++d) o:=by
 cases o with
 | nxt T' σ'=>exact (hn _ _ rfl).elim
 | exit id T' σ'=>
  obtain ⟨L',hT,h⟩:=h
  refine ⟨L',hT,fun q k' n r he hr=> ?_⟩
  rw [List.append_assoc]
  exact h _ k' n r (by rw [hd];exact he) hr
 | ret T' σ'=>
  obtain ⟨L',hT,h⟩:=h
  refine ⟨L',hT,fun q n r hr=> ?_⟩
  rw [List.append_assoc]
  exact h _ n r hr
 | pan v σ'=>
  intro q
  rw [List.append_assoc]
  exact h _
theorem dd_run(fn:FuncId):∀(c:Code) (T:Rg) (L:List AV) (σ:St) (o:Oc),TE N T L→dd D (callW D) N c T σ= .ok o→DR D N fn L σ [.code c] o
 | .skip,T,L,σ,o,hT,h=>by
  simp only [dd] at h;cases h
  exact ⟨L,hT,fun k n r hr=>⟨n+1,run_step (fun F=>rfl) hr⟩⟩
 | .label _,T,L,σ,o,hT,h=>by
  simp only [dd] at h;cases h
  exact ⟨L,hT,fun k n r hr=>⟨n+1,run_step (fun F=>rfl) hr⟩⟩
 | .ret,T,L,σ,o,hT,h=>by
  simp only [dd] at h;cases h
  exact ⟨L,hT,fun k n r hr=>⟨n+1,hr⟩⟩
 | .exit id,T,L,σ,o,hT,h=>by
  simp only [dd] at h;cases h
  refine ⟨L,hT,fun k k' n r he hr=>⟨n+1,run_step (fr':=fr0 fn L k') (fun F=> ?_) hr⟩⟩
  simp only [runF,fr0,List.singleton_append,he]
 | .seq a b,T,L,σ,o,hT,h=>by
  simp only [dd,bindR_ok] at h
  obtain ⟨o1,h1,h⟩:=h
  have k1:=dd_run fn a T L σ o1 hT h1
  refine DR.pre (c:=[.code a]++[.code b]) ?_ (fun k F=>rfl)
  cases o1 with
  | nxt T1 σ1=>exact k1.then fun L1 hT1=>dd_run fn b T1 L1 σ1 o hT1 h
  | exit id T1 σ1=>
   cases h
   exact k1.stop (fun id k=>rfl) (fun _ _ e=>by cases e)
  | ret T1 σ1=>
   cases h
   exact k1.stop (fun id k=>rfl) (fun _ _ e=>by cases e)
  | pan v σ1=>
   cases h
   exact k1.stop (fun id k=>rfl) (fun _ _ e=>by cases e)
 | .cond c a b,T,L,σ,o,hT,h=>by
  simp only [dd,condR] at h
  split at h
  ·rename_i q heq
   cases q with
   | true=>
    refine DR.pre (dd_run fn a T L σ o hT h) (fun k F=> ?_)
    have:evalO D L c= .base (.bool true):=by rw [hT.eval];exact heq
    simp only [runF,fr0,List.singleton_append,this]
    rfl
   | false=>
    refine DR.pre (dd_run fn b T L σ o hT h) (fun k F=> ?_)
    have:evalO D L c= .base (.bool false):=by rw [hT.eval];exact heq
    simp only [runF,fr0,List.singleton_append,this]
    rfl
  ·cases h
 | .block id b,T,L,σ,o,hT,h=>by
  simp only [dd,bindR_ok] at h
  obtain ⟨o1,h1,h⟩:=h
  have k1:=dd_run fn b T L σ o1 hT h1
  refine DR.pre (c:=[.code b]++[.inBlock id]) ?_ (fun k F=>rfl)
  cases o1 with
  | nxt T1 σ1=>
   cases h
   exact k1.then fun L1 hT1=>⟨L1,hT1,fun k n r hr=>⟨n+1,run_step (fun F=>rfl) hr⟩⟩
  | exit id' T1 σ1=>
   simp only at h
   obtain ⟨L1,hT1,k1⟩:=k1
   rw [beq_eq] at h
   by_cases hid:id'=id
   ·rw [decide_eq_true hid] at h
    simp only [cond_true] at h
    cases h
    refine ⟨L1,hT1,fun k n r hr=> ?_⟩
    rw [List.append_assoc]
    exact k1 _ k n r (by simp [exitTo,hid]) hr
   ·rw [decide_eq_false hid] at h
    simp only [cond_false] at h
    cases h
    refine ⟨L1,hT1,fun k k' n r he hr=> ?_⟩
    rw [List.append_assoc]
    exact k1 _ k' n r (by simp [exitTo,Ne.symm hid,he]) hr
  | ret T1 σ1=>
   cases h
   obtain ⟨L1,hT1,k1⟩:=k1
   refine ⟨L1,hT1,fun k n r hr=> ?_⟩
   rw [List.append_assoc]
   exact k1 _ n r hr
  | pan v σ1=>
   cases h
   intro k
   rw [List.append_assoc]
   exact k1 _
 | .loop b,T,L,σ,o,hT,h=>by
  simp only [dd] at h
  obtain ⟨n,hn⟩:=loopLim_ok h
  refine DR.pre (c:=[.code b]++[.inLoop b]) ?_ (fun k F=>rfl)
  clear h
  induction n generalizing T L σ with
  | zero=>cases hn
  | succ n ih=>
   unfold loopN at hn
   split at hn
   ·rename_i T1 σ1 h1
    refine (dd_run fn b T L σ _ hT h1).then fun L1 hT1=> ?_
    exact DR.pre (ih T1 L1 σ1 hT1 hn) (fun k F=>rfl)
   ·rename_i hne
    exact (dd_run fn b T L σ o hT hn).stop (fun id k=>rfl) fun T' σ' e=>hne T' σ' (e ▸ hn)
 | .scope b,T,L,σ,o,hT,h=>by
  simp only [dd] at h
  have k1:=dd_run fn b T L σ o hT h
  refine DR.pre (c:=[.code b]++[.inScope b]) ?_ (fun k F=>rfl)
  cases o with
  | nxt T1 σ1=>exact k1.then fun L1 hT1=>⟨L1,hT1,fun k n r hr=>⟨n+1,run_step (fun F=>rfl) hr⟩⟩
  | exit id T1 σ1=>exact k1.stop (fun id k=>rfl) (fun _ _ e=>by cases e)
  | ret T1 σ1=>exact k1.stop (fun id k=>rfl) (fun _ _ e=>by cases e)
  | pan v σ1=>exact k1.stop (fun id k=>rfl) (fun _ _ e=>by cases e)
 | .region id ops d,T,L,σ,o,hT,h=>by
  simp only [dd,bindR_ok] at h
  obtain ⟨r1,h1,h⟩:=h
  have k1:=regionE_run hT h1
  cases r1 with
  | go T1 σ1=>
   cases h
   obtain ⟨L1,hT1,n1,hn1⟩:=k1
   refine ⟨L1,hT1,fun k n r hr=>(⟨max n1 n+1,?_⟩:∃m,_)⟩
   rw [run_succ]
   dsimp only at hn1
   have e1:=runRegion_mono (D:=D) (fns_le' (Nat.le_max_left n1 n)).call (fns_le' (Nat.le_max_left n1 n)).round _ _ _ _ _ _ _ _ hn1
   simp only [runF,fr0,List.singleton_append,Option.isSome_none,e1]
   exact (fns_le' (Nat.le_max_right n1 n)).run _ _ _ _ hr
  | pan v σ1=>
   cases h
   obtain ⟨L1,n1,hn1⟩:=k1
   intro k
   refine ⟨n1+2,?_⟩
   rw [run_succ]
   dsimp only at hn1
   have e1:=runRegion_mono (D:=D) (fns_le' (Nat.le_succ n1)).call (fns_le' (Nat.le_succ n1)).round _ _ _ _ _ _ _ _ hn1
   simp only [runF,fr0,List.singleton_append,Option.isSome_none,e1]
   rfl
 | .rangeFunc _ _ _ _,T,L,σ,o,hT,h=>by simp [dd] at h
 | .goto _,T,L,σ,o,hT,h=>by simp [dd] at h
 | .refuse _,T,L,σ,o,hT,h=>by simp [dd] at h
def argE(args:List AV):Rg:=fun i=>args.getD i .undef
def resK{ρ:Type}(D:Tab)(σ:St)(T:Rg)(k:List AV→R ρ):List ResultVar→R ρ
 | []=>k []
 | .tmp t::l=>resK D σ T (fun vs=>k (T t::vs)) l
 | .cell a t::l=>bindR (loadV D σ t (T a)) fun v=>resK D σ T (fun vs=>k (v::vs)) l
def oneRes(vs:List AV):AV:=match vs with | [v]=>v | vs=> .tuple vs
noncomputable def bodyW(D:Tab)(call:CallT)(fn:Func)(c:Code)(args:List AV)(σ:St):R (AEnd×St):=
 denK D call fn.ntmps c ⟨fun T σ=>resK D σ T (fun vs=> .ok (.ret (oneRes vs),σ)) fn.results.toList,fun T σ=>resK D σ T (fun vs=> .ok (.ret (oneRes vs),σ)) fn.results.toList,
  fun _ _ _=> .error "exit",fun v σ=> .ok (.panic v,σ)⟩ (argE args) σ
theorem resK_ok{ρ:Type}{σ:St}{T:Rg}{L:List AV}(hT:TE N T L){r:ρ}:∀(l:List ResultVar) (k:List AV→R ρ),resK D σ T k l= .ok r→∃vs,resultV D σ L l= .ok vs∧k vs= .ok r
 | [],k,h=>⟨[],rfl,h⟩
 | .tmp t::l,k,h=>by
  obtain ⟨vs,h1,h2⟩:=resK_ok hT l _ h
  refine ⟨T t::vs,?_,h2⟩
  simp only [resultV,h1,hT.2 t]
  rfl
 | .cell a t::l,k,h=>by
  simp only [resK,bindR_ok] at h
  obtain ⟨v,hv,h⟩:=h
  obtain ⟨vs,h1,h2⟩:=resK_ok hT l _ h
  refine ⟨v::vs,?_,h2⟩
  rw [hT.2 a] at hv
  simp only [resultV,h1,hv]
  rfl
theorem finishW_ok{f:FuncId}{fn:Func}{σ:St}{T:Rg}{L:List AV}{r:AEnd×St}(hf:D.func f=some fn)(hT:TE N T L)(h:resK D σ T (fun vs=> .ok (.ret (oneRes vs),σ)) fn.results.toList= .ok r)(n:Nat):
  (fns D (n+1)).finish f L [] none none σ= .ok (r.1,none,r.2):=by
 obtain ⟨vs,h1,h2⟩:=resK_ok hT _ _ h
 cases h2
 show finishF D (fns D n) f L [] none none σ=_
 simp only [finishF,resultsV,hf,h1]
 cases vs with
 | nil=>rfl
 | cons v l=>cases l<;>rfl
theorem replUndef_len:∀n,(replUndef n).length=n
 | 0=>rfl
 | n+1=>by simp [replUndef,replUndef_len n]
theorem replUndef_get:∀n i,(replUndef n).getD i .undef= .undef
 | 0,i=>by simp [replUndef]
 | n+1,0=>by simp [replUndef]
 | n+1,i+1=>by simpa [replUndef] using replUndef_get n i
theorem TE.start{args:List AV}{n:Nat}(h:args.length≤n):TE n (argE args) (args++replUndef (n - args.length)):=by
 refine ⟨by simp [replUndef_len];omega,fun i=> ?_⟩
 simp only [argE,List.getD]
 by_cases hi:i<args.length
 ·rw [List.getElem?_append_left hi]
 ·have h1:args[i]? =none:=List.getElem?_eq_none (by omega)
  rw [h1,List.getElem?_append_right (by omega)]
  have:=replUndef_get (n - args.length) (i - args.length)
  simp only [List.getD] at this
  rw [this];rfl
theorem callW_intro{f:FuncId}{fn:Func}{c:Code}{args:List AV}{σ:St}{r:AEnd×St}(hf:D.func f=some fn)(hp:D.pure f=false)(hb:fn.body=some c)(hl:args.length≤fn.ntmps)
  (h:bodyW D (callW D) fn c args σ= .ok r):callW D f args σ= .ok r:=by
 unfold bodyW at h
 have h:=denK_le _ _ _ _ _ _ _ _ h
 rw [bindR_ok] at h
 obtain ⟨o,ho,h⟩:=h
 have k:=dd_run (D:=D) (N:=fn.ntmps) f c (argE args) (args++replUndef (fn.ntmps - args.length)) σ o (TE.start hl) ho
 have key:∀m,(fns D m).run (fr0 f (args++replUndef (fn.ntmps - args.length)) ([.code c]++[])) none σ= .ok (r.1,none,r.2)→callW D f args σ= .ok r:=by
  intro m hm
  refine callW_ok.2 ⟨m+1,?_⟩
  show callF D (fns D m) f args σ= .ok r
  simp only [callF,hp,Bool.false_eq_true,if_false,plainF,enterFr,hf,hb]
  have hm':(fns D m).run {fn:=f,T:=args++replUndef (fn.ntmps - args.length),todo:=[.code c],defers:=[],round:=none} none σ= .ok (r.1,none,r.2):=hm
  show ((fns D m).run {fn:=f,T:=args++replUndef (fn.ntmps - args.length),todo:=[.code c],defers:=[],round:=none} none σ>>=_)=_
  rw [hm']
  rfl
 cases o with
 | nxt T' σ'=>
  obtain ⟨L',hT,k⟩:=k
  obtain ⟨m,hm⟩:=k [] 2 (r.1,none,r.2) (by
   show runF D (fns D 1) (fr0 f L' []) none σ'=_
   exact finishW_ok hf hT h 0)
  exact key m hm
 | ret T' σ'=>
  obtain ⟨L',hT,k⟩:=k
  obtain ⟨m,hm⟩:=k [] 1 (r.1,none,r.2) (finishW_ok hf hT h 0)
  exact key m hm
 | exit id T' σ'=>cases h
 | pan v σ'=>
  obtain ⟨m,hm⟩:=k []
  simp only [K.app] at h
  cases h
  exact key m hm
def kRet(D:Tab)(rs:List ResultVar):K (AEnd×St):=⟨fun T σ=>resK D σ T (fun vs=> .ok (.ret (oneRes vs),σ)) rs,fun T σ=>resK D σ T (fun vs=> .ok (.ret (oneRes vs),σ)) rs,fun _ _ _=> .error "exit",fun v σ=> .ok (.panic v,σ)⟩
theorem callW_of{f:FuncId}{fn:Func}{args:List AV}{σ:St}{r:AEnd×St}{N:Nat}{rs:List ResultVar}(hf:D.func f=some fn)(hp:D.pure f=false)(hb:fn.body.isSome=true)(hN:fn.ntmps=N)(hr:fn.results.toList=rs)
  (hl:args.length≤N) (h:denK D (callW D) N (bodyC D f) (kRet D rs) (argE args) σ= .ok r):callW D f args σ= .ok r:=by
 subst hN hr
 obtain ⟨c,hc⟩:=Option.isSome_iff_exists.1 hb
 refine callW_intro hf hp hc hl ?_
 have e:bodyC D f=c:=by simp [bodyC,hf,hc]
 rw [e] at h
 exact h
end
end Go.Dt
namespace Go.Dt
section
variable {ρ:Type} {D:Tab}
theorem eqBy{α:Type}{a b:α}(h:a=b):a=b:=h
@[simp] theorem condT {α:Type} (a b:α):(bif true then a else b)=a:=eqBy rfl
@[simp] theorem condF {α:Type} (a b:α):(bif false then a else b)=b:=eqBy rfl
@[simp] theorem g1_eq (x:R AV):g1 x=x:=eqBy rfl
@[simp] theorem mv_eq (x:AV):mv x= .ok x:=eqBy rfl
@[simp] theorem g2_eq (σ:St) (x:R (AEnd×St)):g2 σ x=x:=eqBy rfl
@[simp] theorem g3_eq (σ:St) (x:R St):g3 σ x=x:=eqBy rfl
@[simp] theorem g4_eq (σ:St) (x:R (AV×St)):g4 σ x=x:=eqBy rfl
@[simp] theorem puts_nil (N:Nat) (T:Rg):puts N T []=T:=eqBy rfl
@[simp] theorem puts_cons (N:Nat) (T:Rg) (d:Nat) (v:AV) (l:List (Nat×AV)):puts N T ((d,v)::l)=puts N (putE N T (some d) v) l:=eqBy rfl
@[simp] theorem bindR_val {α β:Type} (a:α) (f:α→R β):bindR (.ok a:R α) f=f a:=eqBy rfl
@[simp] theorem isBoolV_t (b:Bool):isBoolV (boolV b) true=b:=by cases b<;>rfl
@[simp] theorem isBoolV_f (b:Bool):isBoolV (boolV b) false= !b:=by cases b<;>rfl
@[simp] theorem isBoolV_u (w:Bool):isBoolV AV.undef w=false:=eqBy rfl
@[simp] theorem condR_boolV (b:Bool) (x y:R ρ):condR (boolV b) x y=bif b then x else y:=eqBy rfl
@[simp] theorem pickV_boolV (c:Bool) (x y:AV):pickV (boolV c) x y= .ok (bif c then x else y):=by cases c<;>rfl
@[simp] theorem retK_ret (v:AV) (σ:St) (k:AV→St→R ρ) (kp:AV→St→R ρ):retK (.ret v,σ) k kp=k v σ:=eqBy rfl
@[simp] theorem kOc_nxt (T:Rg) (σ:St):kOc.nxt T σ= .ok (.nxt T σ):=eqBy rfl
@[simp] theorem kOc_ret (T:Rg) (σ:St):kOc.ret T σ= .ok (.ret T σ):=eqBy rfl
@[simp] theorem kOc_exit (id:Nat) (T:Rg) (σ:St):kOc.exit id T σ= .ok (.exit id T σ):=eqBy rfl
@[simp] theorem app_nxt (k:K ρ) (T:Rg) (σ:St):k.app (.nxt T σ)=k.nxt T σ:=eqBy rfl
@[simp] theorem app_ret (k:K ρ) (T:Rg) (σ:St):k.app (.ret T σ)=k.ret T σ:=eqBy rfl
@[simp] theorem app_exit (k:K ρ) (id:Nat) (T:Rg) (σ:St):k.app (.exit id T σ)=k.exit id T σ:=eqBy rfl
@[simp] theorem kseq_nxt (f:Rg→St→R ρ) (k:K ρ):(kseq f k).nxt=f:=eqBy rfl
@[simp] theorem kseq_ret (f:Rg→St→R ρ) (k:K ρ):(kseq f k).ret=k.ret:=eqBy rfl
@[simp] theorem kseq_exit (f:Rg→St→R ρ) (k:K ρ):(kseq f k).exit=k.exit:=eqBy rfl
@[simp] theorem kblk_nxt (id:Nat) (k:K ρ):(kblk id k).nxt=k.nxt:=eqBy rfl
@[simp] theorem kblk_ret (id:Nat) (k:K ρ):(kblk id k).ret=k.ret:=eqBy rfl
@[simp] theorem kblk_exit (id id':Nat) (k:K ρ) (T:Rg) (σ:St):(kblk id k).exit id' T σ=if id'=id then k.nxt T σ else k.exit id' T σ:=by
 show (match Nat.beq id' id with | true=>_ | false=>_)=_
 rw [beq_eq]
 by_cases h:id'=id<;>simp [h]
theorem putE_get(N:Nat)(T:Rg)(d:Tmp)(v:AV)(i:Nat):putE N T (some d) v i=if i=d then (if d<N then v else T i) else T i:=by
 simp only [putE,beq_eq,blt_eq]
 by_cases h:i=d<;>simp [h]
theorem putE_same{N:Nat}{T:Rg}{d:Tmp}{v:AV}(h:d<N):putE N T (some d) v d=v:=by rw [putE_get];simp [h]
theorem putE_ne{N:Nat}{T:Rg}{d:Tmp}{v:AV}{i:Nat}(h:i≠d):putE N T (some d) v i=T i:=by rw [putE_get];simp [h]
@[simp] theorem binOp_int (op:BinOp) (t:Nat) (k k':IntKind) (a b:Int) (c:Bool):Dt.binOp D op t (intV k a) (intV k' b) c=intOp op k k' a b:=eqBy rfl
@[simp] theorem binOp_goI (op:BinOp) (t:Nat) (a b:Nat) (c:Bool):Dt.binOp D op t (goI a) (goI b) c=intOp op .i64 .i64 a b:=eqBy rfl
@[simp] theorem binOp_goI_l (op:BinOp) (t:Nat) (k':IntKind) (a:Nat) (b:Int) (c:Bool):Dt.binOp D op t (goI a) (intV k' b) c=intOp op .i64 k' a b:=eqBy rfl
@[simp] theorem binOp_str (op:BinOp) (t:Nat) (a b:List UInt8) (c:Bool):Dt.binOp D op t (str a) (str b) c=strOp op a b:=eqBy rfl
@[simp] theorem intOp_add (k:IntKind) (a b:Int):intOp .add k k a b= .ok (intV k (k.wrap (a+b))):=by simp [intOp]
@[simp] theorem intOp_sub (k:IntKind) (a b:Int):intOp .sub k k a b= .ok (intV k (k.wrap (a - b))):=by simp [intOp]
@[simp] theorem intOp_mul (k:IntKind) (a b:Int):intOp .mul k k a b= .ok (intV k (k.wrap (a*b))):=by simp [intOp]
theorem intOp_quo(k:IntKind)(a b:Int)(h:b≠0):intOp .quo k k a b= .ok (intV k (k.wrap (a.tdiv b))):=by simp [intOp,h]
@[simp] theorem intOp_eql (k:IntKind) (a b:Int):intOp .eql k k a b= .ok (boolV (a==b)):=by simp [intOp]
@[simp] theorem intOp_neq (k:IntKind) (a b:Int):intOp .neq k k a b= .ok (boolV (a !=b)):=by simp [intOp]
@[simp] theorem intOp_lss (k:IntKind) (a b:Int):intOp .lss k k a b= .ok (boolV (decide (a<b))):=by simp [intOp]
@[simp] theorem intOp_leq (k:IntKind) (a b:Int):intOp .leq k k a b= .ok (boolV (decide (a≤b))):=by simp [intOp]
@[simp] theorem intOp_gtr (k:IntKind) (a b:Int):intOp .gtr k k a b= .ok (boolV (decide (a>b))):=by simp [intOp]
@[simp] theorem intOp_geq (k:IntKind) (a b:Int):intOp .geq k k a b= .ok (boolV (decide (a≥b))):=by simp [intOp]
@[simp] theorem strOp_eql (a b:List UInt8):strOp .eql a b= .ok (boolV (a==b)):=eqBy rfl
@[simp] theorem strOp_neq (a b:List UInt8):strOp .neq a b= .ok (boolV (!(a==b))):=eqBy rfl
@[simp] theorem unOp_not (b:Bool):Dt.unOp .not (boolV b)= .ok (boolV (!b)):=eqBy rfl
@[simp] theorem extractV_0 (a:AV) (l:List AV):extractV (.tuple (a::l)) 0= .ok a:=eqBy rfl
@[simp] theorem extractV_1 (a b:AV) (l:List AV):extractV (.tuple (a::b::l)) 1= .ok b:=eqBy rfl
@[simp] theorem extractV_2 (a b c:AV) (l:List AV):extractV (.tuple (a::b::c::l)) 2= .ok c:=eqBy rfl
@[simp] theorem extractV_3 (a b c d:AV) (l:List AV):extractV (.tuple (a::b::c::d::l)) 3= .ok d:=eqBy rfl
theorem lenV_str{t:Nat}(h:und D t= .ok .string)(l:List UInt8):lenV D t (str l)= .ok (goI l.length):=by
 simp [lenV,h,str,bindR_eq]
theorem indexV_str{t:Nat}(h:und D t= .ok .string)(l:List UInt8)(i:Nat)(b:UInt8)(hb:l[i]? =some b):indexV D t (str l) (goI i)= .ok (intV .u8 b.toNat):=by
 simp [indexV,h,str,goI,asI,bindR_eq,hb]
theorem convR_int{s d:Nat}{k0 k1:IntKind}(hs:und D s= .ok (.int k0))(hd:und D d= .ok (.int k1))(σ:St)(k:IntKind)(n:Int):convR D σ s d (intV k n)= .ok (intV k1 (k1.wrap n)):=by
 simp [convR,convertV,hs,hd,intV,bindR_eq]
 rfl
end
end Go.Dt
namespace Go.Proofs.YtahgmmbmmcaejaaGreatDoor
open Go Go.Dt
noncomputable def W:CallT:=callW tab
def Wk(n f:Nat)(c:Code)(o:List ResultVar):Prop:=∀ {args:List AV} {s:St} {r:AEnd×St},args.length≤n→denK tab W n c (kRet tab o) (argE args) s= .ok r→W f args s= .ok r
theorem wk{n f:Nat}{fn:Func}{o:List ResultVar}(h:(tab.func f,tab.pure f,fn.body.isSome,fn.ntmps,fn.results.toList)=(some fn,false,true,n,o)):Wk n f (bodyC tab f) o:=by
 intro args s r hl hd
 simp only [Prod.mk.injEq] at h
 exact callW_of h.1 h.2.1 h.2.2.1 h.2.2.2.1 h.2.2.2.2 hl hd
theorem rZ(T:Rg)(s:St):(kRet tab []).ret T s= .ok (.ret (AV.tuple []),s):=eqBy rfl
theorem rA(i:Nat)(T:Rg)(s:St):(kRet tab [.tmp i]).ret T s= .ok (.ret (T i),s):=eqBy rfl
theorem rB(i j:Nat)(T:Rg)(s:St):(kRet tab [.tmp i,.tmp j]).ret T s= .ok (.ret (AV.tuple [T i,T j]),s):=eqBy rfl
theorem rC(i j l:Nat)(T:Rg)(s:St):(kRet tab [.tmp i,.tmp j,.tmp l]).ret T s= .ok (.ret (AV.tuple [T i,T j,T l]),s):=eqBy rfl
end Go.Proofs.YtahgmmbmmcaejaaGreatDoor
