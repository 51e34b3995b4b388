/- The machine D, second part: what it returns, every run of the model returns; the staged reading of it for the kernel; and the reading V of code on values, first part. No statement of this seat stands here, and no condition. -/
import Derived.Shelf.GgSortFunc.RowK
import Derived.Sort.AssemblyPlain
import Derived.Test.YtgdldhogfmambaaGreatDoorxA
open Bool renaming true->aa,false->ab
open Option renaming some->ad,none->ae
open And renaming intro->af
open Nat renaming beq->ag,blt->ah,ble->ai,shiftLeft->aj
open List renaming replicate->ak,range->ao,map->aq,take->ar,drop->au,length->aA
open Go.IntKind renaming wrap->av
open BitVec renaming ofInt->aw
open Decidable renaming decide->ax
open Go.Result renaming andThen_ok->ay
open Go.Sem renaming run_pure->az
set_option linter.all false
noncomputable section
namespace Go.Dt
section
variable[Lo]
section
variable{D:a_}{P:Program}
def TI(l0:fu D P){F:gW}(o:qo D P F){X:gV}{b:Frame}{fr:hX}{k:List fQ}{ds:aJ}{f:Operand}{O:Array Tmp}{V G:Code}
 {ι N:aI}{σ σ1 d σ':St}{w M:World}{c W:bM}{t e:cY}{l:Nat}{h0:jj}{mark:List Deferred}
 (B:wy P X b fr ι σ)(I:ll ι (·<σ.n) X fr.T fr.defers c)(C:bz D N σ1 M)(Q:cj ι σ w N σ1 M)(n:l<σ1.n)
 (a:sX N (·<σ1.n) ds)(q:mark++fr.defers.map (el ι)=ds.map (el N))
 (m:(Instr.enterLoop b.fn (bb ι fr.T).toArray O V G b.roundOf).run P w=.ok ((N l).block,mark) M)
 (p:pL D (dV D fr.T f) [.yield l]=.ok h0)(u:rQ F h0 σ1=.ok (t,d))
 (s:F.endLoop {fr with todo:=k,defers:=ds} l t c d=.ok (e,W,σ')):
 kd D P X b ι σ w e W σ' (g' X b ι fr.T fr.defers c (.code (.rangeFunc f O V G)::k.map fw) w):=by
 have a0:bb N fr.T=bb ι fr.T:=lx Q.er fr.T I.T;have Y:b5 N (·<σ1.n) fr.T:=ju Q.k fr.T I.T;have⟨i,v,U⟩:=Q6 l0 (ι:=N) (A:=(·<σ1.n)) (_type:=0) M p (KZ C C.GQ Y f) ⟨n,trivial⟩;have S:(bb N [AV.yield l]).toArray=#[.func (.yield (N l).block) #[] #[]]:=by simp[bb,aQ]
 have b0:h7 (bb ι fr.T).toArray f=aQ N (dV D fr.T f):=by rw[<-a0];exact KY C fr.T f
 rw[S,<-b0]at v;have dC:∀y Z,bz D y d Z->cj N σ1 M y d Z->yY y (·<d.n) t->
  Steps P (g' X b ι fr.T fr.defers c (.code (.rangeFunc f O V G)::k.map fw) w)
   (lone (after (on b (bb ι fr.T).toArray (ds.map<|el N)<|.inRangeFunc (N l).block::k.map fw)<|oR y t) (X.cs ι c) Z)->
  kd D P X b ι σ w e W σ' (g' X b ι fr.T fr.defers c (.code (.rangeFunc f O V G)::k.map fw) w):=by
  intro y Z r J L c0;have E:=Q.trans J;refine kd.p6 c0 E ?_;have:=o.endLoop _ _ _ _ _ _ _ _ s X b y Z (B.ext E aM aM) r ⟨I.kY,ju J.k fr.T Y,ub J.k a,vC E.k c I.bp⟩ (dc n J.n) L;rw[J.er l n,X.er E.er I.bp]at this;simp only at this;rw[lx E.er fr.T I.T,vh J.er a]at this;exact aw0
 rcases U with⟨g,d0,rfl⟩|⟨o0,d0,rfl⟩
 have⟨x,i0,j⟩:=v;simp only[AI,pD]at i0;subst i0;have h:=apj (P:=P) (b:=b) (T:=(bb ι fr.T).toArray) (ds:=fr.defers.map<|el ι) (k:=k.map fw) (cs:=X.cs ι c) m j;simp only[rQ]at u;obtain⟨p0,Z,⟨y,rfl,r,J,L⟩,f0⟩:=Q7 (o.call _ _ _ _ _ u N M C i) (λq0 ⟨g0,m0,_⟩=>Rw g0 t m0.symm)
  (on b (bb ι fr.T).toArray (mark++fr.defers.map (el ι))<|.inRangeFunc (N l).block::k.map fw) (X.cs ι c)
 exact awv;have⟨j,_⟩:=v;simp only[rQ]at u;have⟨r0,j0,k0,s0,n0,z⟩:=o.round _ _ _ _ _ u N M C i.2 i.1;have⟨y,Z,f0,r,J,L⟩:=z (on b (bb ι fr.T).toArray (mark++fr.defers.map (el ι))<|.inRangeFunc (N l).block::k.map fw)<|X.cs ι c;have h:=apk (P:=P) (b:=b) (T:=(bb ι fr.T).toArray) (ds:=fr.defers.map<|el ι) (k:=k.map fw) (cs:=X.cs ι c) m<|j.trans n0;exact awv
def zD(n0:fu D P){F:gW}(J:qo D P F):Ps D P (dG D F):=by
 intro fr p σ e V U h X b ι w B S I;have⟨W,T,todo,ds,M⟩:=fr;have go:∀j,F.run {fn:=W,T,todo:=j,defers:=ds,round:=M} p σ=.ok (e,V,U)->
  step P (g' X b ι T ds p (todo.map fw) w)=.next (g' X b ι T ds p (j.map fw) w)->
  kd D P X b ι σ w e V U (g' X b ι T ds p (todo.map fw) w):=λj o0 d0=>
  kd.p6 (.one d0) (cj.refl _ _ _)<|J.run _ _ _ _ _ _ o0 X b ι w (B.ext (cj.refl ι σ w) rfl rfl) S I
 have O:∀m,(m=ae\/ m=ad .ret)->M=ae->jI F {fn:=W,T,todo,defers:=ds,round:=M} m p σ=.ok (e,V,U)->
  (∀z:b.roundOf=ae,step P (g' X b ι T ds p (todo.map fw) w)=.next (lone (my b (bb ι T).toArray (ds.map<|el ι) (todo.map fw) .returning) (X.cs ι p) w))->
  kd D P X b ι σ w e V U (g' X b ι T ds p (todo.map fw) w):=by
  intro m B0 c0 o0 d0;have z:b.roundOf=ae:=by rw[B.round,c0];rfl
  have C:F.finish W T ds ae p σ=.ok (e,V,U):=by rcases B0 with rfl|rfl<;>simpa[jI,c0]using o0
  refine kd.p6 (.one<|d0 z) (cj.refl _ _ _) ?_;exact J.finish _ _ _ _ _ _ _ _ _ C X b ι w (todo.map fw) B.kind B.fn z B.Ds S I aY
 have u:∀l,M=ad l->b.kind=.normal:=λl p0=>by have⟨m0,C0⟩:=(B.ch l p0).2;rw[B.kind,C0];rfl
 have i:∀l,M=ad l->b.roundOf=ad (ι l).block:=λl p0=>by rw[B.round,p0];rfl
 cases todo with
 |nil=>
  simp only[dG]at h
  cases M with
  |none=>exact O ae (.inl aM) aM h λz=>apb z
  |some l=>exact He aM B S I h λc m0 v q0 Q a=>by unfold g';rw[Q];exact .one<|apo (i l aM) (u l aM) a
 |cons D0 k=>
  cases D0 with
  |inBlock id=>simp only[dG]at h;exact go _ h ao7
  |inScope c=>simp only[dG]at h;exact go _ h ao9
  |inLoop c=>simp only[dG]at h;exact go _ h ao8
  |beginRound=>
   simp only[dG]at h
   cases M with
   |none=>simp at h
   |some l=>simp only[bK]at h;have⟨r,c0,h⟩:=h;split at h;rename_i d0;have⟨w1,h1,C,G⟩:=anl (P:=P) S c0 d0;refine kd.p6 (.one<|aoW (i l aM) h1) G ?_;exact J.run _ _ _ _ _ _ h X b ι w1 (B.ext G aM aM) C I;exact auu
  |code c=>
   cases c with
   |ret=>
    simp only[dG]at h
    cases M with
    |none=>exact O (ad .ret) (.inr aM) aM h λz=>apd z
    |some l=>exact He aM B S I h λc m0 v q0 Q a=>by unfold g';rw[Q];exact .one<|apr (i l aM) (u l aM) a
   |skip=>simp only[dG]at h;exact go _ h apg
   |label l=>simp only[dG]at h;exact go _ h ao_
   |seq x y=>simp only[dG]at h;exact go _ h apf
   |block id x=>simp only[dG]at h;exact go _ h ao2
   |loop x=>simp only[dG]at h;exact go _ h apa
   |scope x=>simp only[dG]at h;exact go _ h ape
   |refuse s=>simp[dG]at h
   |cond c x y=>
    simp only[dG,bK]at h;have⟨t,E0,h⟩:=h;refine go _ h<|ao3 ?_;rw[KY S T c];have:dV D T c=.aN (.bool t):=by
     unfold Ap at E0
     grind
    rw[this,aQ]
   |exit id=>
    simp only[dG]at h;split at h;rename_i F0 g;exact go _ h<|ao5<|by rw[yM,g];rfl
    rename_i g
    cases M with
    |none=>simp[jI]at h
    |some l=>exact He aM B S I h λc m0 v q0 Q a=>by unfold g';rw[Q];exact .one<|apm (i l aM) (u l aM) (by rw[yM,g];rfl) a
   |goto id=>
    simp only[dG]at h;split at h;rename_i F0 g;exact go _ h<|ao6<|by rw[yT,g];rfl
    rename_i g
    cases M with
    |none=>simp[jI]at h
    |some l=>exact He aM B S I h λc m0 v q0 Q a=>by unfold g';rw[Q];exact .one<|apn (i l aM) (u l aM) (by rw[yT,g];rfl) a
   |region id s0 f0=>
    simp only[dG,bK]at h;have⟨r,c0,h⟩:=h;have A:b.roundOf=ae↔M.isSome=ab:=by rw[B.round];cases M<;>simp
    have⟨N,G0,w1,Q,R1,E1⟩:=amL n0 J.call J.round B.kind A (id:=id) (k:=k.map fw) S I c0
    cases Q with
    |go Z bB=>simp only at h;refine kd.p6 Z E1 ?_;exact J.run _ _ _ _ _ _ h X b N w1 (B.ext E1 aM aM) R1 bB
    |@panic _ _ _ T1 t0 A0 v1 j Z bB a=>simp only at h;refine kd.p6 Z E1 ?_;exact WU J (fr:={fn:=W,T:=T1,todo:=.code (.region id s0 f0)::k,defers:=t0,round:=M}) (B.ext E1 aM aM) R1 bB a h
   |rangeFunc f params assign body=>
    simp only[dG]at h
    cases M with
    |some l0=>
     simp only[bK]at h;have⟨r0,g0,H0,a0,⟨e0,u0⟩,b0,h⟩:=h;have⟨K0,I0,J0,h0⟩:=Hm S g0
     let q:jB:={state:=.ready,pending:=ae,fn:=W,T,params:=params.toList,assign,body,defers:=r0.defers}
     have⟨N,w1,h1,C,G,h4⟩:=Eu (P:=P) S (o:=.loop q) (ob:=.loop<|iP ι q)
      (by
        have Y:∀b,b<σ.n->fc ι σ.n ⟨w.heap.size,0,0,0⟩ b=ι b:=λb z=>ez<|yq z;refine⟨aM,?_,ju ta _ I.T,uX h0⟩;rw[vA];simp only[iP,q]
        rw[lx Y T I.T,Y _ h0])
     refine TI n0 J (k:=k) (ds:=ds) (l:=σ.n) (mark:=[]) B I C G (nR _) (ub G.k I.ds) (by rw[vh G.er I.ds];rfl) ?_ a0 b0 h;rw[i l0 rfl];simp only[Instr.enterLoop,cQ,EF S g0,ay,az];have:iP ι q={state:=.ready,pending:=ae,fn:=b.fn,tmps:=(bb ι T).toArray,params,assign,body,defers:=(iP ι r0).defers}:=by simp[iP,q,B.fn]
     rw[<-this,h1,h4];rfl
    |none=>
     simp only[bK]at h;have⟨H0,a0,⟨e0,u0⟩,b0,h⟩:=h;have⟨L,w0,g1,g2,g3,g4⟩:=Eu (P:=P) S (o:=.deferred<|ad []) (ob:=.deferred<|ad [])
      (by refine⟨aM,?_,aY⟩;rw[vA];rfl)
     let q:jB:={state:=.ready,pending:=ae,fn:=W,T,params:=params.toList,assign,body,defers:=σ.n}
     have i0:b5 L (·<(σ.push<|.deferred<|ad []).n) T:=ju g3.k T I.T;have⟨N,w1,h1,C,G,h4⟩:=Eu (P:=P) g2 (o:=.loop q) (ob:=.loop<|iP L q)
      (by
        have Y:∀b,b<(σ.push<|.deferred<|ad []).n->fc L (σ.push<|.deferred<|ad []).n ⟨w0.heap.size,0,0,0⟩ b=L b:=λb z=>ez<|yq z;have j0:q.defers<(σ.push<|.deferred<|ad []).n:=nR _;refine⟨aM,?_,ju ta _ i0,uX j0⟩;rw[vA];simp only[iP,q]
        rw[lx Y T i0,Y _ j0])
     have E:=g3.trans G;have v0:yX N (·<((σ.push<|.deferred<|ad []).push<|.loop q).n) (.collected σ.n):=by show σ.n<σ.n+1+1;omega
     have k0:(N σ.n).block=w.heap.size:=by rw[G.er σ.n<|nR _,g4]
     refine TI n0 J (k:=k) (ds:=.collected σ.n::ds) (l:=σ.n+1) (mark:=[{target:=.collected w.heap.size,args:=#[]}]) B I C E
      (by show σ.n+1<σ.n+1+1;omega) (by
        intro d x0
        rcases dz.1 x0 with rfl|x0
        exact v0;exact LL E.k d<|I.ds d x0) (by
        rw[cL,vh E.er I.ds]
        simp[el,k0]) ?_ a0 b0 h
     have z:b.roundOf=ae:=by rw[B.round];rfl
     rw[z];simp only[Instr.enterLoop,cQ,g1,ay,az];have:iP L q={state:=.ready,pending:=ae,fn:=b.fn,tmps:=(bb ι T).toArray,params,assign,body,defers:=w.heap.size}:=by have y0:b.fn=W:=B.fn;simp[iP,q,y0,g4,lx g3.er T I.T]
     rw[<-this,h1];have z0:(N<|σ.n+1).block=w0.heap.size:=by have:N (σ.push<|.deferred<|ad []).n=⟨w0.heap.size,0,0,0⟩:=h4;exact np bf.block this
     rw[z0];rfl
end
end
section
variable[Lo]
omit [Lo]in
omit [Lo]in
structure mY(w w':World):Prop where
 os:w'.os=w.os
 tape:w'.tape=w.tape/\ (Lo.xv\/ w.drawn<=w'.drawn)
 output:w'.output=w.output
 size:w.heap.size<=w'.heap.size
 old:∀r,r<w.heap.size->w'.heap[r]?=w.heap[r]?
def a_.bare(D:a_):a_:={func:=λ_=>ae,lz:=λ_=>ae,gx:=D.gx,pure:=λ_=>ab,ma:=λ_=>ab,cut:=λ_=>0,jY:=λ_=>True}
structure nP(D:a_)(P:Program)(m:hZ):Prop where
 nd:ti (fY (jm .e m.lJ) kh m.val)=aa
 call:∀ι w,bz D.bare ι (jm .e m.heap) w->b5 ι (·<aA m.heap) m.args->(∀b,b<aA m.heap->((jm .e m.heap).a7 b).fG=ab)->
  Calls P m.f (bb ι m.args).toArray w λen w'=>∃ιY,en=.returned (aQ ιY m.val)/\ bz D.bare ιY (jm .e m.lJ) w'/\ bB ιY (·<aA m.lJ) m.val/\ mY w w'/\
   ∀b,b<aA m.lJ->(jm .e m.lJ).a7 b≠.c5->w.heap.size<=(ιY b).block
section
variable{D:a_}{P:Program}
def bz.XH{ι:aI}{σ:St}{w:World}(R:bz D.bare ι σ w)(M:eb)(U:∀m,M.mem m->D.jY m):bz D ι {σ with M:=M} w:=⟨R.len,R.ja,R.jW,R.eS,R.fJ,U⟩
omit [Lo]in
def bz.NX{ι:aI}{σ:St}{w:World}(R:bz D ι σ w):bz D.bare ι (jm .e σ.l) w:=by
 have:jm .e σ.l={σ with M:=.e}:=by simp[jm,R.len]
 rw[this];exact⟨R.len,R.ja,R.jW,R.eS,R.fJ,λ_ _=>trivial⟩
omit [Lo]in
def Qu{ι:aI}{σ:St}{w:World}(R:bz D ι σ w):jm .e σ.l={σ with M:=.e}:=by simp[jm,R.len]
omit [Lo]in
def XZ:∀n,aA (uF n)=n
 |0=>rfl
 |n+1=>by simp[uF,XZ n]
omit [Lo]in
def XY:∀(n i:Nat) (o:AO),(uF n)[i]?=ad o->o=AO.c5
 |0,i,o,h=>by simp[uF]at h
 |n+1,0,o,h=>by simpa[uF]using h.symm
 |n+1,i+1,o,h=>XY n i o<|by simpa[uF]using h
omit [Lo]in
def Ba(D:a_)(M:eb)(b:Nat):(qJ D M).a7 b=.c5:=by
 unfold St.a7;split;simp only[qJ]
 cases h:(uF D.gx)[D.gx-1-b]? with
 |none=>rfl
 |some o=>simp[XY _ _ _ h]
 rfl
def Lv{ι:aI}{σ:St}{w:World}(R:bz D ι σ w){M:eb}(U:∀m,M.mem m->D.jY m):bz D ι (qJ D M) w where
 len:=by simp[qJ,XZ]
 ja:=bu _
 jW:=R.jW
 eS:=λb _=>by rw[Ba];trivial
 fJ:=λb W _ _ _ Y=>by rw[Ba]at Y;simp[AO.fG]at Y
 mem:=U
omit [Lo]in
def Ka{a b:List AO}(h:tK a b=aa):a=b:=QA h
omit [Lo]in
def SP{f:FuncId}{args:aD}{p:List AO}:∀{M:List hZ} {m:hZ},yO f args p M=ad m->m∈M/\ m.f=f/\ m.args=args/\ m.heap=p
 |[],m,h=>by simp[yO]at h
 |m0::M,m,h=>by unfold yO at h;split at h;rename_i c;simp at h;subst h;simp only[bW,nj]at c;exact⟨aY,c.1.1,sJ _ _ c.1.2,Ka c.2⟩;have⟨V,a⟩:=SP h;exact at6
def bz.yP{ι:aI}{σ:St}{w w':World}(R:bz D ι σ w)(h:mY w w'):bz D ι σ w':=
 ⟨R.len,R.ja,R.jW,λb e=>by
  by_cases o:σ.a7 b=.c5;rw[o];trivial
  exact(R.eS b e).congr<|h.old _<|(R.eS b e).lt o,R.fJ,R.mem⟩
def cj.yP{ι ι':aI}{σ σ':St}{w w':World}(E:cj ι σ w ι' σ' w')(h:∀b,b<σ.n->(σ.a7 b).fG=ab):mY w w':=⟨E.os,E.tape,E.output,E.size,λr x=>E.frame r x λb e m=>by rw[h b e]at m;cases m⟩
def VW{m:hZ}{σ σ0 σ':St}{ι o:aI}{w w':World}{e:cY}(h:xz m σ0=.ok (e,σ'))(h0:σ0.n=σ.n/\ σ0.l=σ.l)(U:∀m,σ0.M.mem m->D.jY m)(R:bz D ι σ w)
 (W:ti (fY (jm .e m.lJ) kh m.val)=aa)(S:bz D.bare o (jm .e m.lJ) w')(z:bB o (·<aA m.lJ) m.val)(j:mY w w')
 (O:∀b,b<aA m.lJ->(jm .e m.lJ).a7 b≠.c5->w.heap.size<=(o b).block):
 ∃ι',oR ι' e=.returned (aQ o m.val)/\ bz D ι' σ' w'/\ cj ι σ w ι' σ' w'/\ yY ι' (·<σ'.n) e:=by
 simp only[xz,bK,eo,f']at h;obtain⟨⟨v,i⟩,c,rfl,rfl⟩:=h;have k:∀b,σ0.a7 b=σ.a7 b:=λb=>by simp[St.a7,h0.1,h0.2]
 have A:bz D ι σ0 w':=by
  have d:=R.yP j
  exact⟨by rw[h0.1,h0.2];exact d.len,by rw[h0.1];exact d.ja,d.jW,λb X=>by rw[k,h0.1];exact d.eS b<|by rw[<-h0.1];exact X,
   λb T X I=>by rw[k,k];exact d.fJ b T (by rw[<-h0.1];exact X)<|by rw[<-h0.1];exact I,U⟩
 have E:bz D o (jm .e m.lJ) w':=by have:=S.XH (D:=D) .e<|λ_ h=>h.elim;exact aw0
 have⟨ι',Q,V,L⟩:=KA aa E kh _ _ _ _ c ι A z (λ_=>MH W) (λs B b X G=>by
  rw[k]at G;have l:(ι b).block<w.heap.size:=(R.eS b<|by rw[<-h0.1];exact X).lt G;have C:=H' (jm .e m.lJ) kh _ s B;have a:=O s (xf C) C
  omega)
 refine⟨ι',by simp[oR,V],Q.eH,⟨j.os,j.tape,j.output,j.size,by rw[<-h0.1];exact Q.n,λb X=>Q.er b<|by rw[h0.1];exact X,λr p _=>j.old r p,λb X G=>?_⟩,L⟩;by_cases x:b<σ0.n;right;rw[Q.old b x,k]at G;refine⟨b,by rw[<-h0.1];exact x,G,?_,by rw[Q.er b x]⟩;rw[Q.old b x,k];exact id;left;have⟨_,s,B,f⟩:=Q.new b aW X;have C:=H' (jm .e m.lJ) kh _ s B;rw[f];exact O s (xf C) C
def Xl(o0:fu D P){F:gW}(p0:qo D P F){f:FuncId}{args:aD}{V:St}{m:hZ}{M:eb}(h:xP D F f args V=.ok (m,M))
 (q0:∀m,V.M.mem m->D.jY m)(g:aA V.l=V.n):
 m.f=f/\ m.args=args/\ m.heap=V.l/\ nP D P m/\
  (∀ι w,bz D ι V w->b5 ι (·<V.n) args->∀m,M.mem m->D.jY m):=by
 simp only[xP,bK]at h;have⟨Z,t,⟨e,p2,X⟩,W,h⟩:=h
 cases e with
 |panic v=>simp at h
 |ret v=>
  simp only at h;split at h;rename_i i;simp only[bK]at h;have⟨⟨y,o⟩,U,h⟩:=h;split at h;rename_i E;simp at h;obtain⟨rfl,rfl⟩:=h;have j:∀(O:List Frame) (ι:aI) (w:World),bz D ι V w->b5 ι (·<V.n) args->kd D P (.tj O) (Frame.enter P f (bb ι args).toArray .normal) ι V w (.ret v) p2 X
   (lone (Frame.enter P f (bb ι args).toArray .normal) O w):=by
   intro O ι w S J;have⟨z,h2,Y,h4,h5,h6⟩:=KK o0 t ι (·<V.n) J .normal;have y0:=p0.run _ _ _ _ _ _ W (.tj O) (Frame.enter P f (bb ι args).toArray .normal) ι w
    ⟨aM,z.symm,by rw[h2];rfl,by rw[h2];simp,h5⟩ S ⟨aM,h4,by rw[Y];intro d r0;simp at r0,trivial⟩
   have z0:g' (.tj O) (Frame.enter P f (bb ι args).toArray .normal) ι Z.T Z.defers ae (Z.todo.map fw) w=lone (Frame.enter P f (bb ι args).toArray .normal) O w:=by unfold g';rw[Y,i_,<-h6];rfl
   grind
  refine⟨aM,aM,aM,⟨E,λι w s0 J m0 O=>?_⟩,λι w S J t0 I=>?_⟩;have u0:({jm .e V.l with M:=V.M}:St)=V:=by
   cases V with
   |mk n l M=>simp only[jm]at g|-;simp_all
  have S:bz D ι V w:=by have:=s0.XH (D:=D) V.M q0;exact at6
  have u:∀b,b<V.n->(V.a7 b).fG=ab:=λb n0=>by
   have z:V.a7 b=(jm .e V.l).a7 b:=by simp[St.a7,jm,g]
   exact at6
  have⟨B,w2,x,E2,a0,_,_,c0⟩:=j O ι w S (by simpa[g]using J);unfold qp at c0;have d0:(Frame.enter P f (bb ι args).toArray .normal).roundOf=ae:=rfl;simp only[d0]at c0;have⟨e0,f0,C,a,T,g0,N,k,Q⟩:=c0;have p:=E2.yP u;have⟨h0,c,A,r⟩:=KA aa x kh _ _ _ _ U B (Lv x (M:=.e)<|λ_ h=>h.elim) a0 (λ_=>MH i) (λs _ b n0 G=>by rw[Ba]at G;exact(G aM).elim);have i0:=c.eH.len;refine⟨.returned<|aQ B v,w2,e0,⟨h0,by rw[A],c.eH.NX,by simpa[i0]using r,p,λb n0 G=>?_⟩,f0,C,k,a,T,g0,by rw[C];exact N,Q⟩;have q:o.a7 b≠.c5:=by rw[Qu c.eH]at G;exact G
  have j0:b<o.n:=xf q;have k0:¬b<(qJ D .e).n:=λl0=>by rw[c.old b l0,Ba]at q;exact q aM
  have⟨_,s,v0,w0⟩:=c.new b (z6 k0) j0;have L:=c.bh aM s v0;rw[w0]
  rcases E2.bh s (xf<|AO.ug L) (AO.ug L)with z|⟨b0,x0,_,Y,_⟩
  exact z;exact at6;have⟨B,w2,x,_⟩:=j [] ι w S J;exact x.mem t0 I;exact at5;exact auu
def uZ(D:a_)(P:Program):Prop:=∀f g,D.tn f=ad g->∀args σ v σ',g args σ=.ok (v,σ')->∀ι w,bz D ι σ w->b5 ι (·<σ.n) args->
 Calls P f (bb ι args).toArray w λen w'=>∃ι',en=.returned (aQ ι' v)/\ bz D ι' σ' w'/\ cj ι σ w ι' σ' w'/\ bB ι' (·<σ'.n) v
def adA(s0:fu D P)(t0:∀m,D.jY m↔nP D P m)(y0:uZ D P){F:gW}(u0:qo D P F):zT D P (lr D F):=by
 intro f args σ e N h ι w R J;unfold lr at h;split at h
 ·
  cases g0:D.tn f with
  |some g=>rw[g0]at h;simp only[bK,eo,f']at h;obtain⟨⟨v,i0⟩,z0,rfl,rfl⟩:=h;exact y0 f g g0 args σ v i0 z0 ι w R J
  |none=>
  rw[g0]at h;simp only[bK]at h;have⟨⟨i,V⟩,j0,h⟩:=h;have⟨c,X,j,l⟩:=RA R (H' σ kh) (KA ab R kh) _ _ _ _ j0 ι (Lv R R.mem) J aY (λb d0=>by rw[Ba];rfl);have k0:∀b,b<V.n->(V.a7 b).fG=ab:=λb d0=>by by_cases x:b<(qJ D σ.M).n;rw[X.old b x,Ba];rfl;exact(X.new b (z6 x) d0).1
  have u:∀m,V.M.mem m->D.jY m:=X.eH.mem;have I:=X.eH.len;have U:∀(m:hZ) (B:St),nP D P m->m.f=f->m.args=i->m.heap=V.l->xz m B=.ok (e,N)->B.n=σ.n/\ B.l=σ.l->(∀m,B.M.mem m->D.jY m)->
   Calls P f (bb ι args).toArray w λv0 e0=>∃O,v0=oR O e/\ bz D O N e0/\ cj ι σ w O N e0/\ yY O (·<N.n) e:=by
   intro m B Y A0 w0 f0 l0 h0 m0 k;have d0:jm .e m.heap={V with M:=.e}:=by rw[f0];exact Qu X.eH
   have z:=Y.call c w (by rw[f0];exact X.eH.NX) (by rw[w0,f0,I];exact l) (λb Q=>by rw[d0];exact k0 b<|by rw[f0,I]at Q;exact Q);rw[A0,w0,j]at z;obtain⟨v0,e0,r,⟨B0,rfl,C0,E,t,G⟩,n0,o0,p0⟩:=z k;have⟨O,o,p,W,A⟩:=VW l0 h0 m0 R Y.nd C0 E t G;exact⟨_,e0,r,⟨O,o.symm,p,W,A⟩,n0,o0,p0⟩
  split at h;rename_i m Y;have⟨o,p,W,A⟩:=SP Y;exact U m σ ((t0 m).1 (u m<|eb.Mu _ _ o)) p W A h ⟨aM,aM⟩ R.mem;simp only[bK]at h;have⟨⟨m,M⟩,D0,h⟩:=h;have⟨o,p,W,A,h5⟩:=Xl s0 u0 D0 u I;refine U m _ A o p W h ⟨aM,aM⟩ λE0 S=>?_
  rcases eb.D' _ _ S with rfl|S
  exact(t0 _).2 A;exact h5 c w X.eH l E0 S
 ·
  simp only[v7,bK,eo,f']at h;obtain⟨r,t,⟨e1,p2,F0⟩,Z,rfl,rfl⟩:=h;intro k;have⟨o,p,W,A,h5,h6⟩:=KK s0 t ι (·<σ.n) J .normal;have x0:=u0.run _ _ _ _ _ _ Z (.tj k) (Frame.enter P f (bb ι args).toArray .normal) ι w
   ⟨aM,o.symm,by rw[p];rfl,by rw[p];simp,h5⟩ R ⟨aM,A,by rw[W];intro d G0;simp at G0,trivial⟩
  have Y:g' (.tj k) (Frame.enter P f (bb ι args).toArray .normal) ι r.T r.defers ae (r.todo.map fw) w=lone (Frame.enter P f (bb ι args).toArray .normal) k w:=by unfold g';rw[W,i_,<-h6];rfl
  rw[Y]at x0;have⟨q,w2,R2,E2,L,_,_,q0⟩:=x0;unfold qp at q0;have r0:(Frame.enter P f (bb ι args).toArray .normal).roundOf=ae:=rfl;simp only[r0]at q0;have⟨a0,b0,C,a,T,c0,s,y⟩:=q0
  cases e1 with
  |ret v=>exact⟨_,w2,a0,⟨q,aM,R2,E2,L⟩,b0,C,y.1,a,T,c0,by rw[C];exact s,y.2⟩
  |panic v=>exact⟨_,w2,a0,⟨q,aM,R2,E2,L⟩,b0,C,y,a,c0,by rw[C];exact s⟩
omit [Lo]in
def YT(ι:aI):∀(l:List<|Tmp×AV) (T:aD),(bb ι<|mU l T)=(l.foldl (λ(t:List Value) (p:Tmp×AV)=>t.set p.1<|aQ ι p.2)<|bb ι T)
 |[],T=>rfl
 |(t,a)::l,T=>by simp only[mU,gn];rw[YT ι l];congr 1;simp[mK,sC]
omit [Lo]in
def YU{ι:aI}{A:aE}:∀(l:List<|Tmp×AV) (T:aD),(∀p,p∈l->bB ι A p.2)->b5 ι A T->b5 ι A (mU l T)
 |[],T,_,h=>h
 |(t,a)::l,T,G,h=>YU l _ (λp M=>G p<|dR _ M)<|Uk h (G (t,a) aY) t
omit [Lo]in
def agF(l:List<|Tmp×Value):∀(A:Array Value),(l.foldl (λ(u:Array Value) (p:Tmp×Value)=>u.setIfInBounds p.1 p.2) A).toList=l.foldl (λ(t:List Value) (p:Tmp×Value)=>t.set p.1 p.2) A.toList:=by
 induction l with
 |nil=>intro A;rfl
 |cons p l I=>intro A;simp only[gn];rw[I];simp
def anb(k:fu D P){F:gW}(J:qo D P F):Af D P (uG D F):=by
 intro l args σ e s h ι w R M G;simp only[uG,bK]at h;have⟨r,x,h⟩:=h;have⟨b,Z,Q,f⟩:=Hm R x;split at h;exact auu;rename_i i o;split at h;rename_i g;simp only[bK,eo,f']at h;obtain⟨⟨E,m,X⟩,W,rfl,rfl⟩:=h;have S:b5 ι (·<σ.n) (mU (r.params.zip args) r.T):=YU _ _ (λp v=>jF.1 M _ (List.of_mem_zip v).2) Q;have z:(((iP ι r).params.zip (bb ι args).toArray).foldl (λtmps (t,a)=>tmps.setIfInBounds t a) (iP ι r).tmps)=(bb ι<|mU (r.params.zip args) r.T).toArray:=by
  apply oH;rw[<-Array.foldl_toList];have A:((iP ι r).params.zip (bb ι args).toArray).toList=(r.params.zip args).map λp=>(p.1,aQ ι p.2):=by simp[iP,mK,List.zip_map_right]
  rw[A];have j:=agF ((r.params.zip args).map λp=>(p.1,aQ ι p.2)) (iP ι r).tmps;have Y:(iP ι r).tmps.toList=bb ι r.T:=rfl;rw[Y]at j;refine Eq.trans ?_<|j.trans ?_;rfl;rw[YT,List.foldl_map]
 refine⟨r.fn,(bb ι<|mU (r.params.zip args) r.T).toArray,r.assign,r.body,?_,λc O=>?_⟩;simp only[Instr.yield,cQ,EF R x,ay];have:¬((bb ι args).toArray.size≠(iP ι r).params.size):=by simp[iP,g]
 rw[cG this];simp only[az,z];rfl;have n:=J.run _ _ _ _ _ _ W (.tj<|c::O) (Frame.round (ι l).block r.fn (bb ι<|mU (r.params.zip args) r.T).toArray r.assign r.body .normal) ι w
  ⟨aM,aM,aM,λI T=>by cases T;exact⟨G,_,aM⟩,⟨i,k.func _ _ o⟩⟩ R ⟨aM,S,(by intro d C;simp at C),trivial⟩
 have⟨B,N,u,L,q,_,_,V⟩:=n;unfold qp at V;have U:(Frame.round (ι l).block r.fn (bb ι<|mU (r.params.zip args) r.T).toArray r.assign r.body .normal).roundOf=ad (ι l).block:=rfl;simp only[U]at V;exact⟨B,N,V c O aM,u,L,q⟩;exact at5
def akr:qo D P xG where
 run:=λ_ _ _ _ _ _ h=>by simp[xG]at h
 finish:=λ_ _ _ _ _ _ _ _ _ h=>by simp[xG]at h
 endLoop:=λ_ _ _ _ _ _ _ _ h=>by simp[xG]at h
 call:=λ_ _ _ _ _ h=>by simp[xG]at h
 round:=λ_ _ _ _ _ h=>by simp[xG]at h
def akm(i:fu D P)(p:∀m,D.jY m↔nP D P m)(A:uZ D P){F:gW}(e:qo D P F):qo D P (HA D F)where
 run:=zD i e
 finish:=af3 i e
 endLoop:=ae5 e
 call:=adA i p A e
 round:=anb i e
def GJ(i:fu D P)(p:∀m,D.jY m↔nP D P m)(e:uZ D P):∀n,qo D P<|cg D n
 |0=>akr
 |n+1=>akm i p e<|GJ i p e n
end
end
section
variable[Lo]
open Go.Sort
section
variable{D:a_}{ι:Nat->bf}{σ:St}{w:World}
def bz.grow(h:bz D ι σ w)(S:Array Obj):bz D ι σ (grow w S)/\ cj ι σ w ι σ (Go.Sort.grow w S):=by
 have J:∀r,r<w.heap.size->(Go.Sort.grow w S).heap[r]?=w.heap[r]?:=λr x=>by
  show(w.heap++S)[r]?=_
  grind
 refine⟨⟨h.len,h.ja,h.jW,λb e=>?_,h.fJ,h.mem⟩,⟨aM,⟨aM,.inr<|bu _⟩,aM,aY,bu _,λ_ _=>rfl,λr x _=>J r x,λb e m=>.inr ⟨b,e,m,id,aM⟩⟩⟩;by_cases o:σ.a7 b=.c5;rw[o];trivial;exact(h.eS b e).congr<|J _<|(h.eS b e).lt o
def bz.am0(h:bz D ι σ w){b o:Nat}{cs new:aD}{e sz:Nat}(X:b<σ.n)(B:σ.a7 b=.cells cs e aa sz)(Q:o+aA new<=aA cs)(L:b5 ι (·<σ.n) new)
 {F:Array Value}(W:F.toList=bb ι new)(m:Nat)(S:Array Obj):
 bz D ι (σ.set b<|.cells (iY cs o new) e aa sz) (Go.Sort.grow (putRow id (Go.Sort.ahead w m) (ι b).block ((ι b).shift+o) F) S)/\
  cj ι σ w ι (σ.set b<|.cells (iY cs o new) e aa sz) (Go.Sort.grow (putRow id (Go.Sort.ahead w m) (ι b).block ((ι b).shift+o) F) S):=by
 have x:=h.eS b X;rw[B]at x;have⟨V,a,d,y,j,A,Z⟩:=x;obtain⟨rfl,l,c⟩:=Z aM;have O:(ι b).block<w.heap.size:=(qm.1 j).1;have E:F.size=aA new:=by rw[<-Fg,W,mK,bj]
 have s:∀i,i<aA cs->(ι b).shift+i<d.size:=λi G=>by
  have:=A i _ (cx G)
  grind
 have C:(putRow id (Go.Sort.ahead w m) (ι b).block ((ι b).shift+o) F).heap[(ι b).block]?=ad (.cells (putCells id ((ι b).shift+o) F d) e (0,0)):=by show(w.heap.modify (ι b).block _)[(ι b).block]?=_;rw[I8,b8 rfl,j];rfl
 have⟨q,g⟩:=h.set (o:=.cells (iY cs o new) e aa sz) (w':=putRow id (Go.Sort.ahead w m) (ι b).block ((ι b).shift+o) F) X (by rw[B];rfl)
  (by show(w.heap.modify _ _).size=_;simp) (λr x=>by show(w.heap.modify _ _)[r]?=_;rw[I8,cG<|λe=>x e.symm])
  ⟨aM,⟨aM,.inr<|Pk _ _⟩,aM⟩
  ⟨LO Q V L,a,_,(0,0),C,λi v Y=>by
   rw[Is _ _ _ _ Q]at Y;simp only[putCells,Array.getElem?_mapIdx];have G:i<aA cs:=by grind
   have J:=s i G;rw[zR J,sE];split at Y;rename_i k;rw[b8 aW];have P:(ι b).shift+i-((ι b).shift+o)=i-o:=aW;rw[P];have U:F[i-o]?=ad (aQ ι v):=by rw[<-wx,W,rJ,Y];rfl
   grind
   grind,λ_=>⟨aM,by simp only[putCells,Array.size_mapIdx];exact⟨l,c⟩⟩⟩
 have⟨z,u⟩:=q.grow S;exact⟨z,g.trans u⟩
end
end
def DI(d:Option Tmp)(t:Tmp):Bool:=
 match d with
 |ad x=>ag x t
 |ae=>ab
def oE(t:Tmp)(l:List Oper):Nat->Nat:=List.rec (motive:=λ_=>Nat->Nat) (λ_=>0) (λo _ I i=>bif DI o.dst t then Nat.lor (aj 1 i) (I<|Nat.succ i)else I<|Nat.succ i) l
def tR(l:List Edge):Nat:=List.rec (motive:=λ_=>Nat) 0 (λe _ I=>bif Region.binds .any e then Nat.lor (aj 1 e.on) I else I) l
def Bw(ops:List Oper)(m b:Nat)(l:List Tmp):Bool:=List.rec (motive:=λ_=>Bool) aa (λt _ I=>bif ag (Nat.land (oE t ops 0) m) 0 then bif ag (Nat.land (oE t ops 0) b) (oE t ops 0)then I else ab else ab) l
def BF(bs:List Nat)(i:Nat)(rest:List cM):Bool:=List.rec (motive:=λ_=>Bool) aa (λO _ I=>bif O.cB then nV (mR bs O.i) i else I) rest
def Hk(bs gp:List Nat)(O:cM):Bool:=
 bif ag O.lo 0 then aa else
  match gp[Nat.sub O.lo 1]? with
  |ad a=>nV (mR bs O.i) a
  |ae=>ab
def Gp(ops:List Oper)(u:Nat)(d:Option Tmp):Bool:=
 match d with
 |ad d=>ag (Nat.land (oE d ops 0) u) 0
 |ae=>aa
def Ee(l:List Oper):Nat->Option Oper:=List.rec (motive:=λ_=>Nat->Option Oper) (λ_=>ae) (λo _ I i=>bif ag i 0 then ad o else I<|Nat.sub i 1) l
def CY(arr:Array Oper)(_:Nat)(ops:List Oper)(bs gp:List Nat)(l:List cM):Nat->Option Nat:=
 List.rec (motive:=λ_=>Nat->Option Nat) (λ_=>ad 0) (λO rest I seen=>
  match I (Nat.lor seen<|aj 1 O.i)with
  |ae=>ae
  |ad u=>
   match Ee ops O.i with
   |ae=>ae
   |ad o=>
    bif DH o.op then ae else
    bif nV seen O.i then ae else
    bif ag (Nat.land (tR o.after.toList) seen) (tR o.after.toList)then
    bif BF bs O.i rest then
    bif Hk bs gp O then
    bif Bw ops (Nat.lor u<|aj 1 O.i) (mR bs O.i) (r_ arr o)then
    bif Gp ops u o.dst then ad (Nat.lor u<|aj 1 O.i)else ae
    else ae else ae else ae else ae) l
def CE(l:List cM):List Nat:=List.rec (motive:=λ_=>List Nat) [] (λO _ I=>bif O.cB then O.i::I else I) l
def EN(l:List Oper):Nat->List Oper:=List.rec (motive:=λ_=>Nat->List Oper) (λ_=>[]) (λo _ I k=>bif ag k 0 then[]else o::I (Nat.sub k 1)) l
def AR(l:List Nat):Nat->List Nat:=List.rec (motive:=λ_=>Nat->List Nat) (λ_=>[]) (λo l I k=>bif ag k 0 then o::l else I<|Nat.sub k 1) l
def CG(m:Nat)(l:List Nat):Bool:=List.rec (motive:=λ_=>Bool) aa (λb _ I=>bif ag (Nat.land m b) m then I else ab) l
def y9(m:Nat)(l:List cM):List cM:=List.rec (motive:=λ_=>List cM) [] (λO _ I=>bif ah O.i m then O::I else I) l
def vp(ops:Array Oper)(m:Nat):Bool:=
 bif ai m (aA ops.toList)then
 bif CG (Nat.sub (aj 1 m) 1) (AR (iG ops.toList [] 0) m)then
 match CY ops m (EN ops.toList m) (iG ops.toList [] 0) (CE<|y9 m<|Er ops) (y9 m<|Er ops) 0 with
 |ad k=>ag k<|Nat.sub (aj 1 m) 1
 |ae=>ab
 else ab else ab
def NI(i j:Nat):(aj 1 i).testBit j=ax (i=j):=by
 have:aj 1 i=2^i:=Pn i
 grind
def Hn(a b j:Nat):(Nat.lor a b).testBit j=(a.testBit j||b.testBit j):=Pq a b j
def U6(a b j:Nat):(Nat.land a b).testBit j=(a.testBit j&&b.testBit j):=Nat.testBit_and a b j
def Wl:∀(l:aH) (i:Nat),Ee l i=l[i]?
 |[],i=>rfl
 |o::l,0=>rfl
 |o::l,i+1=>by have:Ee (o::l) (i+1)=Ee l i:=rfl;rw[this,Wl l i];simp
def Oz(t:Tmp):∀(l:aH) (i j:Nat),(oE t l i).testBit j=aa↔∃k,j=i+k/\ (l[k]?).bind (·.dst)=ad t
 |[],i,j=>by simp[oE]
 |o::l,i,j=>by
  have c:oE t (o::l) i=bif DI o.dst t then Nat.lor (aj 1 i) (oE t l<|i+1)else oE t l (i+1):=rfl
  rw[c];have I:=Oz t l (i+1) j;have C:DI o.dst t=aa↔o.dst=ad t:=by
   unfold DI
   cases o.dst with
   |none=>simp
   |some x=>simp only[Ar];simp
  have f:(∃k,j=i+k/\ ((o::l)[k]?).bind (·.dst)=ad t)↔((j=i/\ o.dst=ad t)\/ ∃k,j=i+1+k/\ (l[k]?).bind (·.dst)=ad t):=by
   constructor;rintro⟨k,h,a⟩
   cases k with
   |zero=>exact .inl ⟨aW,by simpa using a⟩
   |succ k=>exact .inr ⟨k,aW,by simpa using a⟩
   rintro(⟨h,a⟩|⟨k,h,a⟩);exact at6;exact⟨k+1,aW,by simpa using a⟩
  rw[f]
  cases D:DI o.dst t with
  |true=>
   simp only[a8];rw[Hn,NI,iB,I];have:=C.1 D;constructor
   grind
   grind
  |false=>
   simp only[br];rw[I];have n:o.dst≠ad t:=λe=>by rw[C.2 e]at D;cases D
   constructor;exact .inr;exact at6
def RK:∀(l:List Edge) (e:Edge),e∈l->Region.binds .any e=aa->(tR l).testBit e.on=aa
 |B::l,e,he,X=>by
  have c:tR (B::l)=bif Region.binds .any B then Nat.lor (aj 1 B.on) (tR l)else tR l:=rfl
  rw[c]
  rcases dz.1 he with rfl|he
  exact at6;have I:=RK l e he X
  cases Region.binds .any B with
  |true=>simp only[a8];rw[Hn,I];simp
  |false=>exact I
def Mc{a b:Nat}(h:ag (Nat.land a b) a=aa){j:Nat}(u:a.testBit j=aa):b.testBit j=aa:=by
 rw[Ar]at h;have Y:=tm h;have:(Nat.land a b).testBit j=aa:=by rw[Y];exact u
 rw[U6,bW]at this;exact this.2
def U7{a b:Nat}(h:ag (Nat.land a b) 0=aa){j:Nat}(J:a.testBit j=aa)(e:b.testBit j=aa):False:=by
 rw[Ar]at h;have Y:=tm h;have:(Nat.land a b).testBit j=aa:=by rw[U6,J,e];rfl
 exact at6
def ZH:∀(l:aH) (k:Nat),EN l k=l.take k
 |[],k=>by simp[EN]
 |o::l,0=>rfl
 |o::l,k+1=>by have:EN (o::l) (k+1)=o::EN l k:=rfl;rw[this,ZH l k];rfl
def RW:∀(l:aK) (k:Nat),AR l k=l.drop k
 |[],k=>by simp[AR]
 |o::l,0=>rfl
 |o::l,k+1=>by have:AR (o::l) (k+1)=AR l k:=rfl;rw[this,RW l k];rfl
def Ma(m:Nat):∀l:List cM,y9 m l=l.filter λit=>ah it.i m
 |[]=>rfl
 |it::l=>by
  have:y9 m (it::l)=bif ah it.i m then it::y9 m l else y9 m l:=rfl
  rw[this,Ma m l]
  grind
section
variable{arr:Array Oper}{m:Nat}{bs gp:List Nat}
def R_{j:Nat}(u:j<m)(t:Tmp):n_ arr j=ad t↔((arr.toList.take m)[j]?).bind (·.dst)=ad t:=by unfold n_;exact at6
def Vs{k b:Nat}:∀{l:List Tmp},Bw (arr.toList.take m) k b l=aa->∀t,t∈l->
 (∀j,j<m->n_ arr j=ad t->k.testBit j=ab)/\ ∀j,j<m->n_ arr j=ad t->b.testBit j=aa
 |Y::l,h,t,D=>by
  have c:Bw (arr.toList.take m) k b (Y::l)=(bif ag (Nat.land (oE Y (arr.toList.take m) 0) k) 0 then bif ag (Nat.land (oE Y (arr.toList.take m) 0) b) (oE Y (arr.toList.take m) 0)then Bw (arr.toList.take m) k b l else ab else ab):=rfl;rw[c]at h
  cases V:ag (Nat.land (oE Y (arr.toList.take m) 0) k) 0 with
  |false=>rw[V]at h;cases h
  |true=>
   rw[V]at h;simp only[a8]at h
   cases a:ag (Nat.land (oE Y (arr.toList.take m) 0) b) (oE Y (arr.toList.take m) 0)with
   |false=>rw[a]at h;cases h
   |true=>
    rw[a]at h;simp only[a8]at h
    rcases dz.1 D with rfl|D
    have P:∀j,j<m->n_ arr j=ad t->(oE t (arr.toList.take m) 0).testBit j=aa:=λj W u=>(Oz t (arr.toList.take m) 0 j).2 ⟨j,aW,(R_ W t).1 u⟩;refine⟨λj W u=>?_,λj W u=>Mc a<|P j W u⟩
    cases x:k.testBit j with
    |false=>rfl
    |true=>exact(U7 V (P j W u) x).elim
    exact Vs h t D
def We(i:Nat):∀rest:List cM,BF bs i rest=match oX rest with|ad a=>nV (mR bs a) i|ae=>aa
 |[]=>rfl
 |it::rest=>by
  have c:BF bs i (it::rest)=bif it.cB then nV (mR bs it.i) i else BF bs i rest:=rfl
  rw[c,We i rest]
  have j:oX (it::rest)=if it.cB then ad it.i else oX rest:=rfl
  grind
def G6(i j:Nat)(arr:aG):k5 (l5 arr) i j=nV (mR (iG arr.toList [] 0) j) i:=by rw[Au,HB];unfold k5 l5;simp
def Rb:∀(l:List cM) (seen k:Nat) (X:aK),CY arr m (arr.toList.take m) (iG arr.toList [] 0) gp l seen=ad k->(∀it,it∈l->it.i<m)->(∀i,seen.testBit i=X.contains i)->
 sa arr m (l5 arr) gp X l=aa/\ (∀j,k.testBit j=aa↔∃it,it∈l/\ it.i=j)
 |[],seen,k,X,h,_,B=>by
  have:k=0:=by have z:CY arr m (arr.toList.take m) (iG arr.toList [] 0) gp [] seen=ad 0:=rfl;exact at6
  subst this;exact⟨aM,λj=>aY⟩
 |it::p,seen,k,X,h,O,B=>by
  have z:CY arr m (arr.toList.take m) (iG arr.toList [] 0) gp (it::p) seen=
   (match CY arr m (arr.toList.take m) (iG arr.toList [] 0) gp p (Nat.lor seen<|aj 1 it.i)with
   |none=>ae
   |some J=>
    match Ee (arr.toList.take m) it.i with
    |none=>ae
    |some o=>
     bif DH o.op then ae else
     bif nV seen it.i then ae else
     bif ag (Nat.land (tR o.after.toList) seen) (tR o.after.toList)then
     bif BF (iG arr.toList [] 0) it.i p then
     bif Hk (iG arr.toList [] 0) gp it then
     bif Bw (arr.toList.take m) (Nat.lor J<|aj 1 it.i) (mR (iG arr.toList [] 0) it.i) (r_ arr o)then
     bif Gp (arr.toList.take m) J o.dst then ad (Nat.lor J<|aj 1 it.i)else ae
     else ae else ae else ae else ae):=rfl
  have n:it.i<m:=O it aY;rw[z]at h;split at h;cases h;rename_i J q;split at h;cases h;rename_i o g;rw[Wl,Co,b8 n,wx]at g
  cases V:DH o.op with
  |true=>rw[V]at h;cases h
  |false=>
  rw[V]at h;simp only[br]at h
  cases Y:nV seen it.i with
  |true=>rw[Y]at h;cases h
  |false=>
  rw[Y]at h;simp only[br]at h
  cases W:ag (Nat.land (tR o.after.toList) seen) (tR o.after.toList)with
  |false=>rw[W]at h;cases h
  |true=>
  rw[W]at h;simp only[a8]at h
  cases A:BF (iG arr.toList [] 0) it.i p with
  |false=>rw[A]at h;cases h
  |true=>
  rw[A]at h;simp only[a8]at h
  cases Z:Hk (iG arr.toList [] 0) gp it with
  |false=>rw[Z]at h;cases h
  |true=>
  rw[Z]at h;simp only[a8]at h
  cases w:Bw (arr.toList.take m) (Nat.lor J<|aj 1 it.i) (mR (iG arr.toList [] 0) it.i) (r_ arr o)with
  |false=>rw[w]at h;cases h
  |true=>
  rw[w]at h;simp only[a8]at h
  cases c:Gp (arr.toList.take m) J o.dst with
  |false=>rw[c]at h;cases h
  |true=>
  rw[c]at h;simp only[a8,pD]at h;have v:∀i,(Nat.lor seen<|aj 1 it.i).testBit i=(it.i::X).contains i:=λi=>by rw[Hn,NI,B i,List.contains_cons,Bool.or_comm];congr 1;by_cases e:it.i=i;subst e;simp;have:¬i=it.i:=λx=>e x.symm;simp[e,this]
  have⟨S,T⟩:=Rb p _ J _ q (λx s=>O x<|dR _ s) v;have f:∀j,k.testBit j=aa↔∃x,x∈it::p/\ x.i=j:=λj=>by
   rw[<-h,Hn,NI,iB,T j];constructor;rintro(⟨x,s,u⟩|u);exact⟨x,dR _ s,u⟩;exact⟨it,aY,tm u⟩;rintro⟨x,s,u⟩
   rcases dz.1 s with rfl|s
   exact .inr<|gu u;exact .inl ⟨x,s,u⟩
  refine⟨?_,f⟩;have P:ah it.i m=aa:=by rw[CS];exact gu n
  unfold sa;simp only[g,V,P,S,uO,bW,j',oI];refine⟨⟨⟨⟨⟨?_,?_⟩,?_⟩,?_⟩,?_⟩,?_⟩;rw[<-B,<-Au,Y];rfl;rw[kt];intro e L
  cases P:Region.binds .any e with
  |false=>rfl
  |true=>simp only[px,jP];rw[<-B];exact Mc W<|RK _ e L P
  rw[We]at A;split;rename_i a b;rw[b]at A;rw[G6];exact A;rfl;unfold Hk at Z;rw[Ar]at Z;by_cases I:it.lo=0;simp[I];simp only[I,AN,br]at Z;rw[iB];right;have r:gp[it.lo-1]?=gp[Nat.sub it.lo 1]?:=rfl;rw[r];split;rename_i a b;rw[b]at Z;rw[G6];exact Z;rename_i b;rw[b]at Z;exact Z;rw[kt];intro t D;have⟨U,F⟩:=Vs w t D;rw[bW];constructor;rw[nM];unfold oG;rw[py];intro x s C;have Q:n_ arr x.i=ad t:=by simpa using C
  have:=U _ (O x s) Q;rw[h]at this;rw[(f x.i).2 ⟨x,s,rfl⟩]at this;cases this;rw[kt];intro j u;have G:j<m:=by simpa using u
  by_cases C:n_ arr j=ad t;rw[iB];right;rw[G6,Au];exact F j G C;simp[C];unfold Gp at c;split;rename_i d C;rw[C]at c;simp only at c;rw[nM];unfold oG;rw[py];intro x s N;have Q:n_ arr x.i=ad d:=by simpa using N
  exact U7 c ((Oz d (arr.toList.take m) 0 x.i).2 ⟨x.i,aW,(R_ (O x<|dR _ s) d).1 Q⟩)<|(T x.i).2 ⟨x,s,aM⟩;rfl
def PB:∀l:List cM,CE l=(l.filter (·.cB)).map (·.i)
 |[]=>rfl
 |it::l=>by
  have c:CE (it::l)=bif it.cB then it.i::CE l else CE l:=rfl
  rw[c,PB l]
  grind
def WI(m i:Nat):(Nat.sub (aj 1 m) 1).testBit i=ax (i<m):=by
 have d:Nat.sub (aj 1 m) 1=2^m-1:=by have:aj 1 m=2^m:=Pn _;exact avO
 exact at6
def PN{k:Nat}:∀{l:aK},CG k l=aa->∀b,b∈l->∀i,k.testBit i=aa->b.testBit i=aa
 |W::l,h,b,e,i,G=>by
  have c:CG k (W::l)=bif ag (Nat.land k W) k then CG k l else ab:=rfl
  rw[c]at h
  cases V:ag (Nat.land k W) k with
  |false=>rw[V]at h;cases h
  |true=>
   rw[V]at h
   rcases dz.1 e with rfl|e
   exact Mc V G;exact PN h b e i G
def Qy:∀(l:aH) (G:aK) (k:Nat),aA (iG l G k)=aA l
 |[],_,_=>rfl
 |o::l,G,k=>by simp[iG,Qy l]
def RP{ops:aG}{m:Nat}(h:vp ops m=aa):Gn ops m=aa:=by
 unfold vp at h
 cases V:ai m (aA ops.toList)with
 |false=>rw[V]at h;cases h
 |true=>
  rw[V]at h;simp only[a8]at h
  cases a:CG (Nat.sub (aj 1 m) 1) (AR (iG ops.toList [] 0) m)with
  |false=>rw[a]at h;cases h
  |true=>
   rw[a]at h;simp only[a8]at h;rw[ZH,Ma]at h;split at h;rename_i k e;have y:∀O,O∈(Er ops).filter (λO=>ah O.i m)->O.i<m:=λO n=>at6;have⟨C,w⟩:=Rb _ _ _ [] e y aY;unfold Gn;simp only[bW];refine⟨⟨⟨by simpa using V,?_⟩,?_⟩,?_⟩;simp only[JO,xi,kt,lS,iB];intro i G j u;by_cases W:j<m;left;rw[CS];exact gu W;right;rw[G6,Au,HB,pz];have r:j<aA (iG ops.toList [] 0):=by rw[Qy];simpa using u
   rw[cx r,FC];refine PN a _ ?_ i (by rw[WI];exact gu G);rw[RW,List.mem_iff_getElem?];refine⟨j-m,?_⟩;exact at6;rw[PB]at C;exact C;rw[kt];intro i G;have L:i<m:=by simpa using G
   rw[Ar]at h;have x:=tm h;have Y:k.testBit i=aa:=by rw[x,WI];exact gu L
   obtain⟨O,n,rfl⟩:=(w i).1 Y;rw[mD];exact⟨O,n,aY⟩;cases h
end
inductive RT where
 |e
 |v (x:AV)
 |n (a b:RT)
structure GC where
 run:RT->AV
structure SC where
 run:AV->RT->RT
structure TC where
 run:RT->RT
structure VC where
 run:(RT->RT)->RT->RT
def zF(i:Nat):TC:=
 bif ag i 0 then⟨λt=>RT.rec (motive:=λ_=>RT) .e (λ_=>.e) (λa _ _ _=>a) t⟩else
 ⟨λt=>RT.rec (motive:=λ_=>RT) .e (λ_=>.e) (λ_ b _ _=>b) t⟩
def ri(i:Nat):VC:=
 bif ag i 0 then⟨λg t=>RT.rec (motive:=λ_=>RT) (.n (g .e) .e) (λ_=>.n (g .e) .e) (λa b _ _=>.n (g a) b) t⟩else
 ⟨λg t=>RT.rec (motive:=λ_=>RT) (.n .e<|g .e) (λ_=>.n .e<|g .e) (λa b _ _=>.n a<|g b) t⟩
def gc(d:Nat):Nat->GC:=
 Nat.rec (motive:=λ_=>Nat->GC) (λ_=>⟨λt=>RT.rec (motive:=λ_=>AV) .undef (λx=>x) (λ_ _ _ _=>.undef) t⟩)
  (λ_ g k=>⟨λt=>(g<|Nat.div k 2).run<|(zF<|Nat.mod k 2).run t⟩) d
def sc(d:Nat):Nat->SC:=
 Nat.rec (motive:=λ_=>Nat->SC) (λ_=>⟨λv _=>.v v⟩)
  (λ_ g k=>⟨λv t=>(ri<|Nat.mod k 2).run (λt=>(g<|Nat.div k 2).run v t) t⟩) d
def Gh(n:Nat):Nat:=Nat.succ<|Nat.log2 n
def oZ(n k:Nat):GC:=bif ah k n then gc (Gh n) k else⟨λ_=>.undef⟩
def EH(n k:Nat):SC:=bif ah k n then sc (Gh n) k else⟨λ_ T=>T⟩
def r9(D:a_)(n:Nat)(x:Operand):GC:=
 match x with
 |.tmp t=>oZ n t
 |.const v=>⟨λ_=>tl v⟩
 |.global g=>bif ah g D.gx then⟨λ_=>.aR g 0⟩else⟨λ_=>.aN<|.pointer<|ad ⟨g,0,ae⟩⟩
 |.func f=>⟨λ_=>.func (.func f) [] []⟩
def xQ(n:Nat)(d:Option Tmp):SC:=
 match d with
 |ae=>⟨λ_ T=>T⟩
 |ad d=>EH n d
def qP(l:List AV):Nat:=List.rec (motive:=λ_=>Nat) 0 (λ_ _ I=>Nat.succ I) l
def Da(l:List AV):Nat->List AV:=List.rec (motive:=λ_=>Nat->List AV) (λ_=>[]) (λv l I o=>bif ag o 0 then v::l else I<|Nat.sub o 1) l
def GS(l:List AV):Nat->R (List AV):=
 List.rec (motive:=λ_=>Nat->R (List AV)) (λk=>bif ag k 0 then .ok []else .error "")
  (λv _ I k=>bif ag k 0 then .ok []else match I (Nat.sub k 1)with|.ok l=>.ok (v::l)|.error e=>.error e) l
def GR(l:List AV)(k:Nat):R (List AV):=bif ag (qP l) k then .ok l else GS l k
def yd(cs:List AV)(o k:Nat):R (List AV):=bif ag o 0 then GR cs k else GR (Da cs o) k
abbrev uR(ρ:Type):=RT->List bT->bM->St->R ρ
abbrev ym(ρ:Type):=AV->RT->List bT->bM->St->R ρ
structure OC(ρ:Type)where
 run:iZ->i6->RT->List bT->bM->St->uR ρ->ym ρ->R ρ
def Hz(ρ:Type)(isRound:Bool)(cu:SC)(g:iZ)(round:i6)(h:jj)(T:RT)(ds:List bT)(c:bM)(σ:St)(K:uR ρ)(Kp:ym ρ):R ρ:=
 match h with
 |.value v=>K (cu.run v T) ds c σ
 |.skip=>K (cu.run .undef T) ds c σ
 |.defer d=>bif isRound then .error "" else K (cu.run .undef T) (d::ds) c σ
 |.panic v=>Kp v T ds c σ
 |.enter f args=>
  (match g f args σ with
  |.ok r=>(match r with
   |⟨e,σ⟩=>(match e with
    |.ret v=>K (cu.run v T) ds c σ
    |.panic v=>Kp v T ds c σ))
  |.error e=>.error e)
 |.round l args=>
  (match round l args σ with
  |.ok r=>(match r with
   |⟨e,σ⟩=>(match e with
    |.ret v=>K (cu.run v T) ds c σ
    |.panic v=>Kp v T ds c σ))
  |.error e=>.error e)
def HJ(ρ:Type)(D:a_)(n:Nat)(isRound:Bool)(o:Oper):OC ρ:=⟨λg G T ds c σ K Kp=>
 match execOp D (λx=>(r9 D n x).run T) σ o.op with
 |.ok r=>(match r with
  |⟨h,σ⟩=>Hz ρ isRound (xQ n o.dst) g G h T ds c σ K Kp)
 |.error e=>.error e⟩
def UK(v:AV)(k:Bool):Bool:=
 match v with
 |.aN v=>(match v with
  |.bool b=>bif b then k else not k
  |_=>ab)
 |_=>ab
def E5(n:Nat)(ops:Array Oper)(o:Oper)(T:RT):Bool:=
 match o.guard with
 |ae=>aa
 |ad (j,k)=>UK (match(ops[j]?).bind (·.dst)with|ad d=>(oZ n d).run T|ae=>.undef) k
def Ii(ρ:Type)(D:a_)(n:Nat)(isRound:Bool)(ops:Array Oper)(l:List Oper):OC ρ:=
 List.rec (motive:=λ_=>OC ρ) ⟨λ_ _ T ds c σ K _=>K T ds c σ⟩
  (λo _ I=>⟨λg G T ds c σ K Kp=>
    bif E5 n ops o T then(HJ ρ D n isRound o).run g G T ds c σ (λT ds c σ=>I.run g G T ds c σ K Kp) Kp
    else I.run g G ((xQ n o.dst).run .undef T) ds c σ K Kp⟩) l
structure DC(ρ:Type)where
 run:iZ->i6->List St->RT->List bT->bM->St->uR ρ->R ρ
def zL(n:Nat)(T:RT):List AV:=(ao n).map λk=>(oZ n k).run T
def Dj(n:Nat)(l:List AV):Nat->RT->RT:=List.rec (motive:=λ_=>Nat->RT->RT) (λ_ T=>T) (λv _ I i T=>I (Nat.succ i)<|(EH n i).run v T) l
def L6(ρ:Type)(D:a_)(n:Nat)(isRound:Bool)(ops:Array Oper)(O:cM)(I:DC ρ):DC ρ:=
 match ops[O.i]? with
 |ae=>⟨λ_ _ _ _ _ _ _ _=>.error ""⟩
 |ad o=>⟨λg G k T ds c σ K=>
  bif E5 n ops o T then
   bif O.cB then
    bif o.op.operands.toList.all λx=>de σ.n ((r9 D n x).run T)then
     (HJ ρ D n isRound o).run g G T ds c σ (λT ds c σ'=>bif ai σ.n σ'.n then I.run g G (σ'::k) T ds c σ' K else .error "")
       (λ_ _ _ _ _=>.error "")
    else .error ""
   else
    match jo D o.op with
    |.pure=>(match gy D (λx=>(r9 D n x).run T) o.op with
     |.ok v=>I.run g G k ((xQ n o.dst).run v T) ds c σ K
     |.error e=>.error e)
    |.je=>(match kM D σ (λx=>(r9 D n x).run T) o.op with
     |.ok v=>
      bif ah O.lo (aA k)&&(k.take<|Nat.sub (aA k) O.lo).all (λσ=>match kM D σ (λx=>(r9 D n x).run T) o.op with|.ok i=>cU i v|.error _=>ab)
      then I.run g G k ((xQ n o.dst).run v T) ds c σ K else .error ""
     |.error e=>.error e)
    |.alloc=>(match jT D (λx=>(r9 D n x).run T) o.op σ.n with
     |.ok r=>(match r with
      |⟨v,ob⟩=>bif dM (Nat.succ σ.n) ob then I.run g G k ((xQ n o.dst).run v T) ds c (σ.push ob) K else .error "")
     |.error e=>.error e)
    |.cB=>.error ""
  else I.run g G (bif O.cB then σ::k else k) ((xQ n o.dst).run .undef T) ds c σ K⟩
def HV(ρ:Type)(D:a_)(n:Nat)(isRound:Bool)(ops:Array Oper)(l:List cM):DC ρ:=List.rec (motive:=λ_=>DC ρ) ⟨λ_ _ _ T ds c σ K=>K T ds c σ⟩ (λO _ I=>L6 ρ D n isRound ops O I) l
def Nc(ρ:Type)(D:a_)(n:Nat)(isRound:Bool)(ops:Array Oper)(E:Bool):OC ρ:=
 match E with
 |aa=>bif vp ops (D.cut ops)then⟨λg G T ds c σ K Kp=>(HV ρ D n isRound ops<|y9 (D.cut ops)<|Er ops).run g G [σ] T ds c σ (λT ds c σ=>
   bif ag (aA ops.toList) (Nat.succ<|D.cut ops)then
    bif rG ops (D.cut ops) 0 (D.cut ops)then(Ii ρ D n isRound ops<|ops.toList.drop<|D.cut ops).run g G T ds c σ K Kp else .error ""
   else bif ai (aA ops.toList) (D.cut ops)then K T ds c σ else .error "")⟩
  else⟨λ_ _ _ _ _ _ _ _=>.error ""⟩
 |ab=>Ii ρ D n isRound ops ops.toList
abbrev sF:=cY×bM×St
structure mC where
 run:FuncId->Nat->Option Nat->RT->List fQ->List bT->bM->St->R sF
 finish:FuncId->Nat->RT->List bT->Option AV->bM->St->R sF
 endLoop:FuncId->Nat->Option Nat->RT->List fQ->List bT->Nat->cY->bM->St->R sF
 call:iZ
 round:i6
def LF(F:mC)(h:jj)(σ:St):R (cY×St):=
 match h with
 |.enter f args=>F.call f args σ
 |.round l args=>F.round l args σ
 |_=>.error ""
def Bt(F:mC)(fn n:Nat)(rd:Option Nat)(T:RT)(ds:List bT)(y:Option Code)(b:bM)(σ:St):R sF:=
 match rd with
 |ae=>
  (match y with
  |ae=>F.finish fn n T ds ae b σ
  |ad c=>(match c with
   |.ret=>F.finish fn n T ds ae b σ
   |_=>.error ""))
 |ad l=>
  bif ds.isEmpty then
   (match getLoop σ l with
   |.ok r=>.ok (.ret<|cO y.isNone,b,σ.set l<|.loop {r with state:=if y.isNone then .ready else .done,pending:=y})
   |.error e=>.error e)
  else .error ""
def HP(F:mC)(fn n:Nat)(rd:Option Nat)(T:RT)(ds:List bT)(v:AV)(c:bM)(σ:St):R sF:=
 match rd with
 |ae=>F.finish fn n T ds (ad v) c σ
 |ad _=>bif ds.isEmpty then .ok (.panic v,c,σ)else .error ""
structure CC where
 run:mC->FuncId->Nat->Option Nat->RT->List fQ->List bT->bM->St->R sF
def AH(D:a_)(n:Nat)(isRound:Bool)(c:Code):CC:=
 match c with
 |.ret=>⟨λF fn n rd T _ ds p σ=>Bt F fn n rd T ds (ad .ret) p σ⟩
 |.skip=>⟨λF fn n rd T k ds p σ=>F.run fn n rd T k ds p σ⟩
 |.label _=>⟨λF fn n rd T k ds p σ=>F.run fn n rd T k ds p σ⟩
 |.seq a b=>⟨λF fn n rd T k ds p σ=>F.run fn n rd T (.code a::.code b::k) ds p σ⟩
 |.cond c x y=>⟨λF fn n rd T k ds p σ=>
   match(r9 D n c).run T with
   |.aN v=>(match v with
    |.bool b=>F.run fn n rd T (.code (bif b then x else y)::k) ds p σ
    |_=>.error "")
   |_=>.error ""⟩
 |.block id body=>⟨λF fn n rd T k ds p σ=>F.run fn n rd T (.code body::.inBlock id::k) ds p σ⟩
 |.loop body=>⟨λF fn n rd T k ds p σ=>F.run fn n rd T (.code body::.inLoop body::k) ds p σ⟩
 |.scope body=>⟨λF fn n rd T k ds p σ=>F.run fn n rd T (.code body::.inScope body::k) ds p σ⟩
 |.exit id=>⟨λF fn n rd T k ds p σ=>
   match exitTo id k with
   |ad k=>F.run fn n rd T k ds p σ
   |ae=>Bt F fn n rd T ds (ad<|.exit id) p σ⟩
 |.goto l=>⟨λF fn n rd T k ds p σ=>
   match gotoIn l k with
   |ad k=>F.run fn n rd T k ds p σ
   |ae=>Bt F fn n rd T ds (ad<|.goto l) p σ⟩
 |.region _ ops E=>⟨λF fn m rd T k ds p σ=>(Nc sF D n isRound ops E).run F.call F.round T ds p σ (λT ds p σ=>F.run fn m rd T k ds p σ)<|λv T ds p σ=>HP F fn m rd T ds v p σ⟩
 |.rangeFunc f params assign body=>⟨λF fn n rd T k ds p σ=>
   match rd with
   |ad U=>
    (match getLoop σ U with
    |.ok i=>
     (match pL D ((r9 D n f).run T) [.yield σ.n]with
     |.ok h=>
      (match LF F h (σ.push<|.loop {state:=.ready,pending:=ae,fn:=fn,T:=zL n T,params:=params.toList,assign,body,defers:=i.defers})with
      |.ok r=>(match r with
       |⟨e,σ'⟩=>F.endLoop fn n rd T k ds σ.n e p σ')
      |.error e=>.error e)
     |.error e=>.error e)
    |.error e=>.error e)
   |ae=>
    (match pL D ((r9 D n f).run T) [.yield<|σ.n+1]with
    |.ok h=>
     (match LF F h ((σ.push<|.deferred<|ad []).push<|.loop {state:=.ready,pending:=ae,fn:=fn,T:=zL n T,params:=params.toList,assign,body,defers:=σ.n})with
     |.ok r=>(match r with
      |⟨e,σ'⟩=>F.endLoop fn n rd T k (.collected σ.n::ds) (σ.n+1) e p σ')
     |.error e=>.error e)
    |.error e=>.error e)⟩
 |.refuse _=>⟨λ_ _ _ _ _ _ _ _ _=>.error ""⟩
def xZ(D:a_)(F:mC)(fn n:Nat)(rd:Option Nat)(T:RT)(todo:List fQ)(ds:List bT)(b:bM)(σ:St):R sF:=
 match todo with
 |[]=>Bt F fn n rd T ds ae b σ
 |it::k=>
  match it with
  |.code c=>(AH D n rd.isSome c).run F fn n rd T k ds b σ
  |.inBlock _=>F.run fn n rd T k ds b σ
  |.inScope _=>F.run fn n rd T k ds b σ
  |.inLoop G=>F.run fn n rd T (.code G::.inLoop G::k) ds b σ
  |.beginRound=>
   match rd with
   |ad l=>
    (match getLoop σ l with
    |.ok r=>if r.state=.ready then F.run fn n rd T k ds b (σ.set l<|.loop {r with state:=.busy})else .error ""
    |.error e=>.error e)
   |ae=>.error ""
def KI(F:mC)(fn n:Nat)(rd:Option Nat)(T:RT)(todo:List fQ)(ds:List bT)(l:Nat)(e:cY)(b:bM)(σ:St):R sF:=
 match e with
 |.ret _=>
  (match getLoop σ l with
  |.ok r=>
   if r.state=.busy then .error "" else
   (match r.pending with
   |ae=>F.run fn n rd T todo ds b<|σ.set l<|.loop {r with state:=.exhausted}
   |ad c=>F.run fn n rd T (.code c::todo) ds b<|σ.set l<|.loop {r with state:=.exhausted})
  |.error e=>.error e)
 |.panic v=>HP F fn n rd T ds v b σ
structure EC where
 ok:Bool
 n:Nat
 todo:List fQ
def Sd(D:a_)(f:FuncId):EC:=
 match D.func f with
 |ad fn=>(match fn.body with
  |ad c=>⟨aa,fn.ntmps,[.code c]⟩
  |ae=>⟨ab,0,[]⟩)
 |ae=>⟨ab,0,[]⟩
def AW(D:a_)(F:mC)(f:FuncId)(args:List AV)(c:bM)(σ:St):R sF:=
 match Sd D f with
 |⟨C,n,todo⟩=>bif C then bif ai (qP args) n then F.run f n ae (Dj n args 0 .e) todo [] c σ else .error "" else .error ""
def H7(D:a_)(n:Nat)(σ:St)(T:RT)(l:List ResultVar):R (List AV):=
 List.rec (motive:=λ_=>R<|List AV) (.ok []) (λx _ I=>
  match x with
  |.tmp t=>(match I with
   |.ok r=>.ok<|(oZ n t).run T::r
   |.error e=>.error e)
  |.cell a t=>(match jw D σ t ((oZ n a).run T)with
   |.ok v=>(match I with
    |.ok r=>.ok<|v::r
    |.error e=>.error e)
   |.error e=>.error e)) l
def alb(q:List AV):AV:=
 match q with
 |[]=>.tuple []
 |v::l=>(match l with
  |[]=>v
  |w::l=>.tuple<|v::w::l)
def X9(D:a_)(f:FuncId):Option (List ResultVar):=
 match D.func f with
 |ad fn=>ad fn.results.toList
 |ae=>ae
def K9(D:a_)(F:mC)(fn n:Nat)(T:RT)(ds:List bT)(B:Option AV)(c:bM)(σ:St):R sF:=
 match ds with
 |[]=>
  (match B with
  |ae=>(match X9 D fn with
   |ad l=>(match H7 D n σ T l with
    |.ok q=>.ok (.ret<|alb q,c,σ)
    |.error e=>.error e)
   |ae=>.error "")
  |ad v=>.ok (.panic v,c,σ))
 |d::ds=>
  match d with
  |.collected r=>
   (match σ.get r with
   |.ok o=>(match o with
    |.deferred (ad j)=>F.finish fn n T (j++ds) B c<|σ.set r<|.deferred ae
    |_=>.error "")
   |.error e=>.error e)
  |.fn g cap args=>
   (match vG D g cap args with
   |.ok h=>(match h with
    |.enter f args=>
     (match AW D F f args (B.map λv=>(v,ab)) σ with
     |.ok r=>(match r with
      |⟨e,p,σ⟩=>(match e with
       |.ret _=>(match p with
        |ad (v,ab)=>F.finish fn n T ds (ad v) c σ
        |_=>F.finish fn n T ds ae c σ)
       |.panic v=>(match p with
        |ae=>F.finish fn n T ds (ad v) c σ
        |ad _=>.error "")))
     |.error e=>.error e)
    |_=>.error "")
   |.error e=>.error e)
def pH(l:List AV):Bool:=List.rec (motive:=λ_=>Bool) aa (λv _ I=>match v with|.aN _=>I|_=>ab) l
def F6(U:Bool)(cap:Option Nat)(o L sz:Nat)(cs:List AV):Bool:=
 match cap with
 |ae=>bif U then ag o 0 else aa
 |ad c=>bif ah 0 sz then bif ai L c then bif U then(bif ai (Nat.add o<|Nat.mul c sz) (qP cs)then ag o 0 else ab)else aa else ab else ab
def pO(f:AV->St->R (AV×St))(l:List AV):St->R (List AV×St):=
 List.rec (motive:=λ_=>St->R (List AV×St)) (λZ=>.ok ([],Z)) (λx _ I Z=>
  match f x Z with
  |.ok r=>(match r with
   |⟨x,Z⟩=>(match I Z with
    |.ok r=>(match r with
     |⟨l,Z⟩=>.ok (x::l,Z))
    |.error e=>.error e))
  |.error e=>.error e) l
def oS(U:Bool)(T:St)(n:Nat):AV->St->R (AV×St):=
 Nat.rec (motive:=λ_=>AV->St->R (AV×St)) (λ_ _=>.error "") (λn I v Z=>
  let c:List AV->St->R (List AV×St):=λl Z=>bif ag n 0 then pO I l Z else bif pH l then .ok (l,Z)else pO I l Z
  match v with
  |.aN v=>.ok (.aN v,Z)
  |.slice b o L cap sz=>
   (match T.a7 b with
   |.cells cs W C A=>
    bif (bif U then bif C then ag A sz else ab else aa)then
    bif F6 U cap o L sz cs then
     (match yd cs o (Nat.mul L sz)with
     |.ok l=>(match c l Z with
      |.ok r=>(match r with
       |⟨l,Z⟩=>(match Z with
        |⟨m,h,M⟩=>.ok (.slice m 0 L ae sz,⟨Nat.succ m,.cells l W U sz::h,M⟩)))
      |.error e=>.error e)
     |.error e=>.error e)
    else .error ""
    else .error ""
   |_=>.error "")
  |.iface t v=>
   (match I v Z with
   |.ok r=>(match r with
    |⟨v,Z⟩=>.ok (.iface t v,Z))
   |.error e=>.error e)
  |.agg l=>
   (match c l Z with
   |.ok r=>(match r with
    |⟨l,Z⟩=>.ok (.agg l,Z))
   |.error e=>.error e)
  |.tuple l=>
   (match c l Z with
   |.ok r=>(match r with
    |⟨l,Z⟩=>.ok (.tuple l,Z))
   |.error e=>.error e)
  |v=>iQ U T (Nat.succ n) v Z) n
def zB(T:St)(n:Nat):AV->List Nat:=
 Nat.rec (motive:=λ_=>AV->List Nat) (λ_=>[]) (λ_ I v=>
  let c:List AV->List Nat:=λl=>bif pH l then[]else kN I l
  match v with
  |.aN _=>[]
  |.slice b o L _ sz=>
   (match T.a7 b with
   |.cells cs _ _ _=>(match yd cs o (Nat.mul L sz)with
    |.ok l=>b::c l
    |.error _=>b::kN I ((cs.drop o).take<|L*sz))
   |_=>[])
  |.iface _ v=>I v
  |.agg l=>c l
  |.tuple l=>c l
  |_=>[]) n
def HZ(D:a_)(F:mC)(f:FuncId)(args:List AV)(V:St):R (hZ×eb):=
 match AW D F f args ae V with
 |.ok r=>(match r with
  |⟨e,r⟩=>(match r with
   |⟨_,d⟩=>(match e with
   |.ret v=>
    bif ti (zB d kh v)then
     (match oS aa d kh v (qJ D .e)with
     |.ok r=>(match r with
      |⟨y,A⟩=>(match A with
       |⟨_,J,_⟩=>bif ti (zB (jm .e J) kh y)then .ok ({f,args,heap:=V.l,val:=y,lJ:=J},d.M)else .error ""))
     |.error e=>.error e)
    else .error ""
   |.panic _=>.error "")))
 |.error e=>.error e
def Hu(m:hZ)(σ:St):R (cY×St):=
 match oS aa (jm .e m.lJ) kh m.val σ with
 |.ok r=>(match r with
  |⟨v,σ⟩=>.ok (.ret v,σ))
 |.error e=>.error e
def Kk(D:a_)(F:mC)(f:FuncId)(args:List AV)(σ:St):R (cY×St):=
 bif D.pure f then
  match D.tn f with
  |ad _=>.error ""
  |ae=>(match σ with
  |⟨n,l,M⟩=>
   (match pO (oS ab ⟨n,l,M⟩ kh) args (qJ D M)with
   |.ok r=>(match r with
    |⟨v,V⟩=>(match V with
     |⟨w,o,c⟩=>
     (match yO f v o (c.get<|Et f)with
     |ad m=>Hu m ⟨n,l,M⟩
     |ae=>(match HZ D F f v ⟨w,o,c⟩with
      |.ok r=>(match r with
       |⟨m,B⟩=>Hu m ⟨n,l,B.add m<|Et f⟩)
      |.error e=>.error e))))
   |.error e=>.error e))
 else
  (match AW D F f args ae σ with
  |.ok r=>(match r with
   |⟨e,r⟩=>(match r with
    |⟨_,σ⟩=>.ok (e,σ)))
  |.error e=>.error e)
def MW(n:Nat)(l:List<|Tmp×AV):RT->RT:=List.rec (motive:=λ_=>RT->RT) (λT=>T) (λp _ I T=>I<|(EH n p.1).run p.2 T) l
def Np(D:a_)(F:mC)(l:Nat)(args:List AV)(σ:St):R (cY×St):=
 match getLoop σ l with
 |.ok r=>
  (match D.func r.fn with
  |ae=>.error ""
  |ad _=>
   if aA r.params=aA args then
    (match F.run r.fn (qP r.T) (ad l) (MW (qP r.T) (r.params.zip args)<|Dj (qP r.T) r.T 0 .e) [.code r.assign,.beginRound,.code r.body] [] ae σ with
    |.ok r=>(match r with
     |⟨e,_,σ⟩=>.ok (e,σ))
    |.error e=>.error e)
   else .error "")
 |.error e=>.error e
def Wh:mC where
 run:=λ_ _ _ _ _ _ _ _=>.error ""
 finish:=λ_ _ _ _ _ _ _=>.error ""
 endLoop:=λ_ _ _ _ _ _ _ _ _ _=>.error ""
 call:=λ_ _ _=>.error ""
 round:=λ_ _ _=>.error ""
def akk(D:a_)(F:mC):mC where
 run:=xZ D F
 finish:=K9 D F
 endLoop:=KI F
 call:=Kk D F
 round:=Np D F
def Ti(D:a_)(n:Nat):mC:=Nat.rec (motive:=λ_=>mC) Wh (λ_ F=>akk D F) n
def Le{α:Type}(x y:R α):Prop:=∀a,x=.ok a->y=.ok a
def Le.refl{α:Type}(x:R α):Le x x:=λ_ h=>h
def Le.of_eq{α:Type}{x y:R α}(h:x=y):Le x y:=h▸Le.refl x
def Le.error{α:Type}{e:String}{y:R α}:Le (.error e:R α) y:=λ_ h=>by cases h
def Le.trans{α:Type}{x y z:R α}(h:Le x y)(k:Le y z):Le x z:=λa b=>k a<|h a b
def Le.step{α β:Type}{x y:R α}{F:R β}{g:α->R β}(h:Le x y)(f:∀e,x=.error e->∃B,F=.error B)(q:∀a,x=.ok a->Le F (g a)):Le F (y>>=g):=by
 cases s:x with
 |error e=>have⟨B,W⟩:=f e s;rw[W];exact Le.error
 |ok a=>have Q:=h a s;rw[Q];exact q a s
def beq_eq(a b:Nat):ag a b=ax (a=b):=by rw[Cf];simp
def blt_eq(a b:Nat):ah a b=ax (a<b):=by rw[Cf];simp[Jv]
def FX(a b:Nat):ai a b=ax (a<=b):=by rw[Cf];simp
def an5(i j:Nat)(G:i<2)(u:j<2)(g:RT->RT)(t:RT):(zF i).run ((ri j).run g t)=if i=j then g ((zF j).run t)else(zF i).run t:=by
 have h:i=0\/ i=1:=aW;have a:j=0\/ j=1:=aW
 rcases h with rfl|rfl<;>rcases a with rfl|rfl<;>cases t<;>rfl
def LA(d k:Nat)(t:RT):(gc (d+1) k).run t=(gc d<|k/2).run ((zF<|k %2).run t):=rfl
def an3(d k:Nat)(v:AV)(t:RT):(sc (d+1) k).run v t=(ri<|k %2).run (λt=>(sc d<|k/2).run v t) t:=rfl
def ag9:∀(d k j:Nat) (v:AV) (t:RT),k<2^d->j<2^d->(gc d j).run ((sc d k).run v t)=if j=k then v else(gc d j).run t:=by
 intro d
 induction d with
 |zero=>
  intro k j v t f u;have:j=k:=by simp at f u;omega
  simp only[this,dj];rfl
 |succ d I=>
  intro k j v t f u;rw[LA,LA,an3,an5 _ _ (z7 _ aW)<|z7 _ aW];have y:k/2<2^d:=by rw[Po]at f;omega
  have c:j/2<2^d:=by rw[Po]at u;omega
  by_cases h:j %2=k %2
  grind
  grind
def ag8:∀(d k:Nat),(gc d k).run .e=.undef:=by
 intro d
 induction d with
 |zero=>intro k;rfl
 |succ d I=>
  intro k;rw[LA];have:∀i,(zF i).run .e=.e:=by
   intro i;unfold zF
   grind
  rw[this];exact I _
def RI(n:Nat):n<=2^Gh n:=Jw Nat.lt_log2_self
structure TR(n:Nat)(T:RT)(L:List AV):Prop where
 len:aA L=n
 get:∀k,k<n->(gc (Gh n) k).run T=L.getD k .undef
def TR.oZ{n:Nat}{T:RT}{L:aD}(h:TR n T L)(k:Nat):(oZ n k).run T=L.getD k .undef:=by unfold Dt.oZ;rw[blt_eq];by_cases f:k<n;simp only[f,vl,a8];exact h.get k f;simp only[f,AN,br];rw[pz,mE<|by rw[h.len];omega];rfl
def TR.set{n:Nat}{T:RT}{L:aD}(h:TR n T L)(k:Nat)(v:AV):TR n ((EH n k).run v T) (L.set k v):=by unfold EH;rw[blt_eq];by_cases f:k<n;simp only[f,vl,a8];refine⟨by rw[lR];exact h.len,λj u=>?_⟩;rw[ag9 _ _ _ _ _ (dc f<|RI n)<|dc u<|RI n,pz,rz];by_cases e:j=k;subst e;simp[h.len,f];have B:¬k=j:=λx=>e x.symm;simp only[e,B,ff];rw[h.get j u,pz];simp only[f,AN,br];rw[List.set_eq_of_length_le<|by rw[h.len];omega];exact h
def TR.cu{n:Nat}{T:RT}{L:aD}(h:TR n T L)(d:Option Tmp)(v:AV):TR n ((xQ n d).run v T) (cu L d v):=by
 cases d with
 |none=>exact h
 |some d=>exact h.set d v
def TR.ev{D:a_}{n:Nat}{T:RT}{L:aD}(h:TR n T L)(x:Operand):(r9 D n x).run T=dV D L x:=by
 cases x with
 |tmp t=>exact h.oZ t
 |const v=>rfl
 |global g=>simp only[r9,dV,blt_eq];by_cases o:g<D.gx<;>simp[o]
 |func f=>rfl
def TR.WJ{D:a_}{n:Nat}{T:RT}{L:aD}(h:TR n T L):(λx=>(r9 D n x).run T)=dV D L:=funext λx=>h.ev x
def zc:∀l:aD,qP l=aA l
 |[]=>rfl
 |v::l=>by have:qP (v::l)=(qP l).succ:=rfl;rw[this,zc l];rfl
def RX:∀(l:aD) (o:Nat),Da l o=l.drop o
 |[],o=>by simp[Da]
 |v::l,0=>rfl
 |v::l,o+1=>by have:Da (v::l) (o+1)=Da l o:=rfl;rw[this,RX l o];rfl
def TN:∀(l:aD) (k:Nat),GS l k=if k<=aA l then .ok (l.take k)else .error ""
 |[],0=>rfl
 |[],k+1=>rfl
 |v::l,0=>rfl
 |v::l,k+1=>by
  have:GS (v::l) (k+1)=match GS l k with|.ok l=>.ok (v::l)|.error e=>.error e:=rfl
  rw[this,TN l k]
  grind
def TM(l:aD)(k:Nat):GR l k=if k<=aA l then .ok (l.take k)else .error "":=by
 unfold GR;rw[beq_eq,zc,TN]
 grind
def ZI(cs:aD)(o k:Nat):yd cs o k=fO cs o k:=by unfold yd fO;have l:aA ((cs.drop o).take k)=k↔k<=aA (cs.drop o):=aw5;rw[beq_eq,TM,TM,RX];exact at6
section
variable{D:a_}
end
def qn(c T:iZ):Prop:=∀f args σ,Le (c f args σ)<|T f args σ
def Cm{ρ:Type}(n:Nat)(K:uR ρ)(K':List AV->List bT->bM->St->R ρ):Prop:=∀T L ds c σ,TR n T L->Le (K T ds c σ) (K' L ds c σ)
def Fp{ρ:Type}(n:Nat)(K:ym ρ)(K':AV->List AV->List bT->bM->St->R ρ):Prop:=∀v T L ds c σ,TR n T L->Le (K v T ds c σ) (K' v L ds c σ)
def xp{ρ:Type}(K:List AV->List bT->bM->St->R ρ)(Kp:AV->List AV->List bT->bM->St->R ρ):nb->R ρ
 |.go L ds c σ=>K L ds c σ
 |.panic v L ds c σ=>Kp v L ds c σ
def wO{α β γ:Type}(x:R α)(f:α->R β)(g:β->R γ):(x>>=f)>>=g=x>>=λa=>f a>>=g:=by cases x<;>rfl
section
variable{D:a_}{ρ:Type}{call call':iZ}{round round':i6}
def akj(Q:qn call call')(r:∀l args σ,Le (round l args σ)<|round' l args σ){n:Nat}{isRound:Bool}{o:Oper}{T:RT}{L:aD}(h:TR n T L)(ds:aJ)(c:bM)(σ:St)
 {K:uR ρ}{K':aD->aJ->bM->St->R ρ}{Kp:ym ρ}{Kp':AV->aD->aJ->bM->St->R ρ}(k:Cm n K K')(X:Fp n Kp Kp')(m:jj)
 {σ0:St}(J:execOp D (dV D L) σ0 o.op=.ok (m,σ)):
 Le (Hz ρ isRound (xQ n o.dst) call round m T ds c σ K Kp) (mr D call' round' isRound o L ds c σ0>>=xp K' Kp'):=by
 simp only[mr,J]
 cases m with
 |value v=>exact k _ _ _ _ _<|h.cu _ _
 |skip=>exact k _ _ _ _ _<|h.cu _ _
 |defer d=>
  cases isRound with
  |true=>exact Le.error
  |false=>exact k _ _ _ _ _<|h.cu _ _
 |panic v=>exact X _ _ _ _ _ _ h
 |enter f args=>
  simp only[Hz];have:=Q f args σ;show Le _<|(call' f args σ>>=λ(x:cY×St)=>_)>>=_;rw[wO];refine Le.step this (λe J=>⟨e,by rw[J]⟩) λa b=>?_;rw[b];have⟨e,G⟩:=a
  cases e with
  |ret v=>exact k _ _ _ _ _<|h.cu _ _
  |panic v=>exact X _ _ _ _ _ _ h
 |round l args=>
  simp only[Hz];have:=r l args σ;show Le _<|(round' l args σ>>=λ(x:cY×St)=>_)>>=_;rw[wO];refine Le.step this (λe J=>⟨e,by rw[J]⟩) λa b=>?_;rw[b];have⟨e,G⟩:=a
  cases e with
  |ret v=>exact k _ _ _ _ _<|h.cu _ _
  |panic v=>exact X _ _ _ _ _ _ h
def WB(Q:qn call call')(x:∀l args σ,Le (round l args σ)<|round' l args σ){n:Nat}{isRound:Bool}{o:Oper}{T:RT}{L:aD}(h:TR n T L)(ds:aJ)(c:bM)(σ:St)
 {K:uR ρ}{K':aD->aJ->bM->St->R ρ}{Kp:ym ρ}{Kp':AV->aD->aJ->bM->St->R ρ}(k:Cm n K K')(X:Fp n Kp Kp'):
 Le ((HJ ρ D n isRound o).run call round T ds c σ K Kp) (mr D call' round' isRound o L ds c σ>>=xp K' Kp'):=by
 unfold HJ;intro a b;simp only[h.WJ]at b
 cases p:execOp D (dV D L) σ o.op with
 |error e=>rw[p]at b;cases b
 |ok r=>have⟨m,G⟩:=r;rw[p]at b;exact akj Q x h ds c G k X m p a b
def aix(v:AV)(k:Bool):UK v k=((match v with|.aN (.bool b)=>ad b|_=>ae)==ad k):=by
 cases v with
 |aN v=>cases v with
  |bool b=>cases b<;>cases k<;>rfl
  |_=>rfl
 |_=>rfl
def abe{n:Nat}{ops:aG}{o:Oper}{T:RT}{L:aD}(S:TR n T L):E5 n ops o T=ji ops o L:=by
 unfold E5 ji;split;rename_i G;rw[G];rename_i j w G;rw[G];simp only;rw[aix];unfold zO
 cases t:ops[j]?.bind λx=>x.dst with
 |none=>rfl
 |some d=>
  simp only[Cw,S.oZ,pz]
  cases Q:L[d]? with
  |none=>rfl
  |some v=>
   cases v with
   |aN v=>cases v<;>rfl
   |_=>rfl
def YO(Q:qn call call')(x:∀l args σ,Le (round l args σ)<|round' l args σ){n:Nat}{isRound:Bool}{ops:aG}
 {K:uR ρ}{K':aD->aJ->bM->St->R ρ}{Kp:ym ρ}{Kp':AV->aD->aJ->bM->St->R ρ}(k:Cm n K K')(X:Fp n Kp Kp'):
 ∀(l:aH) {T:RT} {L:aD} (_:TR n T L) (ds:aJ) (c:bM) (σ:St),
 Le ((Ii ρ D n isRound ops l).run call round T ds c σ K Kp) (lg D call' round' isRound ops l L ds c σ>>=xp K' Kp'):=by
 intro l
 induction l with
 |nil=>intro T L h ds c σ;exact k _ _ _ _ _ h
 |cons o l I=>
  intro T L h ds c σ;show Le (bif E5 n ops o T then _ else _) _;rw[abe h]
  cases P:ji ops o L with
  |true=>
   have:=WB (D:=D) Q x (isRound:=isRound) (o:=o) h ds c σ (K:=λT ds c σ=>(Ii ρ D n isRound ops l).run call round T ds c σ K Kp)
    (K':=λL ds c σ=>lg D call' round' isRound ops l L ds c σ>>=xp K' Kp') (λT L ds c σ h=>I h ds c σ) X
   refine Le.trans this (Le.of_eq ?_);simp only[lg,P,dj];rw[wO];congr 1;funext r;cases r<;>rfl
  |false=>refine Le.trans (I (h.cu _ _) ds c σ)<|Le.of_eq ?_;simp only[lg,P,fR,ff]
def A':List AV->Nat->List AV->List AV
 |[],_,L=>L
 |x::l,i,L=>A' l (i+1)<|L.set i x
def TR.fill{n:Nat}:∀(l:aD) (i:Nat) (T:RT) (L:aD),TR n T L->TR n (Dj n l i T) (A' l i L)
 |[],_,_,_,h=>h
 |x::l,i,_,_,h=>TR.fill l (i+1) _ _<|h.set i x
def SE:∀(l:aD) (i:Nat) (L:aD) (j:Nat),i+aA l<=aA L->(A' l i L)[j]?=if i<=j/\ j<i+aA l then l[j-i]? else L[j]?
 |[],i,L,j,_=>by simp[A'];omega
 |x::l,i,L,j,h=>by
  simp only[cr]at h;rw[A',SE l (i+1) _ j aul];by_cases V:i+1<=j/\ j<i+1+aA l
  grind
  rw[cG V]
  grind
def X5:∀n,gF n=ak n AV.undef
 |0=>rfl
 |n+1=>by simp[gF,X5 n,Fy]
def afY(l:aD)(n:Nat)(h:aA l<=n):A' l 0 (ak n AV.undef)=l++gF (n-aA l):=by
 apply uT;intro j;rw[SE l 0 _ j auF,X5,Ji]
 grind
def TR.none(n:Nat):TR n .e (ak n AV.undef):=⟨aY,λk f=>by rw[ag8,pz,List.getElem?_replicate];simp[f]⟩
def TR.args{l:aD}{n:Nat}(h:aA l<=n):TR n (Dj n l 0 .e) (l++gF (n-aA l)):=by have:=TR.fill l 0 _ _<|TR.none n;rwa[afY l n h]at this
def TR.zL{n:Nat}{T:RT}{L:aD}(h:TR n T L):zL n T=L:=by
 apply uT;intro j;simp only[Dt.zL,hY];by_cases u:j<n;rw[Jk u];simp only[sE];rw[h.oZ,pz];have:j<aA L:=by rw[h.len];exact u
 simp[this];rw[mE<|by simpa using z6 u,mE<|by rw[h.len];omega];rfl
def alN(Q:qn call call')(s:∀l args σ,Le (round l args σ)<|round' l args σ){n:Nat}{isRound:Bool}{ops:aG}
 {K:uR ρ}{K':aD->aJ->bM->St->R ρ}{Kp':AV->aD->aJ->bM->St->R ρ}(q:Cm n K K'):
 ∀(l:List cM) (k:List St) {T:RT} {L:aD} (_:TR n T L) (ds:aJ) (c:bM) (σ:St),
 Le ((HV ρ D n isRound ops l).run call round k T ds c σ K) (nH D call' round' isRound ops l k L ds c σ>>=xp K' Kp'):=by
 intro l
 induction l with
 |nil=>intro k T L h ds c σ;exact q _ _ _ _ _ h
 |cons O l I=>
  intro k T L h ds c σ;show Le ((L6 ρ D n isRound ops O<|HV ρ D n isRound ops l).run call round k T ds c σ K) _;unfold L6 nH
  cases B:ops[O.i]? with
  |none=>exact Le.error
  |some o=>
   simp only[abe h,h.WJ,h.ev]
   cases P:ji ops o L with
   |false=>refine Le.trans (I _ (h.cu _ _) ds c σ)<|Le.of_eq ?_;cases O.cB<;>rfl
   |true=>
    simp only[a8,dj]
    cases O.cB with
    |true=>
     simp only[a8,dj]
     cases p:(o.op.operands.toList.all λx=>de σ.n<|dV D L x)with
     |false=>exact Le.error
     |true=>
      simp only[a8,dj];have V:=WB (D:=D) Q s (isRound:=isRound) (o:=o) h ds c σ
       (K:=λT ds c z=>bif ai σ.n z.n then(HV ρ D n isRound ops l).run call round (z::k) T ds c z K else .error "")
       (K':=λL ds c z=>(if σ.n<=z.n then nH D call' round' isRound ops l (z::k) L ds c z else .error "")>>=xp K' Kp')
       (Kp:=λ_ _ _ _ _=>.error "") (Kp':=λ_ _ _ _ _=>.error "")
       (λT L ds c z S=>by
         simp only[FX];by_cases X:σ.n<=z.n;simp only[X,vl,a8,dj];exact I _ S ds c z
         simp only[X,AN,br];exact Le.error) (λ_ _ _ _ _ _ _=>Le.error)
      refine Le.trans V<|Le.of_eq ?_;rw[wO];congr 1;funext r;cases r<;>rfl
    |false=>
     simp only[br,fR,ff]
     cases d:jo D o.op with
     |pure=>
      simp only
      cases Y:gy D (dV D L) o.op with
      |error e=>exact Le.error
      |ok v=>exact I _ (h.cu _ _) ds c σ
     |je=>
      simp only
      cases Y:kM D σ (dV D L) o.op with
      |error e=>exact Le.error
      |ok v=>
       simp only[blt_eq];show Le (bif ax (O.lo<aA k)&&(k.take<|aA k-O.lo).all (si D L o.op v)then _ else _)<|(if(ax (O.lo<aA k)&&(k.take<|aA k-O.lo).all (si D L o.op v))=aa then _ else _)>>=_
       cases(ax (O.lo<aA k)&&(k.take<|aA k-O.lo).all (si D L o.op v))with
       |false=>exact Le.error
       |true=>exact I _ (h.cu _ _) ds c σ
     |alloc=>
      simp only
      cases Y:jT D (dV D L) o.op σ.n with
      |error e=>exact Le.error
      |ok r=>
       have⟨v,U⟩:=r;show Le (bif dM (σ.n+1) U then _ else _)<|(if dM (σ.n+1) U=aa then _ else _)>>=_
       cases dM (σ.n+1) U with
       |false=>exact Le.error
       |true=>exact I _ (h.cu _ _) ds c _
     |cB=>exact Le.error
def amJ(Q:qn call call')(x:∀l args σ,Le (round l args σ)<|round' l args σ){n:Nat}{isRound:Bool}{ops:aG}{E:Bool}
 {K:uR ρ}{K':aD->aJ->bM->St->R ρ}{Kp:ym ρ}{Kp':AV->aD->aJ->bM->St->R ρ}(k:Cm n K K')(C:Fp n Kp Kp')
 {T:RT}{L:aD}(h:TR n T L)(ds:aJ)(c:bM)(σ:St):
 Le ((Nc ρ D n isRound ops E).run call round T ds c σ K Kp) (q7 D call' round' isRound ops E L ds c σ>>=xp K' Kp'):=by
 unfold Nc q7
 cases E with
 |false=>exact YO Q x k C _ h ds c σ
 |true=>
  simp only[dj]
  cases I:vp ops (D.cut ops)with
  |false=>exact Le.error
  |true=>
   simp only[RP I,dj,a8];rw[Ma]
   refine Le.trans (alN Q x (K':=λT ds c σ=>(if ops.size=D.cut ops+1 then
    if rG ops (D.cut ops) 0 (D.cut ops)then lg D call' round' isRound ops (ops.toList.drop<|D.cut ops) T ds c σ else .error ""
    else if ops.size<=D.cut ops then .ok (.go T ds c σ)else .error "")>>=xp K' Kp') (Kp':=λ_ _ _ _ _=>.error "") (λT L ds c σ S=>?_) _ _ h ds c σ)<|Le.of_eq ?_
   have B:aA ops.toList=ops.size:=aY;rw[beq_eq,B,FX];simp only;by_cases X:ops.size=D.cut ops+1;rw[gu X,b8 X]
   cases s:rG ops (D.cut ops) 0 (D.cut ops)with
   |false=>exact Le.error
   |true=>exact YO Q x k C _ S ds c σ
   rw[kV X,cG X];by_cases o:ops.size<=D.cut ops;rw[gu o,b8 o];exact k _ _ _ _ _ S;rw[kV o];exact Le.error;rw[wO];congr 1;funext r;cases r<;>rfl
end
def PR(v:AV)(l:aD):pH (v::l)=match v with|.aN _=>pH l|_=>ab:=rfl
def adB(U:Bool)(cap:Option Nat)(o L sz:Nat)(cs:aD):F6 U cap o L sz cs=wS U cap o L sz (aA cs):=by
 unfold F6 wS
 cases cap with
 |none=>cases U<;>rfl
 |some c=>simp only[zc];have g:ai (Nat.add o<|Nat.mul c sz) (aA cs)=ai (o+c*sz) (aA cs):=rfl;rw[g];cases ah 0 sz<;>cases ai L c<;>cases U<;>cases ai (o+c*sz) (aA cs)<;>rfl
def aec(f:AV->St->R (AV×St))(x:AV)(l:aD)(Z:St):pO f (x::l) Z=
 match f x Z with
 |.ok r=>(match r with
  |⟨x,Z⟩=>(match pO f l Z with
   |.ok r=>(match r with
    |⟨l,Z⟩=>.ok (x::l,Z))
   |.error e=>.error e))
 |.error e=>.error e:=rfl
def Ge{f g:AV->St->R (AV×St)}(h:∀v Z,Le (f v Z)<|g v Z):∀(l:aD) (Z:St),Le (pO f l Z)<|qz g l Z
 |[],Z=>Le.refl _
 |x::l,Z=>by rw[aec];unfold qz;refine Le.step (h x Z) (λe J=>⟨e,by rw[J]⟩) λr s=>?_;rw[s];have⟨C,X⟩:=r;simp only;refine Le.step (Ge h l X) (λe J=>⟨e,by rw[J]⟩) λr s=>?_;rw[s];exact aud
def Rz{f:AV->St->R (AV×St)}(h:∀v Z,f (.aN v) Z=.ok (.aN v,Z)):∀(l:aD) (Z:St),pH l=aa->qz f l Z=.ok (l,Z)
 |[],Z,_=>rfl
 |x::l,Z,e=>by
  rw[PR]at e
  cases x with
  |aN v=>simp only at e;simp only[qz,h,bind,Except.bind,Rz h l Z e,pure,Except.pure]
  |_=>simp at e
def Ry(U:Bool)(T:St)(n:Nat)(v:Value)(Z:St):iQ U T (n+1) (.aN v) Z=.ok (.aN v,Z):=by simp[iQ]
def Kz(U:Bool)(T:St):∀(n:Nat) (v:AV) (Z:St),Le (oS U T n v Z) (iQ U T n v Z):=by
 intro n
 induction n with
 |zero=>intro v Z;exact Le.error
 |succ n k=>
  intro v Z;have c:∀(l:aD) (Z:St),Le (bif ag n 0 then pO (oS U T n) l Z else bif pH l then .ok (l,Z)else pO (oS U T n) l Z) (qz (iQ U T n) l Z):=by
   intro l Z;rw[beq_eq];by_cases Q:n=0;simp only[Q,vl,a8];rw[<-Q];exact Ge k l Z;simp only[Q,AN,br]
   cases X:pH l with
   |false=>simp only[br];exact Ge k l Z
   |true=>simp only[a8];obtain⟨m,rfl⟩:=Nat.exists_eq_succ_of_ne_zero Q;exact Le.of_eq (Rz (λv Z=>Ry U T m v Z) l Z X).symm
  cases v with
  |aN v=>exact Le.of_eq (Ry U T n v Z).symm
  |slice b o L I j=>
   have S:oS U T (n+1) (.slice b o L I j) Z=
    (match T.a7 b with
    |.cells V W C A=>
     bif (bif U then bif C then ag A j else ab else aa)then
     bif F6 U I o L j V then
      (match yd V o (Nat.mul L j)with
      |.ok l=>(match(bif ag n 0 then pO (oS U T n) l Z else bif pH l then .ok (l,Z)else pO (oS U T n) l Z)with
       |.ok r=>(match r with
        |⟨l,Z⟩=>(match Z with
         |⟨m,h,M⟩=>.ok (.slice m 0 L ae j,⟨Nat.succ m,.cells l W U j::h,M⟩)))
       |.error e=>.error e)
      |.error e=>.error e)
     else .error ""
     else .error ""
    |_=>.error ""):=rfl
   rw[S];simp only[iQ]
   cases w:T.a7 b with
   |cells V W C A=>
    simp only;rw[adB];have P:(bif U then bif C then ag A j else ab else aa)=(!U||(C&&A==j)):=by
     rw[beq_eq]
     grind
    rw[P]
    cases O:(!U||(C&&A==j))with
    |false=>exact Le.error
    |true=>
     simp only[a8]
     cases a:wS U I o L j (aA V)with
     |false=>exact Le.error
     |true=>simp only[a8,iJ,dj];have Y:yd V o (Nat.mul L j)=fO V o (L*j):=ZI ..;rw[Y];refine Le.step (Le.refl _) (λe f=>⟨e,by rw[f]⟩) λl z=>?_;rw[z];simp only;refine Le.step (c l Z) (λe f=>⟨e,by rw[f]⟩) λr x=>?_;rw[x];have⟨N,m,h,M⟩:=r;exact Le.refl _
   |_=>exact Le.error
  |iface t v=>
   show Le (match oS U T n v Z with
    |.ok r=>(match r with
     |⟨v,Z⟩=>(.ok (AV.iface t v,Z):R<|AV×St))
    |.error e=>.error e) _
   simp only[iQ];refine Le.step (k v Z) (λe f=>⟨e,by rw[f]⟩) λr x=>?_;rw[x];exact Le.refl _
  |agg l=>
   show Le (match(bif ag n 0 then pO (oS U T n) l Z else bif pH l then .ok (l,Z)else pO (oS U T n) l Z)with
    |.ok r=>(match r with
     |⟨l,Z⟩=>(.ok (AV.agg l,Z):R<|AV×St))
    |.error e=>.error e) _
   simp only[iQ];refine Le.step (c l Z) (λe f=>⟨e,by rw[f]⟩) λr x=>?_;rw[x];exact Le.refl _
  |tuple l=>
   show Le (match(bif ag n 0 then pO (oS U T n) l Z else bif pH l then .ok (l,Z)else pO (oS U T n) l Z)with
    |.ok r=>(match r with
     |⟨l,Z⟩=>(.ok (AV.tuple l,Z):R<|AV×St))
    |.error e=>.error e) _
   simp only[iQ];refine Le.step (c l Z) (λe f=>⟨e,by rw[f]⟩) λr x=>?_;rw[x];exact Le.refl _
  |_=>exact Le.refl _
def XO{f:AV->aK}(h:∀v,f (.aN v)=[]):∀l:aD,pH l=aa->kN f l=[]
 |[],_=>rfl
 |x::l,e=>by
  rw[PR]at e
  cases x with
  |aN v=>simp only at e;simp[kN,h,XO h l e]
  |_=>simp at e
def XN(T:St):∀(n:Nat) (v:AV),zB T n v=fY T n v:=by
 intro n
 induction n with
 |zero=>intro v;rfl
 |succ n I=>
  intro v;have M:zB T n=fY T n:=funext I;have X:∀v,fY T n (.aN v)=[]:=by intro v;cases n<;>rfl
  have c:∀l:aD,(bif pH l then[]else kN (zB T n) l)=kN (fY T n) l:=by
   intro l;rw[M]
   cases h:pH l with
   |false=>rfl
   |true=>simp[XO X l h]
  cases v with
  |aN v=>rfl
  |slice b o L U j=>
   show(match T.a7 b with
   |.cells V _ _ _=>(match yd V o (Nat.mul L j)with
    |.ok l=>b::(bif pH l then[]else kN (zB T n) l)
    |.error _=>b::kN (zB T n) ((V.drop o).take<|L*j))
   |_=>[])=_
   simp only[fY]
   cases T.a7 b with
   |cells V e C s=>
    simp only;have Y:yd V o (Nat.mul L j)=fO V o (L*j):=ZI ..;rw[Y]
    cases h:fO V o (L*j)with
    |ok l=>
     simp only;rw[c];have:l=(V.drop o).take (L*j):=by
      unfold fO at h
      grind
     rw[this]
    |error e=>simp only;rw[M]
   |_=>rfl
  |iface t v=>exact I v
  |agg l=>exact c l
  |tuple l=>exact c l
  |_=>rfl
def TR.params{n:Nat}:∀(l:List<|Tmp×AV) (T:RT) (L:aD),TR n T L->TR n (MW n l T) (mU l L)
 |[],_,_,h=>h
 |(t,a)::l,_,_,h=>TR.params l _ _<|h.set t a
structure rp(F:mC)(G:gW):Prop where
 run:∀fn n rd T L todo ds bp σ,TR n T L->Le (F.run fn n rd T todo ds bp σ) (G.run {fn,T:=L,todo,defers:=ds,round:=rd} bp σ)
 finish:∀fn n T L ds mode bp σ,TR n T L->Le (F.finish fn n T ds mode bp σ) (G.finish fn L ds mode bp σ)
 endLoop:∀fn n rd T L todo ds l e bp σ,TR n T L->Le (F.endLoop fn n rd T todo ds l e bp σ) (G.endLoop {fn,T:=L,todo,defers:=ds,round:=rd} l e bp σ)
 call:qn F.call G.call
 round:∀l args σ,Le (F.round l args σ)<|G.round l args σ
section
variable{D:a_}{F:mC}{G:gW}
def TJ(H:rp F G)(h:jj)(σ:St):Le (LF F h σ) (rQ G h σ):=by
 cases h with
 |enter f args=>exact H.call _ _ _
 |round l args=>exact H.round _ _ _
 |_=>exact Le.error
def Hd(H:rp F G){fn n:Nat}{rd:Option Nat}{T:RT}{L:aD}(h:TR n T L)(todo:List fQ)(ds:aJ)(y:Option Code)(b:bM)(σ:St):
 Le (Bt F fn n rd T ds y b σ) (jI G {fn,T:=L,todo,defers:=ds,round:=rd} y b σ):=by
 unfold Bt jI
 cases rd with
 |none=>
  simp only
  cases y with
  |none=>exact H.finish _ _ _ _ _ _ _ _ h
  |some c=>
   cases c with
   |ret=>exact H.finish _ _ _ _ _ _ _ _ h
   |_=>exact Le.error
 |some l=>
  simp only
  cases t:ds.isEmpty with
  |false=>exact Le.error
  |true=>simp only[a8,dj];refine Le.step (Le.refl _) (λe f=>⟨e,by rw[f]⟩) λr x=>?_;rw[x];exact Le.refl _
def WT(H:rp F G){fn n:Nat}{rd:Option Nat}{T:RT}{L:aD}(h:TR n T L)(todo:List fQ)(ds:aJ)(v:AV)(c:bM)(σ:St):
 Le (HP F fn n rd T ds v c σ) (p8 G {fn,T:=L,todo,defers:=ds,round:=rd} v c σ):=by
 unfold HP p8
 cases rd with
 |none=>exact H.finish _ _ _ _ _ _ _ _ h
 |some l=>
  simp only
  cases t:ds.isEmpty with
  |false=>exact Le.error
  |true=>exact Le.refl _
def anj(H:rp F G){fn n:Nat}{rd:Option Nat}{T:RT}{L:aD}(h:TR n T L)(todo:List fQ)(ds:aJ)(p:bM)(σ:St):
 Le (xZ D F fn n rd T todo ds p σ) (dG D G {fn,T:=L,todo,defers:=ds,round:=rd} p σ):=by
 have B:∀todo ds p σ,Le (F.run fn n rd T todo ds p σ) (G.run {fn,T:=L,todo,defers:=ds,round:=rd} p σ):=λtodo ds p σ=>H.run _ _ _ _ _ _ _ _ _ h
 cases todo with
 |nil=>exact Hd H h [] ds ae p σ
 |cons O k=>
  cases O with
  |inBlock id=>exact B _ _ _ _
  |inScope c=>exact B _ _ _ _
  |inLoop c=>exact B _ _ _ _
  |beginRound=>
   cases rd with
   |none=>exact Le.error
   |some l=>simp only[xZ,dG];refine Le.step (Le.refl _) (λe J=>⟨e,by rw[J]⟩) λr A=>?_;rw[A];simp only;split;exact B _ _ _ _;exact Le.error
  |code c=>
   cases c with
   |ret=>exact Hd H h (.code .ret::k) ds (ad .ret) p σ
   |skip=>exact B _ _ _ _
   |label l=>exact B _ _ _ _
   |seq a b=>exact B _ _ _ _
   |block id c=>exact B _ _ _ _
   |loop c=>exact B _ _ _ _
   |scope c=>exact B _ _ _ _
   |refuse s=>exact Le.error
   |cond c x y=>
    simp only[xZ,dG,AH];rw[h.ev]
    cases Y:dV D L c with
    |aN v=>
     cases v with
     |bool b=>cases b<;>exact B _ _ _ _
     |_=>exact Le.error
    |_=>exact Le.error
   |exit id=>
    simp only[xZ,dG,AH]
    cases exitTo id k with
    |none=>exact Hd H h _ ds _ p σ
    |some M=>exact B _ _ _ _
   |goto l=>
    simp only[xZ,dG,AH]
    cases gotoIn l k with
    |none=>exact Hd H h _ ds _ p σ
    |some M=>exact B _ _ _ _
   |region id t E=>
    simp only[xZ,dG,AH]
    refine Le.trans (amJ (D:=D) (K':=λL ds p σ=>G.run {fn,T:=L,todo:=k,defers:=ds,round:=rd} p σ)
     (Kp':=λv L ds p σ=>p8 G {fn,T:=L,todo:=.code (.region id t E)::k,defers:=ds,round:=rd} v p σ) H.call H.round
     (λT L ds p σ S=>H.run _ _ _ _ _ _ _ _ _ S) (λv T L ds p σ S=>WT H S _ ds v p σ) h ds p σ)<|Le.of_eq ?_
    congr 1
   |rangeFunc f P N W=>
    simp only[xZ,dG,AH];rw[h.ev]
    cases rd with
    |none=>simp only;refine Le.step (Le.refl _) (λe J=>⟨e,by rw[J]⟩) λm V=>?_;rw[V];simp only;rw[h.zL];refine Le.step (TJ H m _) (λe J=>⟨e,by rw[J]⟩) λr A=>?_;rw[A];exact H.endLoop _ _ _ _ _ _ _ _ _ _ _ h
    |some U=>simp only;refine Le.step (Le.refl _) (λe J=>⟨e,by rw[J]⟩) λi d=>?_;rw[d];simp only;refine Le.step (Le.refl _) (λe J=>⟨e,by rw[J]⟩) λm V=>?_;rw[V];simp only;rw[h.zL];refine Le.step (TJ H m _) (λe J=>⟨e,by rw[J]⟩) λr A=>?_;rw[A];exact H.endLoop _ _ _ _ _ _ _ _ _ _ _ h
def ae4(H:rp F G){fn n:Nat}{rd:Option Nat}{T:RT}{L:aD}(h:TR n T L)(todo:List fQ)(ds:aJ)(l:Nat)(e:cY)(b:bM)(σ:St):
 Le (KI F fn n rd T todo ds l e b σ) (tT G {fn,T:=L,todo,defers:=ds,round:=rd} l e b σ):=by
 unfold KI tT
 cases e with
 |panic v=>exact WT H h todo ds v b σ
 |ret v=>
  simp only;refine Le.step (Le.refl _) (λe f=>⟨e,by rw[f]⟩) λr x=>?_;rw[x];simp only;split;exact Le.error
  cases p:r.pending with
  |none=>exact H.run _ _ _ _ _ _ _ _ _ h
  |some c=>exact H.run _ _ _ _ _ _ _ _ _ h
def KJ(H:rp F G)(f:FuncId)(args:aD)(b:bM)(σ:St):
 Le (AW D F f args b σ) (pP D f args>>=λfr=>G.run fr b σ):=by
 unfold AW Sd
 cases j:D.func f with
 |none=>exact Le.error
 |some i=>
  simp only
  cases e:i.body with
  |none=>exact Le.error
  |some c=>simp only[a8];rw[FX,zc];by_cases l:aA args<=i.ntmps;simp only[l,vl,a8];refine Le.trans (H.run _ _ _ _ _ _ _ _ _<|TR.args l)<|Le.of_eq ?_;simp[pP,j,e,bind,Except.bind];simp only[l,AN,br];exact Le.error
def Nl{n:Nat}{σ:St}{T:RT}{L:aD}(h:TR n T L):∀l:List ResultVar,Le (H7 D n σ T l)<|q6 D σ L l
 |[]=>Le.refl _
 |.tmp t::l=>by
  show Le (match H7 D n σ T l with
   |.ok r=>.ok<|(oZ n t).run T::r
   |.error e=>.error e) _
  unfold q6;refine Le.step (Nl h l) (λe f=>⟨e,by rw[f]⟩) λr x=>?_;rw[x,h.oZ];exact aud
 |.cell a t::l=>by
  show Le (match jw D σ t ((oZ n a).run T)with
   |.ok v=>(match H7 D n σ T l with
    |.ok r=>.ok<|v::r
    |.error e=>.error e)
   |.error e=>.error e) _
  unfold q6;rw[h.oZ];refine Le.step (Le.refl _) (λe f=>⟨e,by rw[f]⟩) λv Y=>?_;rw[Y];simp only;refine Le.step (Nl h l) (λe f=>⟨e,by rw[f]⟩) λr x=>?_;rw[x];exact aud
def af1(H:rp F G){fn n:Nat}{T:RT}{L:aD}(h:TR n T L)(ds:aJ)(B:Option AV)(c:bM)(σ:St):
 Le (K9 D F fn n T ds B c σ) (pR D G fn L ds B c σ):=by
 unfold K9 pR
 cases ds with
 |nil=>
  simp only
  cases B with
  |some v=>exact Le.refl _
  |none=>
   simp only[X9,Ey]
   cases D.func fn with
   |none=>exact Le.error
   |some f=>
    simp only;rw[wO];refine Le.step (Nl h _) (λe J=>⟨e,by rw[J]⟩) λq Z=>?_;rw[Z]
    cases q with
    |nil=>exact Le.refl _
    |cons v l=>
     cases l with
     |nil=>exact Le.refl _
     |cons w l=>exact Le.refl _
 |cons d ds=>
  cases d with
  |collected r=>
   simp only;refine Le.step (Le.refl _) (λe J=>⟨e,by rw[J]⟩) λo u=>?_;rw[u]
   cases o with
   |deferred j=>
    cases j with
    |none=>exact Le.error
    |some j=>exact H.finish _ _ _ _ _ _ _ _ h
   |_=>exact Le.error
  |fn g U args=>
   simp only;refine Le.step (Le.refl _) (λe J=>⟨e,by rw[J]⟩) λm V=>?_;rw[V]
   cases m with
   |enter f I=>
    simp only;have:=KJ (D:=D) H f I (B.map λv=>(v,ab)) σ
    refine Le.trans (Le.step (y:=pP D f I>>=λP=>G.run P (B.map λv=>(v,ab)) σ) (g:=λr=>match r with
     |(e,p,σ)=>match e with
      |.ret _=>match p with
       |some (v,ab)=>G.finish fn L ds (ad v) c σ
       |_=>G.finish fn L ds ae c σ
      |.panic v=>match p with
       |none=>G.finish fn L ds (ad v) c σ
       |some _=>.error "") this (λe J=>⟨e,by rw[J]⟩) λr x=>?_)<|Le.of_eq ?_
    rw[x];have⟨e,p,i⟩:=r
    cases e with
    |ret v=>
     cases p with
     |none=>exact H.finish _ _ _ _ _ _ _ _ h
     |some p=>
      have⟨k,C⟩:=p
      cases C with
      |false=>exact H.finish _ _ _ _ _ _ _ _ h
      |true=>exact H.finish _ _ _ _ _ _ _ _ h
    |panic v=>
     cases p with
     |none=>exact H.finish _ _ _ _ _ _ _ _ h
     |some p=>exact Le.error
    rw[wO];rfl
   |_=>exact Le.error
def VX(m:hZ)(σ:St):Le (Hu m σ) (xz m σ):=by unfold Hu xz;refine Le.step (Kz aa _ kh m.val σ) (λe f=>⟨e,by rw[f]⟩) λr x=>?_;rw[x];exact aud
def Xn(H:rp F G)(f:FuncId)(args:aD)(V:St):Le (HZ D F f args V) (xP D G f args V):=by
 unfold HZ;have N:=KJ (D:=D) H f args ae V;intro a b
 cases x:AW D F f args ae V with
 |error e=>rw[x]at b;cases b
 |ok r=>
  have⟨e,p,d⟩:=r;rw[x]at b;have o:=N _ x;simp only[bK]at o;have⟨P,m,w⟩:=o
  cases e with
  |panic v=>cases b
  |ret v=>
   simp only at b;rw[XN]at b
   cases n:ti (fY d kh v)with
   |false=>rw[n]at b;cases b
   |true=>
    rw[n]at b;simp only[a8]at b
    cases c:oS aa d kh v (qJ D .e)with
    |error e=>rw[c]at b;cases b
    |ok r=>
     have⟨y,M,J,q⟩:=r;rw[c]at b;simp only at b;rw[XN]at b;have X:=Kz _ _ _ _ _ _ c
     cases i:ti (fY (jm .e J) kh y)with
     |false=>rw[i]at b;cases b
     |true=>rw[i]at b;simp only[a8]at b;simp only[xP,bK];refine⟨P,m,(.ret v,p,d),w,?_⟩;simp only[n,dj,bK];refine⟨(y,⟨M,J,q⟩),X,?_⟩;simp only[i,dj];exact b
def adt(H:rp F G):qn (Kk D F) (lr D G):=by
 intro f args σ;unfold Kk lr
 cases p:D.pure f with
 |false=>simp only[br,fR,ff];unfold v7;refine Le.trans (Le.step (y:=pP D f args>>=λP=>G.run P ae σ) (g:=λr=>match r with|(e,_,σ)=>.ok (e,σ)) (KJ H f args ae σ) (λe J=>⟨e,by rw[J]⟩) λr x=>?_)<|Le.of_eq ?_;rw[x];exact aud;rw[wO];rfl
 |true=>
  have⟨n,l,M⟩:=σ;simp only[a8,dj]
  cases D.tn f with
  |some g=>exact Le.error
  |none=>
  simp only;refine Le.step (Ge (λv Z=>Kz ab ⟨n,l,M⟩ kh v Z) args (qJ D M)) (λe J=>⟨e,by rw[J]⟩) λr x=>?_;rw[x];have⟨X,w,o,c⟩:=r;simp only
  cases B:yO f X o (c.get<|Et f)with
  |some m=>exact VX _ _
  |none=>simp only;refine Le.step (Xn H f X _) (λe J=>⟨e,by rw[J]⟩) λr x=>?_;rw[x];exact VX _ _
def ana(H:rp F G)(l:Nat)(args:aD)(σ:St):Le (Np D F l args σ) (uG D G l args σ):=by
 unfold Np uG;refine Le.step (Le.refl _) (λe f=>⟨e,by rw[f]⟩) λr x=>?_;rw[x];simp only
 cases D.func r.fn with
 |none=>exact Le.error
 |some i=>
  simp only;split;have T:TR (qP r.T) (MW (qP r.T) (r.params.zip args)<|Dj (qP r.T) r.T 0 .e) (mU (r.params.zip args) r.T):=by refine TR.params _ _ _ ?_;have:=TR.args (l:=r.T) (n:=qP r.T) (by rw[zc];exact auS);rw[zc,Cu]at this;simpa[gF,zc]using this
  refine Le.step (H.run _ _ _ _ _ _ _ _ _ T) (λe f=>⟨e,by rw[f]⟩) λr x=>?_;rw[x];exact aud;exact Le.error
def akq:rp Wh xG where
 run:=λ_ _ _ _ _ _ _ _ _ _=>Le.error
 finish:=λ_ _ _ _ _ _ _ _ _=>Le.error
 endLoop:=λ_ _ _ _ _ _ _ _ _ _ _ _=>Le.error
 call:=λ_ _ _=>Le.error
 round:=λ_ _ _=>Le.error
def A8(D:a_):∀n,rp (Ti D n)<|cg D n
 |0=>akq
 |n+1=>{
  run:=λ_ _ _ _ _ a i c σ h=>anj (A8 D n) h a i c σ
  finish:=λ_ _ _ _ i B c σ h=>af1 (A8 D n) h i B c σ
  endLoop:=λ_ _ _ _ _ a i l e c σ h=>ae4 (A8 D n) h a i l e c σ
  call:=adt (A8 D n)
  round:=ana (A8 D n)}
end
end Go.Dt
namespace Go.Dt
inductive jD(α:Type)where
 |leaf (a:α)
 |node (k:Nat) (l r:jD α)
def jD.get{α:Type}(i:Nat)(t:jD α):α:=jD.rec (motive:=λ_=>α) (λa=>a) (λk _ _ F J=>bif ah i k then F else J) t
def jD.ok{α:Type}(Q:Nat->α->Prop):jD α->Nat->Nat->Prop
 |.leaf a,n,i=>i<=n+1/\ Q n a
 |.node k l r,n,i=>jD.ok Q l n k/\ jD.ok Q r k i
def jD.ahb{α:Type}(i k:Nat)(l r:jD α):(jD.node k l r).get i=bif ah i k then l.get i else r.get i:=rfl
def jD.of{α:Type}(d:α):Nat->Nat->List α->jD α
 |0,_,l=>.leaf<|l.headD d
 |n+1,k,l=>.node (k+2^n) (jD.of d n k<|l.take<|2^n)<|jD.of d n (k+2^n)<|l.drop<|2^n
def jD.HF{α:Type}(d:α):∀(n k:Nat) (l:List α) (j:Nat),j<2^n->(jD.of d n k l).get (k+j)=l[j]?.getD d
 |0,k,l,j,h=>by
  have:j=0:=by simp at h;omega
  subst this;cases l<;>rfl
 |n+1,k,l,j,h=>by
  rw[Po]at h;show(jD.node _ _ _).get _=_;rw[jD.ahb,blt_eq];by_cases u:j<2^n;rw[gu aW,a8,jD.HF d n k _ j u,Co,b8 u];rw[kV aW,br];have:=jD.HF d n (k+2^n) (l.drop<|2^n) (j-2^n) aW
  grind
def D6(w G n x:Nat)(O:jD Func)(B:jD TypeInfo)(V:List Nat)(D:List<|Nat×Nat×Nat×Nat):a_ where
 func:=λi=>bif ah i w then ad (O.get i)else ae
 lz:=λt=>bif ah t G then ad (B.get t)else ae
 gx:=n
 pure:=λi=>ag (Nat.land 1<|Nat.shiftRight x i) 1
 ma:=λt=>V.any (ag t)
 cut:=aeh D
 jY:=λ_=>True
variable[Lo]
def Wi{D:a_}{P:Program}(h:∀f,D.tn f=ae):uZ D P:=λf g o=>by rw[h]at o;cases o
def a_.Bc(D:a_)(P:Program):a_:={D with jY:=λm=>nP D P m}
def agP(D:a_)(P:Program)(m:hZ):(D.Bc P).jY m↔nP (D.Bc P) P m:=⟨λh=>⟨h.nd,h.call⟩,λh=>⟨h.nd,h.call⟩⟩
def af5{D:a_}{P:Program}(h:fu D P):fu (D.Bc P) P:=⟨h.func,h.lz,h.ma,h.depth,h.mixed⟩
omit [Lo]in
def ajQ{P:Program}{n x:Nat}{V:Func}{O:TypeInfo}{o:aK}{D:List (Nat×Nat×Nat×Nat)}{w Z:Nat}(j:P.funcs.size=w)(Y:P.types.size=Z)(hn:w<=2^9)(m:Z<=2^10)(e:o.all (λt=>!P.stoodInHeld t)=aa)(C:10<=P.depth)(s:P.follows .mixedOrders=aa):
 fu (D6 w Z n x (.of V 9 0 P.funcs.toList) (.of O 10 0 P.types.toList) o D) P where
 func:=λi f h=>by simp only[D6,blt_eq]at h;by_cases G:i<w;have:=jD.HF V 9 0 P.funcs.toList i aW;exact at6;simp[G]at h
 lz:=λt i h=>by simp only[D6,blt_eq]at h;by_cases G:t<Z;have:=jD.HF O 10 0 P.types.toList t aW;rw[bZ]at this;simp only[G,vl,a8,pD,this]at h;rw[wx,zR aW]at h;unfold Tables.info?;rw[b8<|by rw[Y];exact G,zR aW,<-h];rfl;simp[G]at h
 ma:=λt h=>by simp only[D6,mD]at h;exact at6
 depth:=C
 mixed:=s
def UE:Nat->bf:=λb=>⟨b,0,0,0⟩
def mY.nx{W u:World}(h:mY W u)(c:MemPlace->Prop):W.keptBut u c:=by
 refine⟨h.os,h.output,λi G=>?_⟩;rw[h.old i G]
 grind
def mY.cell{W u:World}(h:mY W u){i:Nat}(G:i<W.heap.size):u.heap[i]?=W.heap[i]?:=h.old i G
end Go.Dt
namespace Go.Dt
variable[Lo]
def L5(m:hZ)(r:R<|hZ×eb):Bool:=
 match r with
 |.ok (x,_)=>bif ag x.f m.f then bif kf x.args m.args then bif tK x.heap m.heap then bif cU x.val m.val then tK x.lJ m.lJ else ab else ab else ab else ab
 |.error _=>ab
omit [Lo]in
def aiy{m:hZ}{r:R (hZ×eb)}(h:L5 m r=aa):∃M,r=.ok (m,M):=by
 unfold L5 at h;split at h;rename_i x M;rw[beq_eq]at h
 cases V:ax (x.f=m.f)with
 |false=>rw[V]at h;cases h
 |true=>
  rw[V]at h;simp only[a8]at h
  cases a:kf x.args m.args with
  |false=>rw[a]at h;cases h
  |true=>
   rw[a]at h;simp only[a8]at h
   cases d:tK x.heap m.heap with
   |false=>rw[d]at h;cases h
   |true=>
    rw[d]at h;simp only[a8]at h
    cases A:cU x.val m.val with
    |false=>rw[A]at h;cases h
    |true=>rw[A]at h;simp only[a8]at h;refine⟨M,?_⟩;have g:x.f=m.f:=tm V;have C:=sJ _ _ a;have G:=Ka d;have Q:=CQ _ _ A;have Y:=Ka h;cases x;cases m;simp only at g C G Q Y;subst g;subst C;subst G;subst Q;subst Y;rfl
 exact avN
def ajN{D:a_}{P:Program}(F:fu D P)(p:∀m,D.jY m↔nP D P m)(e:uZ D P){n:Nat}{m:hZ}{M:eb}(w:∀x,M.mem x->D.jY x)
 (h:L5 m (HZ D (Ti D n) m.f m.args {n:=aA m.heap,l:=m.heap,M:=M})=aa):D.jY m:=by
 have⟨B,r⟩:=aiy h;have V:=Xn (A8 D n) m.f m.args _ _ r;exact(p m).2 (Xl F (GJ F p e n) V w aM).2.2.2.1
omit [Lo]in
def ajM{D:a_}:∀x,eb.e.mem x->D.jY x:=λ_ h=>h.elim
end Go.Dt
namespace Go.Dt
theorem Le.dI{α β:Type}{x y:R α}{f g:α->R β}(h:Le x y)(k:∀a,Le (f a)<|g a):Le (x>>=f) (y>>=g):=by intro b e;rw[bK]at e|-;have⟨a,J,e⟩:=e;exact⟨a,h a J,k a b e⟩
def Ab(r C:i6):Prop:=∀l args σ,Le (r l args σ)<|C l args σ
structure sx(F G:gW):Prop where
 run:∀fr bp σ,Le (F.run fr bp σ) (G.run fr bp σ)
 finish:∀f T ds m bp σ,Le (F.finish f T ds m bp σ) (G.finish f T ds m bp σ)
 endLoop:∀fr l e bp σ,Le (F.endLoop fr l e bp σ) (G.endLoop fr l e bp σ)
 call:qn F.call G.call
 round:Ab F.round G.round
section
variable{D:a_}
theorem Nw{g d:iZ}{round z:i6}(Q:qn g d)(r:Ab round z)(b:Bool)(o:Oper)(T:aD)(ds:aJ)(c:bM)(σ:St):
 Le (mr D g round b o T ds c σ) (mr D d z b o T ds c σ):=by
 unfold mr;refine Le.dI (Le.refl _) λp=>?_;have⟨m,σ⟩:=p
 cases m with
 |enter f args=>exact Le.dI (Q f args σ) λe=>Le.refl _
 |round l args=>exact Le.dI (r l args σ) λe=>Le.refl _
 |_=>exact Le.refl _
theorem x_{g d:iZ}{U z:i6}(Q:qn g d)(x:Ab U z)(b:Bool)(ops:aG):
 ∀(l:aH) (T:aD) (ds:aJ) (c:bM) (σ:St),Le (lg D g U b ops l T ds c σ)<|lg D d z b ops l T ds c σ
 |[],_,_,_,_=>Le.refl _
 |o::e,T,ds,c,σ=>by
  unfold lg;split;refine Le.dI (Nw Q x b o T ds c σ) λr=>?_
  cases r with
  |go T ds c σ=>exact x_ Q x b ops e T ds c σ
  |panic=>exact Le.refl _
  exact x_ Q x b ops e _ ds c σ
theorem wi{g d:iZ}{U z:i6}(Q:qn g d)(x:Ab U z)(b:Bool)(ops:aG):
 ∀(l:List cM) (W:List St) (T:aD) (ds:aJ) (c:bM) (σ:St),Le (nH D g U b ops l W T ds c σ)<|nH D d z b ops l W T ds c σ
 |[],_,_,_,_,_=>Le.refl _
 |it::e,W,T,ds,c,σ=>by
  unfold nH;split;exact aud;rename_i o _;split;split;split;refine Le.dI (Nw Q x b o T ds c σ) λr=>?_
  cases r with
  |go T ds c B=>
   try simp only[]
   split;exact wi Q x b ops e _ T ds c B;exact aud
  |panic=>exact Le.refl _
  exact aud;split;exact Le.dI (Le.refl _) λv=>wi Q x b ops e _ _ ds c σ;refine Le.dI (Le.refl _) λv=>?_
  try simp only[]
  split;exact wi Q x b ops e _ _ ds c σ;exact aud;refine Le.dI (Le.refl _) λp=>?_;have⟨v,Y⟩:=p
  try simp only[]
  split;exact wi Q x b ops e _ _ ds c _;exact aud;exact aud;exact wi Q x b ops e _ _ ds c σ
theorem Ia{g w:iZ}{U z:i6}(Q:qn g w)(x:Ab U z)(b:Bool)(ops:aG)(d:Bool)(T:aD)(ds:aJ)(c:bM)(σ:St):
 Le (q7 D g U b ops d T ds c σ) (q7 D w z b ops d T ds c σ):=by
 unfold q7;split;split;refine Le.dI (wi Q x b ops _ _ T ds c σ) λr=>?_
 cases r with
 |go T ds c σ=>
  try simp only[]
  split;split;exact x_ Q x b ops _ T ds c σ;exact aud;exact aud
 |panic=>exact Le.refl _
 exact aud;exact x_ Q x b ops _ T ds c σ
variable{F G:gW}(h:sx F G)
include h
theorem Hc(fr:hX)(j:Option Code)(c:bM)(σ:St):Le (jI F fr j c σ) (jI G fr j c σ):=by unfold jI;split;split;exact avi;exact avi;exact aud;exact aud
theorem WS(fr:hX)(v:AV)(c:bM)(σ:St):Le (p8 F fr v c σ) (p8 G fr v c σ):=by unfold p8;split;exact avi;exact aud
theorem TH(e:jj)(σ:St):Le (rQ F e σ) (rQ G e σ):=by unfold rQ;split;exact h.call _ _ _;exact h.round _ _ _;exact aud
theorem anh(fr:hX)(c:bM)(σ:St):Le (dG D F fr c σ) (dG D G fr c σ):=by
 unfold dG;split;exact Hc h _ _ _ _;exact au_;exact au_;exact au_;split;refine Le.dI (Le.refl _) λr=>?_
 try simp only[]
 split;exact au_;exact aud;exact aud;split;exact Hc h _ _ _ _;exact au_;exact au_;exact au_;exact Le.dI (Le.refl _) λb=>h.run _ _ _;exact au_;exact au_;exact au_;split;exact au_;exact Hc h _ _ _ _;split;exact au_;exact Hc h _ _ _ _;refine Le.dI (Ia h.call h.round _ _ _ _ _ _ _) λr=>?_
 cases r with
 |go T i c σ=>exact h.run _ _ _
 |panic v T i c σ=>exact WS h _ _ _ _
 split;refine Le.dI (Le.refl _) λO=>Le.dI (Le.refl _) λm=>Le.dI (TH h _ _) λe=>?_;exact h.endLoop _ _ _ _ _;refine Le.dI (Le.refl _) λm=>Le.dI (TH h _ _) λe=>?_;exact h.endLoop _ _ _ _ _;exact aud
theorem ae3(fr:hX)(l:Nat)(e:cY)(c:bM)(σ:St):Le (tT F fr l e c σ) (tT G fr l e c σ):=by
 unfold tT;split;refine Le.dI (Le.refl _) λr=>?_
 try simp only[]
 split;exact aud;split;exact au_;exact au_;exact WS h _ _ _ _
theorem af0(f:FuncId)(T:aD)(ds:aJ)(m:Option AV)(c:bM)(σ:St):Le (pR D F f T ds m c σ) (pR D G f T ds m c σ):=by
 unfold pR;split;exact aud;refine Le.dI (Le.refl _) λo=>?_
 try simp only[]
 split;exact avi;exact aud;refine Le.dI (Le.refl _) λE=>?_
 try simp only[]
 split;refine Le.dI (Le.refl _) λP=>Le.dI (h.run _ _ _) λe=>?_;have⟨e,p,σ⟩:=e
 try simp only[]
 split;split;exact avi;exact avi;split;exact avi;exact aud;exact aud
theorem alM(f:FuncId)(args:aD)(σ:St):Le (v7 D F f args σ) (v7 D G f args σ):=by unfold v7;exact awj
theorem alW(f:FuncId)(args:aD)(σ:St):Le (xP D F f args σ) (xP D G f args σ):=by unfold xP;exact awj
theorem adr:qn (lr D F) (lr D G):=by
 intro f args σ;unfold lr;split
 ·cases D.tn f with
  |some g=>exact Le.refl _
  |none=>
  refine Le.dI (Le.refl _) λp=>?_;have⟨v,V⟩:=p
  try simp only[]
  split
  ·exact aud
  ·exact Le.dI (alW h _ _ _) λm=>Le.refl _
 ·exact alM h _ _ _
theorem am_:Ab (uG D F) (uG D G):=by
 intro l args σ;unfold uG;refine Le.dI (Le.refl _) λr=>?_
 try simp only[]
 split;exact aud;split;exact Le.dI (h.run _ _ _) λe=>Le.refl _;exact aud
theorem akl:sx (HA D F) (HA D G):=⟨anh h,af0 h,ae3 h,adr h,am_ h⟩
omit h
theorem Tj:∀n,sx (cg D n)<|cg D<|n+1
 |0=>⟨λ_ _ _=>Le.error,λ_ _ _ _ _ _=>Le.error,λ_ _ _ _ _=>Le.error,λ_ _ _=>Le.error,λ_ _ _=>Le.error⟩
 |n+1=>akl<|Tj n
theorem sx.refl(F:gW):sx F F:=⟨λ_ _ _=>Le.refl _,λ_ _ _ _ _ _=>Le.refl _,λ_ _ _ _ _=>Le.refl _,λ_ _ _=>Le.refl _,λ_ _ _=>Le.refl _⟩
theorem sx.trans{F G H:gW}(a:sx F G)(b:sx G H):sx F H:=
 ⟨λ_ _ _=>(a.run _ _ _).trans<|b.run _ _ _,λ_ _ _ _ _ _=>(a.finish _ _ _ _ _ _).trans<|b.finish _ _ _ _ _ _,λ_ _ _ _ _=>(a.endLoop _ _ _ _ _).trans<|b.endLoop _ _ _ _ _,
  λ_ _ _=>(a.call _ _ _).trans<|b.call _ _ _,λ_ _ _=>(a.round _ _ _).trans<|b.round _ _ _⟩
theorem gN{n m:Nat}(I:n<=m):sx (cg D n) (cg D m):=by
 induction I with
 |refl=>exact sx.refl _
 |step _ k=>exact k.trans<|Tj _
end
open Classical in
def dw(D:a_):iZ:=λf args σ=>if h:∃r n,(cg D n).call f args σ=.ok r then .ok h.choose else .error ""
theorem tO{D:a_}{f:FuncId}{args:aD}{σ:St}{r:cY×St}:dw D f args σ=.ok r↔∃n,(cg D n).call f args σ=.ok r:=by unfold dw;constructor;intro h;exact avj;rintro⟨n,h⟩;have x:∃r n,(cg D n).call f args σ=.ok r:=⟨r,n,h⟩;rw[w_ x];have⟨m,Y⟩:=x.choose_spec;have V:=(gN (D:=D)<|j8 n m).call _ _ _ _ h;have a:=(gN (D:=D)<|j9 n m).call _ _ _ _ Y;exact at6
open Classical in
def fI(D:a_):i6:=λl args σ=>if h:∃r n,(cg D n).round l args σ=.ok r then .ok h.choose else .error ""
theorem Yi{D:a_}{l:Nat}{args:aD}{σ:St}{r:cY×St}:fI D l args σ=.ok r↔∃n,(cg D n).round l args σ=.ok r:=by unfold fI;constructor;intro h;exact avj;rintro⟨n,h⟩;have x:∃r n,(cg D n).round l args σ=.ok r:=⟨r,n,h⟩;rw[w_ x];have⟨m,Y⟩:=x.choose_spec;have V:=(gN (D:=D)<|j8 n m).round _ _ _ _ h;have a:=(gN (D:=D)<|j9 n m).round _ _ _ _ Y;exact at6
abbrev Rg:=Nat->AV
def cZ(N:Nat)(T:Rg)(Z:Option Tmp)(v:AV):Rg:=
 match Z with
 |ad d=>λi=>bif ag i d then(bif ah d N then v else T i)else T i
 |ae=>T
def cn(D:a_)(T:Rg):Operand->AV
 |.tmp t=>T t
 |.const v=>tl v
 |.global g=>bif ah g D.gx then .aR g 0 else .aN<|.pointer<|ad ⟨g,0,ae⟩
 |.func f=>.func (.func f) [] []
def UL(v:AV)(k:Bool):Bool:=
 match v with
 |.aN (.bool b)=>bif k then b else !b
 |_=>ab
def su(N:Nat)(ops:Array Oper)(o:Oper)(T:Rg):Bool:=
 match o.guard with
 |ae=>aa
 |ad (j,k)=>
  match(ops[j]?).bind (·.dst)with
  |ad d=>bif ah d N then UL (T d) k else ab
  |ae=>ab
def TE(N:Nat)(T:Rg)(L:List AV):Prop:=aA L=N/\ ∀i,T i=L.getD i .undef
theorem TE.eval{D:a_}{N:Nat}{T:Rg}{L:aD}(h:TE N T L):dV D L=cn D T:=by
 funext x
 cases x with
 |tmp t=>exact(h.2 t).symm
 |const v=>rfl
 |global g=>simp only[dV,cn,blt_eq];by_cases o:g<D.gx<;>simp[o]
 |func f=>rfl
theorem TE.cu{N:Nat}{T:Rg}{L:aD}(h:TE N T L)(d:Option Tmp)(v:AV):TE N (cZ N T d v) (cu L d v):=by
 cases d with
 |none=>exact h
 |some d=>refine⟨by simp[Dt.cu,h.1],λi=>?_⟩;simp only[cZ,Dt.cu,beq_eq,blt_eq];by_cases G:i=d;subst G;by_cases n:i<N;simp[n,List.getD,h.1];simp[n,h.2 i,List.getD,rz,h.1];simp[G,h.2 i,List.getD,rz,hG G]
theorem TE.OB{N:Nat}{T:Rg}{L:aD}(h:TE N T L)(ops:aG)(o:Oper):ji ops o L=su N ops o T:=by
 unfold ji su
 cases o.guard with
 |none=>rfl
 |some g=>
  have⟨j,OB⟩:=g;simp only;unfold zO
  cases t:(ops[j]?).bind (·.dst)with
  |none=>simp
  |some d=>
   simp only[Cw,blt_eq];by_cases n:d<N;have:L[d]?=ad (T d):=by rw[h.2 d];simp[List.getD,cx (h.1▸n:d<aA L)]
   rw[this];simp only[n,vl,a8,UL]
   grind
   have:L[d]?=ae:=mE (by rw[h.1];exact Nat.not_lt.1 n)
   grind
inductive RO where
 |go (T:Rg) (σ:St)
 |bp (v:AV) (σ:St)
inductive Oc where
 |bI (T:Rg) (σ:St)
 |exit (id:Nat) (T:Rg) (σ:St)
 |ret (T:Rg) (σ:St)
 |bp (v:AV) (σ:St)
structure K(ρ:Type)where
 bI:Rg->St->R ρ
 ret:Rg->St->R ρ
 exit:Nat->Rg->St->R ρ
 bp:AV->St->R ρ
def K.iO{ρ:Type}(k:K ρ):Oc->R ρ
 |.bI T σ=>k.bI T σ
 |.ret T σ=>k.ret T σ
 |.exit id T σ=>k.exit id T σ
 |.bp v σ=>k.bp v σ
def ui:K Oc:=⟨λT σ=>.ok<|.bI T σ,λT σ=>.ok<|.ret T σ,λid T σ=>.ok<|.exit id T σ,λv σ=>.ok<|.bp v σ⟩
def sK(D:a_)(f:Nat):Code:=match D.func f with
 |ad fn=>fn.body.getD .skip
 |ae=>.skip
def DP{ρ:Type}(f:Rg->St->R ρ)(k:K ρ):K ρ:=⟨f,k.ret,k.exit,k.bp⟩
def DL{ρ:Type}(id:Nat)(k:K ρ):K ρ:=⟨k.bI,k.ret,λB T σ=>match ag B id with
 |aa=>k.bI T σ
 |ab=>k.exit B T σ,k.bp⟩
def ts{ρ:Type}(p:cY×St)(k:AV->St->R ρ)(t:AV->St->R ρ):R ρ:=
 match p.1 with
 |.ret v=>k v p.2
 |.panic v=>t v p.2
def Kg(D:a_)(W:Nat)(x:AV)(b:Nat):R (AV×AO):=do
 let s<-size D W
 return(.aR b 0,.cells x.cells W aa s)
def F5(D:a_)(t L:Nat)(M:List<|Nat×AV)(b:Nat):R (AV×AO):=do
 let W<-q9 D t
 let s<-size D W
 if L*s>2^24 then .error "" else do
 let z<-sw D W L
 let cells<-fill (λi=>ad (i*s,s)) z M
 return(.slice b 0 L (ad L) s,.cells cells W aa s)
def PW(D:a_)(W:Nat)(b:Nat):R (AV×AO):=do
 let z<-zero D W
 let s<-size D W
 return(.aR b 0,.cells z.cells W aa s)
def NF(r:R AV)(v:AV):Bool:=
 match r with
 |.ok g=>cU g v
 |.error _=>ab
def aO{α β:Type}(x:R α)(f:α->R β):R β:=match x with|.ok a=>f a|.error e=>.error e
def BN(N:Nat)(T:Rg):List (Nat×AV)->Rg
 |[]=>T
 |(d,v)::l=>BN N (cZ N T (ad d) v) l
section
variable{ρ:Type}(D:a_)(call:iZ)(ch:i6)(N:Nat)
def xF(T:Rg)(Z:Option Tmp)(k:Rg->St->R ρ)(t:AV->St->R ρ)(h:jj)(σ:St):R ρ:=
 match h with
 |.value v=>k (cZ N T Z v) σ
 |.skip=>k (cZ N T Z .undef) σ
 |.enter f args=>aO (call f args σ) λp=>ts p (λv σ=>k (cZ N T Z v) σ) t
 |.round l args=>aO (ch l args σ) λp=>ts p (λv σ=>k (cZ N T Z v) σ) t
 |.panic v=>t v σ
 |_=>.error ""
def Se(h:jj)(σ:St):R (cY×St):=
 match h with
 |.enter f args=>call f args σ
 |.round l args=>ch l args σ
 |_=>.error ""
def yC(f:AV)(args:List AV)(σ:St):R (cY×St):=aO (pL D f args) λh=>Se call ch h σ
def FL(g:Bool)(o:Oper)(T:Rg)(σ:St)(k:Rg->St->R ρ)(Z:AV->St->R ρ):R ρ:=
 match o.op with
 |.store t a x=>aO (bif g then wt D σ t (cn D T a) (cn D T x)else .ok σ) λσ'=>k (cZ N T o.dst .undef) σ'
 |.call c=>
  match c.callee with
  |.builtin b=>
   match b,c.argTypes.toList,c.args.toList with
   |.append,[t,u],[s,x]=>aO (bif g then l_ D σ t u (cn D T s) (cn D T x)else .ok (.undef,σ)) λp=>k (cZ N T o.dst p.1) p.2
   |_,_,_=>match g with
    |aa=>aO (mG D σ (cn D T)<|.call c) λp=>xF call ch N T o.dst k Z p.1 p.2
    |ab=>k (cZ N T o.dst .undef) σ
  |.value f=>aO (bif g then yC D call ch (cn D T f) (c.args.toList.map<|cn D T) σ else .ok (.ret .undef,σ)) λp=>ts p (λv σ=>k (cZ N T o.dst v) σ) Z
  |_=>match g with
   |aa=>aO (mG D σ (cn D T)<|.call c) λp=>xF call ch N T o.dst k Z p.1 p.2
   |ab=>k (cZ N T o.dst .undef) σ
 |op=>match g with
  |aa=>aO (mG D σ (cn D T) op) λp=>xF call ch N T o.dst k Z p.1 p.2
  |ab=>k (cZ N T o.dst .undef) σ
def nE(g:Bool)(o:Oper)(T:Rg)(σ:St)(k:Rg->St->R ρ)(t:AV->St->R ρ):R ρ:=
 match jo D o.op with
 |.pure=>aO (bif g then gy D (cn D T) o.op else .ok .undef) λv=>k (cZ N T o.dst v) σ
 |.je=>aO (bif g then kM D σ (cn D T) o.op else .ok .undef) λv=>k (cZ N T o.dst v) σ
 |.alloc=>match g with
  |aa=>aO (jT D (cn D T) o.op σ.n) λp=>k (cZ N T o.dst p.1)<|σ.push p.2
  |ab=>k (cZ N T o.dst .undef) σ
 |.cB=>FL D call ch N g o T σ k t
def wm(ops:Array Oper)(k:Rg->St->R ρ)(t:AV->St->R ρ):List Oper->Rg->St->R ρ
 |[],T,σ=>k T σ
 |o::rest,T,σ=>nE D call ch N (su N ops o T) o T σ (wm ops k t rest) t
def BW(T:Rg)(l:Op)(v:AV)(U:St):Bool:=NF (kM D U (cn D T) l) v
def mL(ops:Array Oper)(k:Rg->St->R ρ):List cM->List St->Rg->St->R ρ
 |[],_,T,σ=>k T σ
 |it::rest,X,T,σ=>
  match ops[it.i]? with
  |ae=>.error ""
  |ad o=>
  match su N ops o T with
  |aa=>
   match it.cB with
   |aa=>
    bif o.op.operands.toList.all λx=>de σ.n (cn D T x)then
     nE D call ch N aa o T σ (λT σ'=>bif ai σ.n σ'.n then mL ops k rest (σ'::X) T σ' else .error "") (λ_ _=>.error "")
    else .error ""
   |ab=>
    match jo D o.op with
    |.pure=>aO (gy D (cn D T) o.op) λv=>mL ops k rest X (cZ N T o.dst v) σ
    |.je=>aO (kM D σ (cn D T) o.op) λv=>bif ah it.lo (qQ X)&&(X.take<|Nat.sub (qQ X) it.lo).all (BW D T o.op v)then mL ops k rest X (cZ N T o.dst v) σ else .error ""
    |.alloc=>aO (jT D (cn D T) o.op σ.n) λp=>bif dM (σ.n+1) p.2 then mL ops k rest X (cZ N T o.dst p.1) (σ.push p.2)else .error ""
    |.cB=>.error ""
  |ab=>mL ops k rest (match it.cB with|aa=>σ::X|ab=>X) (cZ N T o.dst .undef) σ
where qQ:List St->Nat
 |[]=>0
 |_::l=>Nat.succ<|qQ l
def Nd(ops:Array Oper)(E:Bool)(T:Rg)(σ:St)(k:Rg->St->R ρ)(t:AV->St->R ρ):R ρ:=
 match E with
 |aa=>
  match vp ops (D.cut ops)with
  |aa=>
   mL D call ch N ops (λT σ=>match ai ops.size (D.cut ops)with
    |aa=>k T σ
    |ab=>
     match ag ops.size (Nat.succ<|D.cut ops)&&rG ops (D.cut ops) 0 (D.cut ops)with
     |aa=>wm D call ch N ops k t (ops.toList.drop<|D.cut ops) T σ
     |ab=>.error "") (sd ops<|D.cut ops) [σ] T σ
  |ab=>.error ""
 |ab=>wm D call ch N ops k t ops.toList T σ
def oo(T:Rg)(Z:Option Tmp)(h:jj)(σ:St):R RO:=
 match h with
 |.value v=>.ok<|.go (cZ N T Z v) σ
 |.skip=>.ok<|.go (cZ N T Z .undef) σ
 |.enter f args=>aO (call f args σ) λp=>
  match p.1 with
  |.ret v=>.ok<|.go (cZ N T Z v) p.2
  |.panic v=>.ok<|.bp v p.2
 |.round l args=>aO (ch l args σ) λp=>
  match p.1 with
  |.ret v=>.ok<|.go (cZ N T Z v) p.2
  |.panic v=>.ok<|.bp v p.2
 |.panic v=>.ok<|.bp v σ
 |_=>.error ""
def RO.iO(k:Rg->St->R ρ)(t:AV->St->R ρ):RO->R ρ
 |.go T σ=>k T σ
 |.bp v σ=>t v σ
def ml(o:Oper)(T:Rg)(σ:St):R RO:=aO (execOp D (cn D T) σ o.op) λp=>oo call ch N T o.dst p.1 p.2
def sk(ops:Array Oper):List Oper->Rg->St->R RO
 |[],T,σ=>.ok<|.go T σ
 |o::rest,T,σ=>bif su N ops o T then aO (ml D call ch N o T σ) (RO.iO (sk ops rest) λv σ=>.ok<|.bp v σ)else sk ops rest (cZ N T o.dst .undef) σ
def qA(ops:Array Oper):List cM->List St->Rg->St->R (Rg×St)
 |[],_,T,σ=>.ok (T,σ)
 |it::rest,k,T,σ=>
  match ops[it.i]? with
  |ae=>.error ""
  |ad o=>
  bif su N ops o T then
   bif it.cB then
    bif o.op.operands.toList.all λx=>de σ.n (cn D T x)then
     aO (ml D call ch N o T σ) (RO.iO (λT σ'=>bif ai σ.n σ'.n then qA ops rest (σ'::k) T σ' else .error "")<|λ_ _=>.error "")
    else .error ""
   else
    match jo D o.op with
    |.pure=>aO (gy D (cn D T) o.op) λv=>qA ops rest k (cZ N T o.dst v) σ
    |.je=>aO (kM D σ (cn D T) o.op) λv=>bif ah it.lo (mL.qQ k)&&(k.take<|Nat.sub (mL.qQ k) it.lo).all (BW D T o.op v)then qA ops rest k (cZ N T o.dst v) σ else .error ""
    |.alloc=>aO (jT D (cn D T) o.op σ.n) λp=>bif dM (σ.n+1) p.2 then qA ops rest k (cZ N T o.dst p.1) (σ.push p.2)else .error ""
    |.cB=>.error ""
  else qA ops rest (bif it.cB then σ::k else k) (cZ N T o.dst .undef) σ
def wg(ops:Array Oper)(E:Bool)(T:Rg)(σ:St):R RO:=
 bif E then
  bif vp ops (D.cut ops)then
   aO (qA D call ch N ops (sd ops<|D.cut ops) [σ] T σ) λp=>bif ai ops.size (D.cut ops)then .ok (.go p.1 p.2)else
    bif ag ops.size (Nat.succ<|D.cut ops)&&rG ops (D.cut ops) 0 (D.cut ops)then sk D call ch N ops (ops.toList.drop<|D.cut ops) p.1 p.2 else .error ""
  else .error ""
 else sk D call ch N ops ops.toList T σ
def o6(step:Rg->St->R Oc):Nat->Rg->St->R Oc
 |0,_,_=>.error ""
 |n+1,T,σ=>match step T σ with
  |.ok (.bI T σ)=>o6 step n T σ
  |r=>r
open Classical in
def pZ(step:Rg->St->R Oc)(T:Rg)(σ:St):R Oc:=if h:∃r n,o6 step n T σ=.ok r then .ok h.choose else .error ""
def vj(v:AV)(a b:R ρ):R ρ:=
 match v with
 |.aN (.bool c)=>bif c then a else b
 |_=>.error ""
def dd:Code->Rg->St->R Oc
 |.skip,T,σ=>.ok<|.bI T σ
 |.label _,T,σ=>.ok<|.bI T σ
 |.ret,T,σ=>.ok<|.ret T σ
 |.exit id,T,σ=>.ok<|.exit id T σ
 |.seq a b,T,σ=>aO (dd a T σ) λo=>match o with
  |.bI T σ=>dd b T σ
  |o=>.ok o
 |.cond c a b,T,σ=>vj (cn D T c) (dd a T σ)<|dd b T σ
 |.block id b,T,σ=>aO (dd b T σ) λo=>match o with
  |.exit B T σ=>bif ag B id then .ok (.bI T σ)else .ok<|.exit B T σ
  |o=>.ok o
 |.loop b,T,σ=>pZ (dd b) T σ
 |.scope b,T,σ=>dd b T σ
 |.region _ ops E,T,σ=>aO (wg D call ch N ops E T σ) λo=>match o with
  |.go T σ=>.ok<|.bI T σ
  |.bp v σ=>.ok<|.bp v σ
 |_,_,_=>.error ""
def gd:Code->K ρ->Rg->St->R ρ
 |.skip,k,T,σ=>k.bI T σ
 |.label _,k,T,σ=>k.bI T σ
 |.ret,k,T,σ=>k.ret T σ
 |.exit id,k,T,σ=>k.exit id T σ
 |.seq a b,k,T,σ=>gd a (DP (gd b k) k) T σ
 |.cond c a b,k,T,σ=>vj (cn D T c) (gd a k T σ)<|gd b k T σ
 |.block id b,k,T,σ=>gd b (DL id k) T σ
 |.loop b,k,T,σ=>aO (pZ (dd D call ch N b) T σ) k.iO
 |.scope b,k,T,σ=>gd b k T σ
 |.region _ ops E,k,T,σ=>Nd D call ch N ops E T σ k.bI k.bp
 |_,_,_,_=>.error ""
theorem kg{α β γ:Type}(x:R α)(f:α->R β)(g:β->R γ):aO (aO x f) g=aO x λa=>aO (f a) g:=by cases x<;>rfl
theorem bF{α β:Type}{x:R α}{f:α->R β}{b:β}:aO x f=.ok b↔∃a,x=.ok a/\ f a=.ok b:=by cases x<;>simp[aO]
theorem ca{α β:Type}(x:R α)(f:α->R β):x>>=f=aO x f:=by cases x<;>rfl
theorem akn(T:Rg)(Z:Option Tmp)(k:Rg->St->R ρ)(t:AV->St->R ρ)(h:jj)(σ:St):
 xF call ch N T Z k t h σ=aO (oo call ch N T Z h σ) (RO.iO k t):=by
 cases h with
 |enter f args=>simp only[xF,oo,kg];congr 1;funext p;unfold ts;cases p.1<;>rfl
 |round f args=>simp only[xF,oo,kg];congr 1;funext p;unfold ts;cases p.1<;>rfl
 |_=>rfl
theorem afc{ρ:Type}(T:Rg)(Z:Option Tmp)(k:Rg->St->R ρ)(t:AV->St->R ρ)(e:jj)(σ:St)(r:ρ)
 (h:aO (Se call ch e σ) (λp=>ts p (λv σ=>k (cZ N T Z v) σ) t)=.ok r):xF call ch N T Z k t e σ=.ok r:=by
 cases e with
 |enter f args=>exact h
 |round f args=>exact h
 |_=>cases h
theorem abG(g:Bool)(o:Oper)(T:Rg)(σ:St)(k:Rg->St->R ρ)(Z:AV->St->R ρ)(r:ρ)(h:FL D call ch N g o T σ k Z=.ok r):
 (bif g then aO (aO (mG D σ (cn D T) o.op) λp=>oo call ch N T o.dst p.1 p.2) (RO.iO k Z)else k (cZ N T o.dst .undef) σ)=.ok r:=by
 cases g with
 |false=>simp only[br];unfold FL at h;split at h;exact h;split at h;split at h<;>exact h;exact h;exact h;exact h
 |true=>simp only[a8];rw[kg];have n:∀e σ,aO (oo call ch N T o.dst e σ) (RO.iO k Z)=xF call ch N T o.dst k Z e σ:=λe σ=>(akn call ch N T o.dst k Z e σ).symm;simp only[n];unfold FL at h;split at h;rename_i t a x j;rw[j];simp only[a8]at h;simp only[mG,ca,kg];exact h;rename_i c j;rw[j];split at h;rename_i b Q;split at h;rename_i t u s x V X;simp only[a8]at h;simp only[mG,Q,V,X,ca,kg];exact h;exact h;rename_i f Q;simp only[a8,yC]at h;simp only[kg]at h;simp only[mG,Q,ca,kg];rw[bF]at h|-;have⟨e,V,X⟩:=h;exact⟨e,V,afc call ch N T o.dst k Z e σ r X⟩;exact h;exact h
theorem WD(g:Bool)(o:Oper)(T:Rg)(σ:St)(k:Rg->St->R ρ)(t:AV->St->R ρ)(r:ρ)(h:nE D call ch N g o T σ k t=.ok r):
 (bif g then aO (ml D call ch N o T σ) (RO.iO k t)else k (cZ N T o.dst .undef) σ)=.ok r:=by
 unfold nE at h;unfold ml execOp
 cases c:jo D o.op with
 |cB=>rw[c]at h;exact abG D call ch N g o T σ k t r h
 |_=>
  rw[c]at h
  cases g with
  |false=>exact h
  |true=>simp only[a8]at h|-;simp only[ca,kg];exact h
theorem Il(ops:aG)(k:Rg->St->R ρ)(t:AV->St->R ρ)(r:ρ):∀(l:aH) (T:Rg) (σ:St),
 wm D call ch N ops k t l T σ=.ok r->aO (sk D call ch N ops l T σ) (RO.iO k t)=.ok r
 |[],T,σ,h=>h
 |o::e,T,σ,h=>by
  unfold wm at h;have:=WD D call ch N _ o T σ _ t r h;unfold sk
  cases P:su N ops o T with
  |false=>rw[P]at this;exact Il ops k t r e _ _ this
  |true=>
   rw[P]at this;simp only[a8]at this|-;rw[kg];rw[bF]at this|-;have⟨u,V,a⟩:=this;refine⟨u,V,?_⟩
   cases u with
   |go T σ=>exact Il ops k t r e _ _ a
   |bp v σ=>exact a
theorem AQ(ops:aG)(k:Rg->St->R ρ)(r:ρ):∀(l:List cM) (W:List St) (T:Rg) (σ:St),
 mL D call ch N ops k l W T σ=.ok r->aO (qA D call ch N ops l W T σ) (λp=>k p.1 p.2)=.ok r
 |[],_,T,σ,h=>h
 |it::e,W,T,σ,h=>by
  unfold mL at h;unfold qA
  cases g:ops[it.i]? with
  |none=>rw[g]at h;cases h
  |some o=>
   rw[g]at h;simp only at h|-
   cases P:su N ops o T with
   |false=>rw[P]at h;exact AQ ops k r e _ _ _ h
   |true=>
    rw[P]at h;simp only[a8]at h|-
    cases f:it.cB with
    |true=>
     rw[f]at h;simp only[a8]at h|-
     cases X:(o.op.operands.toList.all λx=>de σ.n<|cn D T x)with
     |false=>rw[X]at h;cases h
     |true=>
      rw[X]at h;simp only[a8]at h|-;have:=WD D call ch N aa o T σ _ _ r h;simp only[a8]at this;rw[kg];rw[bF]at this|-;have⟨u,V,a⟩:=this;refine⟨u,V,?_⟩
      cases u with
      |go T z=>
       simp only[RO.iO]at a|-
       cases U:ai σ.n z.n with
       |true=>rw[U]at a;exact AQ ops k r e _ _ _ a
       |false=>rw[U]at a;cases a
      |bp v σ=>cases a
    |false=>
     rw[f]at h;simp only[br]at h|-
     cases c:jo D o.op with
     |pure=>rw[c]at h;simp only at h|-;rw[kg,bF];rw[bF]at h;have⟨v,V,a⟩:=h;exact⟨v,V,AQ ops k r e _ _ _ a⟩
     |je=>
      rw[c]at h;simp only at h|-;rw[kg,bF];rw[bF]at h;have⟨v,V,a⟩:=h;refine⟨v,V,?_⟩
      cases s:(ah it.lo (mL.qQ W)&&(W.take<|Nat.sub (mL.qQ W) it.lo).all (BW D T o.op v))with
      |false=>rw[s]at a;cases a
      |true=>rw[s]at a;exact AQ ops k r e _ _ _ a
     |alloc=>
      rw[c]at h;simp only at h|-;rw[kg,bF];rw[bF]at h;have⟨p,V,a⟩:=h;refine⟨p,V,?_⟩
      cases s:dM (σ.n+1) p.2 with
      |false=>rw[s]at a;cases a
      |true=>rw[s]at a;exact AQ ops k r e _ _ _ a
     |cB=>rw[c]at h;cases h
theorem amK(ops:aG)(d:Bool)(T:Rg)(σ:St)(k:Rg->St->R ρ)(t:AV->St->R ρ)(r:ρ)(h:Nd D call ch N ops d T σ k t=.ok r):
 aO (wg D call ch N ops d T σ) (RO.iO k t)=.ok r:=by
 unfold Nd at h;unfold wg
 cases d with
 |false=>exact Il D call ch N ops k t r _ _ _ h
 |true=>
  simp only[a8]at h|-
  cases I:vp ops (D.cut ops)with
  |false=>rw[I]at h;cases h
  |true=>
   rw[I]at h;simp only[a8]at h|-;have:=AQ D call ch N ops _ r _ _ _ _ h;rw[kg];rw[bF]at this|-;have⟨p,V,a⟩:=this;refine⟨p,V,?_⟩
   cases o:ai ops.size (D.cut ops)with
   |true=>rw[o]at a;exact a
   |false=>
    rw[o]at a;simp only[br]at a|-
    cases q:(ag ops.size (Nat.succ<|D.cut ops)&&rG ops (D.cut ops) 0 (D.cut ops))with
    |false=>rw[q]at a;cases a
    |true=>rw[q]at a;exact Il D call ch N ops k t r _ _ _ a
theorem ad_{α β:Type}(v:AV)(a b:R α)(f:α->R β):aO (vj v a b) f=vj v (aO a f) (aO b f):=by unfold vj;split;rename_i c;cases c<;>rfl;rfl
theorem vn:∀(c:Code) (k:K ρ) (T:Rg) (σ:St) (r:ρ),gd D call ch N c k T σ=.ok r->aO (dd D call ch N c T σ) k.iO=.ok r
 |.skip,k,T,σ,r,h=>h
 |.label _,k,T,σ,r,h=>h
 |.ret,k,T,σ,r,h=>h
 |.exit id,k,T,σ,r,h=>h
 |.seq a b,k,T,σ,r,h=>by
  simp only[gd]at h;simp only[dd,kg];have:=vn a _ T σ r h;rw[bF]at this|-;have⟨o,V,p⟩:=this;refine⟨o,V,?_⟩
  cases o with
  |bI T σ=>exact vn b k T σ r p
  |_=>exact p
 |.cond c a b,k,T,σ,r,h=>by
  simp only[gd]at h;simp only[dd,ad_];unfold vj at h|-;split at h;rename_i q j
  cases q with
  |true=>exact vn a k T σ r h
  |false=>exact vn b k T σ r h
  exact avN
 |.block id b,k,T,σ,r,h=>by
  simp only[gd]at h;simp only[dd,kg];have:=vn b _ T σ r h;rw[bF]at this|-;have⟨o,V,p⟩:=this;refine⟨o,V,?_⟩
  cases o with
  |exit B T σ=>
   simp only[K.iO,DL]at p
   cases e:ag B id with
   |true=>rw[e]at p;simp only[e];exact p
   |false=>rw[e]at p;simp only[e];exact p
  |_=>exact p
 |.loop b,k,T,σ,r,h=>h
 |.scope b,k,T,σ,r,h=>vn b k T σ r h
 |.region _ y d,k,T,σ,r,h=>by simp only[gd]at h;simp only[dd,kg];have:=amK D call ch N y d T σ _ _ r h;rw[bF]at this|-;have⟨o,V,p⟩:=this;refine⟨o,V,?_⟩;cases o<;>exact p
 |.rangeFunc _ _ _ _,k,T,σ,r,h=>by cases h
 |.goto _,k,T,σ,r,h=>by cases h
 |.refuse _,k,T,σ,r,h=>by cases h
theorem C8{c:Code}{T:Rg}{σ:St}{o:Oc}(h:gd D call ch N c ui T σ=.ok o):dd D call ch N c T σ=.ok o:=by have:=vn D call ch N c ui T σ o h;rw[bF]at this;have⟨j,V,a⟩:=this;rw[V];cases j<;>exact a
end
section
variable[Lo]
open Go.Sort Go.Proofs
def Gb:AO->AO
 |.cells cs e _ sz=>.cells cs e ab sz
 |_=>.c5
def wV(σ:St):St:={σ with l:=σ.l.map Gb}
def gq(σ:St)(b:Nat):St:={(wV σ).set b .c5 with M:=.e}
abbrev jJ:Lo:=⟨False⟩
omit [Lo]in
def aha(σ:St)(x:Nat):(wV σ).a7 x=Gb (σ.a7 x):=by unfold St.a7 wV;simp only;split;rw[hY];cases σ.l[σ.n-1-x]?<;>rfl;rfl
omit [Lo]in
def Ru(o:AO):(Gb o).fG=ab:=by cases o<;>rfl
omit [Lo]in
def GO{σ:St}{b:Nat}(l:aA σ.l=σ.n)(X:b<σ.n)(x:Nat):(gq σ b).a7 x=if x=b then .c5 else Gb (σ.a7 x):=by unfold gq;by_cases h:x=b;subst h;rw[b8 rfl];exact pS (σ:=wV σ) (by simpa[wV]using l) X;rw[cG h,<-aha];exact kZ (σ:=wV σ) X<|λe=>h e.symm
section
variable{D:a_}{P:Program}{ι:Nat->bf}{σ:St}{w:World}
def bz.gq{J:a_}(k:J.gx=D.gx)(h:bz D ι σ w){b:Nat}(X:b<σ.n){W:World}(v:w.heap.size<=W.heap.size)(Y:(σ.a7 b).fG=aa)(g:∀r,r<w.heap.size->r≠(ι b).block->W.heap[r]?=w.heap[r]?):
 bz J ι (gq σ b) W:=by
 refine⟨by simp[Go.Dt.gq,wV,St.set,h.len],by rw[k];exact h.ja,by rw[k];exact h.jW,λx s=>?_,λx y _ _ _ j=>?_,λm Y=>Y.elim⟩;change x<σ.n at s;rw[GO h.len X];by_cases e:x=b;rw[b8 e];trivial;rw[cG e];have q:=h.eS x s
 cases M:σ.a7 x with
 |cells T t C l=>rw[M]at q;have⟨V,a,d,O,G,A,Z⟩:=q;refine⟨V,a,d,O,?_,A,λh=>by cases h⟩;rw[<-G];refine g _ (qm.1 G).1 λB=>h.fJ b x X s (λB=>e B.symm) Y (by rw[M];intro e;cases e) B.symm
 |_=>trivial
 rw[GO h.len X]at j;split at j;cases j;rw[Ru]at j;cases j
def ad5(l:aA σ.l=σ.n){b:Nat}(e:b<σ.n)(x:Nat):((gq σ b).a7 x).fG=ab:=by rw[GO l e];split;rfl;exact Ru _
def cj.ahm{ι':aI}{σ':St}{w':World}(E:cj ι σ w ι' σ' w')(M:¬Lo.xv)(h:∀b,(σ.a7 b).fG=ab):∃q l,w'=Go.Sort.grow (w.drewN q) l:=by
 refine⟨w'.drawn-w.drawn,w'.heap.extract w.heap.size w'.heap.size,?_⟩;have V:w'.heap=w.heap++w'.heap.extract w.heap.size w'.heap.size:=by
  apply Ff;intro i;rw[Array.getElem?_append];split;rename_i p;exact E.frame i p λb _ m=>by rw[h b]at m;cases m
  grind
 have a:w'.drawn=w.drawn+(w'.drawn-w.drawn):=by have:=E.tape.2.resolve_left M;omega
 have⟨g,C,G⟩:=(⟨E.os,E.tape.1,E.output⟩:w'.os=w.os/\ w'.tape=w.tape/\ w'.output=w.output)
 cases w' with
 |mk s S U os x=>simp only at V a g C G;unfold Go.Sort.grow World.drewN;simp only;rw[<-V,<-a,<-g,<-C,<-G]
def gM(k:Nat)(l:List AV)(n i:Nat):List AV:=(l.drop<|(if i<n then i else 0)*k).take k
def tS(agg:Bool)(c:List AV):AV:=if agg then .agg c else c.headD .undef
def Kt(J:a_)(d:Bool)(k g:Nat)(s:List AV)(σ:St)(l:List AV)(n:Nat)(N:Nat->Nat->Int):Prop:=(∀i j,∃σ',dw J g (tS d (gM k l n i)::tS d (gM k l n j)::s) σ=.ok (.ret<|.aN<|.int .i64<|N i j,σ'))/\ SWO (λx y=>decide (N x y<0))
def j_(n:Nat)(N:Nat->Nat->Int):List Nat:=(pdq (λx y=>decide (N x y<0)) (Array.range n) 0 n (Lib.bitLen n) aa aa).toList
def yK(J:a_)(g:Nat):Bool:=match J.func g with
 |ad fn=>!(fn.name== "runtime.NumGoroutine")&&fn.body.isSome
 |ae=>ab
open Classical in
def xL(J:a_)(d:Bool)(k:Nat)(args:List AV)(σ:St):R (AV×St):=
 match args with
 |[.aN<|.slice ae 0 0,.func (.func _) [] _]=>.ok (.tuple [],σ)
 |[.slice b o L _ sz,.func (.func g) [] s]=>
  match σ.a7 b with
  |.cells cs e aa A=>
   if h:(b<σ.n/\ sz=k/\ 0<L/\ L<2^62/\ o+L*k<=aA cs/\ ((cs.drop o).take<|L*k).all AV.dN=aa/\ yK J g=aa)/\ ∃N,Kt J d k g s (gq σ b) (cs.drop o) L N then
    .ok (.tuple [],σ.set b<|.cells (iY cs o<|(j_ L h.2.choose).flatMap<|gM k (cs.drop o) L) e aa A)
   else .error ""
  |_=>.error ""
 |_=>.error ""
def yJ(agg:Bool)(c:List Value):Value:=if agg then .agg c.toArray else c.headD Go.undef
def JF(P:Program)(f k:Nat)(d:Bool):Prop:=
 (∀(z:Value) (w:World),Calls P f #[.slice ae 0 0,z] w λe w'=>e=.returned (.tuple #[])/\ w'=w)/\
 ∀(w:World) (t off cap n:Nat) (enc:Nat->List Value) (g:Nat) (U:Array Value) (N:Nat->Nat->Int),0<n->n<2^62->(∀i,aA (enc i)=k)->(∀i,∀v∈enc i,v.oneCell'=aa)->
  SWO (λx y=>decide (N x y<0))->(∀args w,(callFunc g args).run P w=.ok (.enter g args) w)->
  (∀m S (o:Array Nat),o.size=n->∀x y,Calls P g (#[yJ d (enc x),yJ d<|enc y]++U) (Go.Sort.grow (putRow id (Go.Sort.ahead w m) t off<|flatK enc k o) S) λe w'=>e=.returned (.int .i64<|N x y)/\ ∃q l,w'=Go.Sort.grow ((Go.Sort.grow (putRow id (Go.Sort.ahead w m) t off<|flatK enc k o) S).drewN q) l)->
  Holds id w t off (flatK enc k<|Array.range n)->t<w.heap.size->
  Calls P f #[.slice (ad ⟨t,off,ae⟩) n cap,.func (.func g) #[] U] w λe w'=>e=.returned (.tuple #[])/\
   ∃m S,w'=Go.Sort.grow (putRow id (Go.Sort.ahead w m) t off<|flatK enc k<|pdq (λx y=>decide (N x y<0)) (Array.range n) 0 n (Lib.bitLen n) aa aa) S
omit [Lo]in
def SU{α β:Type}{f:α->List β}{k:Nat}(h0:0<k)(B:∀x,aA (f x)=k):∀(L:List α) (t:Nat),(L.flatMap f)[t]?=(L[t/k]?).bind λx=>(f x)[t %k]?
 |[],t=>aY
 |x::L,t=>by
  rw[kP,Ji,B];by_cases Y:t<k;rw[b8 Y,Nat.div_eq_of_lt Y,Nat.mod_eq_of_lt Y];rfl;have g:t/k=(t-k)/k+1:=by rw[Nat.div_eq_sub_div h0 aW]
  have C:t %k=(t-k) %k:=by rw[Nat.mod_eq_sub_mod aW]
  rw[cG Y,g,C,oK,SU h0 B L<|t-k]
omit [Lo]in
def Dm{α β:Type}{f:α->List β}{k:Nat}(B:∀x,aA (f x)=k):∀(L:List α),aA (L.flatMap f)=aA L*k
 |[]=>aY
 |x::L=>by rw[kP,cN,B,Dm B L,cr,lU,nQ]
omit [Lo]in
def agb{enc:Nat->List Value}{k:Nat}(h0:0<k)(f:∀x,aA (enc x)=k)(d:Array Nat):(flatK enc k d).toList=d.toList.flatMap enc:=by
 apply uT;intro t;rw[SU h0 f,wx];by_cases Y:t<d.size*k;have i:t/k<d.size:=abv (by rw[Jz];exact Y);have s:t<(flatK enc k d).size:=by simpa using Y
 have:=get_flatK enc k d t Y;rw[vx (flatK enc k d) t s,vx d (t/k) i]at this;rw[zR s,this,wx,zR i,Cw];have m:t %k<aA (enc d[t/k]):=by rw[f];exact z7 _ h0
 exact at6;have i:¬t/k<d.size:=λh=>Y (by rw[Nat.div_lt_iff_lt_mul h0]at h;exact h);exact at6
omit [Lo]in
def MZ(g:Nat->Nat->Bool)(X:SWO g)(n:Nat):(pdq g (Array.range n) 0 n (Lib.bitLen n) aa aa).size=n:=by have:=(pdq_sorts g X (Array.range n) 0 n (Lib.bitLen n) aa aa (kQ _) aY<|.inl aM).1.1;exact at6
omit [Lo]in
def adR{k n:Nat}{l:aD}(hn:0<n)(G:n*k<=aA l)(i:Nat):aA (gM k l n i)=k:=by
 unfold gM;rw[ep,j5];have:(if i<n then i else 0)+1<=n:=by split<;>omega
 have:=uY k this
 grind
omit [Lo]in
def adS{k n:Nat}{l:aD}(hn:0<n){i:Nat}{v:AV}(Y:v∈gM k l n i):v∈l.take (n*k):=by
 unfold gM at Y;have h:(if i<n then i else 0)+1<=n:=by split<;>omega
 generalize(if i<n then i else 0)=j at Y h;have a:=uY k h;rw[lU]at a;rw[List.take_drop]at Y;have d:=wC Y;exact(List.take_subset_take_left l a) d
omit [Lo]in
def ahU{A:aE}{l N:aD}(h:∀v∈N,v∈l)(G:b5 ι A l):b5 ι A N:=jF.2 λv Y=>jF.1 G v<|h v Y
omit [Lo]in
def afb{J:a_}(F:fu J P){g:Nat}(h:yK J g=aa)(args:Array Value)(w:World):(callFunc g args).run P w=.ok (.enter g args) w:=by
 unfold yK at h;split at h;rename_i i n;simp only[bW,nM]at h;have e:i.body.isNone=ab:=by cases x:i.body<;>simp_all
 simp only[callFunc,cQ,run_program,ay,F.func _ _ n];rw[cG<|by simp[h.1],cG<|by simp[e]];simp;exact avN
omit [Lo]in
def aeW(d:Bool)(c:aD):aQ ι (tS d c)=yJ d (bb ι c):=by unfold tS yJ;cases d;cases c<;>simp[bb];simp[aQ]
def WM{J:a_}(c0:J.gx=D.gx)(F:fu J P)(r0:∀m,J.jY m↔@nP jJ J P m)(s0:@uZ jJ J P){f k:Nat}{d:Bool}(h0:0<k)(t0:d=ab->k=1)(l0:JF P f k d)
 {args:aD}{σ:St}{v:AV}{σ':St}(h:xL J d k args σ=.ok (v,σ')){ι:aI}{w:World}(R:bz D ι σ w)(m0:b5 ι (·<σ.n) args):
 Calls P f (bb ι args).toArray w λen w'=>∃ι',en=.returned (aQ ι' v)/\ bz D ι' σ' w'/\ cj ι σ w ι' σ' w'/\ bB ι' (·<σ'.n) v:=by
 unfold xL at h;split at h;rename_i g s;simp only[wB,f']at h;obtain⟨rfl,rfl⟩:=h;have:=l0.1 (aQ ι<|.func (.func g) [] s) w;simp only[bb,aQ]at this|-;refine this.mono ?_;rintro e w' ⟨rfl,rfl⟩;exact⟨ι,aM,R,cj.refl _ _ _,trivial⟩;rename_i b o L U B g s;split at h;rename_i V e u0 p;split at h;rename_i v0;simp only[wB,f']at h;obtain⟨rfl,rfl⟩:=h;obtain⟨⟨a0,rfl,z,d0,n0,o0,C⟩,q⟩:=v0;generalize u:q.choose=N;have G:=q.choose_spec;rw[u]at G;clear q u;have⟨X,p0⟩:=G;have f0:=R.eS b a0;rw[p]at f0;have⟨r1,r2,w0,K0,r3,r4,r5⟩:=f0;obtain⟨rfl,r6,r7⟩:=r5 aM;have x0:(σ.a7 b).fG=aa:=by rw[p];rfl
 have Z:(ι b).block<w.heap.size:=(qm.1 r3).1;have g0:L*B<=aA (V.drop o):=by rw[j5];omega
 have I:=adR z g0;have M:∀i v,v∈gM B (V.drop o) L i->v∈V/\ v.dN=aa:=λi v Y=>by
  have h1:=adS z Y
  grind
 have T:∀i,b5 ι (·<σ.n) (gM B (V.drop o) L i):=λi=>ahU (λv Y=>(M i v Y).1) r1;have⟨c,A⟩:=vi ι b o L U B;simp only[b5,bB]at m0;have i0:=l0.2 w (ι b).block ((ι b).shift+o) c L (λi=>bb ι<|gM B (V.drop o) L i) g (bb ι s).toArray N z d0
  (λi=>by rw[sN];exact I i) (λi v Y=>by
    rw[mK,fv]at Y;obtain⟨x,y0,rfl⟩:=Y
    exact Ky (M i x y0).2) p0 (λargs w=>afb F C args w)
  (λm S q0 z0 x y=>by
    have A0:∀r,r<w.heap.size->r≠(ι b).block->(Go.Sort.grow (putRow id (Go.Sort.ahead w m) (ι b).block ((ι b).shift+o)<|flatK (λi=>bb ι<|gM B (V.drop o) L i) B q0) S).heap[r]?=w.heap[r]?:=λr f0 B0=>by
     show(w.heap.modify _ _++S)[r]?=_
     grind
    have C0:=R.gq c0 a0 (W:=Go.Sort.grow (putRow id (Go.Sort.ahead w m) (ι b).block ((ι b).shift+o)<|flatK (λi=>bb ι<|gM B (V.drop o) L i) B q0) S) at6 x0 A0;have⟨E0,j0⟩:=X x y;have⟨n,F0⟩:=tO.1 j0
    have:=@qo.call jJ _ _ _ (@GJ jJ J P F r0 s0 n) _ _ _ _ _ F0 ι _ C0 (by
     have O:∀i,bB ι (·<σ.n) (tS d<|gM B (V.drop o) L i):=λi=>by
      unfold tS;split;exact T i;have:=T i
      cases G0:gM B (V.drop o) L i with
      |nil=>trivial
      |cons a l=>rw[G0]at this;exact this.1
     exact⟨O x,O y,m0.2.1.2⟩)
    have e1:(bb ι<|tS d (gM B (V.drop o) L x)::tS d (gM B (V.drop o) L y)::s).toArray=#[yJ d (bb ι<|gM B (V.drop o) L x),yJ d<|bb ι<|gM B (V.drop o) L y]++(bb ι s).toArray:=by simp[bb,aeW]
    rw[e1]at this;refine this.mono ?_;rintro en w' ⟨ι',rfl,L0,H0,_⟩
    exact⟨aM,@cj.ahm jJ _ _ _ _ _ _ H0 id<|ad5 R.len a0⟩)
  (λj I0=>by
    have E:j<L*B:=by simpa using I0
    have b0:j/B<L:=abv (by rw[Jz];exact E);have g1:=get_flatK (λi=>bb ι<|gM B (V.drop o) L i) B (Array.range L) j (by simpa using E);have t:o+j<aA V:=aW;have a1:=r4 (o+j) _<|cx t;constructor;unfold World.cell?;simp only[r3];rw[<-yn]at a1;simp only[Option.isSome_none,fR,ff];rw[a1,g1];congr 1;have e2:(Array.range L)[j/B]! =j/B:=by rw[vx _ _<|by simpa using b0];simp
    rw[e2];have Q:j %B<aA (bb ι<|gM B (V.drop o) L<|j/B):=by rw[sN,I];exact z7 _ h0
    rw[vx (bb ι<|gM B (V.drop o) L<|j/B) (j %B) Q];have e3:(bb ι<|gM B (V.drop o) L<|j/B)[j %B]?=ad (aQ ι V[o+j]):=by
     rw[rJ];unfold gM;rw[b8 b0,Co,b8<|z7 _ h0,O_,O_];have:o+(j/B*B+j %B)=o+j:=by rw[Jz,Nat.div_add_mod]
     rw[this,cx t];rfl
    grind
    unfold World.frozen?
    exact at6) Z
 have e0:(bb ι [AV.slice b o L U B,AV.func (.func g) [] s]).toArray=#[.slice (ad ⟨(ι b).block,(ι b).shift+o,ae⟩) L c,.func (.func g) #[] (bb ι s).toArray]:=by simp only[bb,A,aQ];rfl
 rw[e0];refine i0.mono ?_;rintro en w' ⟨rfl,m,S,rfl⟩;have J0:=agb (enc:=λi=>bb ι<|gM B (V.drop o) L i) h0 (λi=>by rw[sN];exact I i)<|pdq (λx y=>decide (N x y<0)) (Array.range L) 0 L (Lib.bitLen L) aa aa;have k0:aA (j_ L N)=L:=by unfold j_;rw[Fg];exact MZ _ p0 L
 have⟨R2,E2⟩:=R.am0 (o:=o) (new:=(j_ L N).flatMap<|gM B (V.drop o) L) a0 p (by rw[Dm I,k0];omega) (jF.2 λv Y=>by
  have⟨i,_,b0⟩:=oL.1 Y;exact jF.1 (T i) v b0) (F:=flatK (λi=>bb ι<|gM B (V.drop o) L i) B<|pdq (λx y=>decide (N x y<0)) (Array.range L) 0 L (Lib.bitLen L) aa aa) (by
   rw[J0];unfold j_;rw[mK,List.map_flatMap]
   simp only[mK]) m S
 exact⟨ι,aM,R2,E2,trivial⟩;exact avN;exact avN;exact avN
end
end
end Go.Dt
namespace Go.Dt
open Go.RowKit
def Bs(x y:Int):Bool:=ax<|x<=y
def Bl:AV->Option Int
 |.aN (.int .i64 n)=>if-9223372036854775808<=n/\ n<=9223372036854775807 then ad n else ae
 |_=>ae
def za:List (AV×AV×Nat)->Option (List Int)
 |[]=>ad []
 |e::es=>match Bl e.1,za es with
  |ad k,ad W=>ad<|k::W
  |_,_=>ae
def hS(k:List Int):List Int:=k.mergeSort Bs
def xK(g e:Nat)(args:List AV)(σ:St):R (AV×St):=
 match args with
 |[.func (.func f) [] [.aR C 0]]=>
  if f=g/\ C<σ.n then
   match σ.a7 C with
   |.cells [.cz d] _ aa _=>
    if d<σ.n then
     match σ.a7 d with
     |.map es c=>
      match za es with
      |ad W=>if W.Nodup/\ (es.map (·.2.2)).Nodup/\ (∀x∈es,x.2.2<c)/\ aA es<=2^30 then
        match hS W with
        |[]=>.ok (.aN<|.slice ae 0 0,σ)
        |_=>.ok (.slice σ.n 0 (aA<|hS W) ae 1,σ.push<|.cells ((hS W).map λk=>.aN<|.int .i64 k) e aa 1)
       else .error ""
      |ae=>.error ""
     |_=>.error ""
    else .error ""
   |_=>.error ""
  else .error ""
 |_=>.error ""
def OQ(P:Program)(f g e:Nat):Prop:=
 ∀(w:World) (J b:Nat) (es:Array MapEntry) (d:Nat) (W:List Int),w.cell? ⟨J,0,ae⟩=ad (.map<|ad b)->J<w.heap.size->w.heap[b]?=ad (.map es d)->MapKept.Stamped es d->
  es.toList.map (·.key)=W.map (Value.int .i64)->(∀k∈W,(Lit.int .i64 k).wf=aa)->es.size<=2^30->
  Calls P f #[.func (.func g) #[] #[.pointer (ad ⟨J,0,ae⟩)]] w λen w'=>∃v,en=.returned v/\
   w'.ownsRow w.heap.size e 1 v (aA<|hS W) ((hS W).map<|Value.int .i64)/\ (v=.slice ae 0 0↔hS W=[])/\ Below w.heap.size w w'
section
variable[Lo]{D:a_}{P:Program}{ι:Nat->bf}{σ:St}{w w':World}
def bz.below(h:bz D ι σ w)(e:Below w.heap.size w w'):bz D ι σ w':=
 ⟨h.len,h.ja,h.jW,λb n=>by
  by_cases o:σ.a7 b=.c5;rw[o];trivial
  exact(h.eS b n).congr<|e.block _<|(h.eS b n).lt o,h.fJ,h.mem⟩
def cj.below(l:Lo.xv)(e:Below w.heap.size w w'):cj ι σ w ι σ w':=⟨e.os,⟨e.tape,.inl l⟩,e.output,e.size,bu _,λ_ _=>rfl,λr x _=>e.block r x,λb e m=>.inr ⟨b,e,m,id,aM⟩⟩
def bz.alX(l:Lo.xv)(h:bz D ι σ w)(X:Below w.heap.size w w'){o:AO}{L:bf}(j:w.heap.size<=L.block)(B:jk (fc ι σ.n L) (·<σ.n+1) o L w'):
 bz D (fc ι σ.n L) (σ.push o) w'/\ cj ι σ w (fc ι σ.n L) (σ.push o) w':=by
 have Y:=h.below X;have U:∀b,b<σ.n->jk (fc ι σ.n L) (·<σ.n+1) (σ.a7 b) (ι b) w':=λb X=>(Y.eS b X).mono ta;refine⟨⟨by simp[St.push,h.len],yo h.ja,λg G=>?_,λb X=>?_,λb W X I C m G=>?_,h.mem⟩,?_⟩;rw[ez (by have:=h.ja;omega)];exact h.jW g G;by_cases f:b=σ.n;subst f;rw[kk,eg];exact B;have Q:b<σ.n:=by simp only[St.push]at X;omega
 rw[eP Q,ez f];exact U b Q;simp only[St.push]at X I;by_cases f:b=σ.n;subst f;have Q:W<σ.n:=aW;rw[eP Q]at G;rw[eg,ez aW];have:=(h.eS W Q).lt G;omega;have Q:b<σ.n:=aW;rw[eP Q]at m;have T:σ.a7 b≠.c5:=awa;have O:=(h.eS b Q).lt T;by_cases y:W=σ.n;subst y;rw[eg,ez f];omega;have v:W<σ.n:=aW;rw[eP v]at G;rw[ez f,ez y];exact h.fJ b W Q v C m G;refine⟨X.os,⟨X.tape,.inl l⟩,X.output,X.size,aw2,λb X=>ez aW,λr x _=>X.block r x,λb X m=>?_⟩;simp only[St.push]at X;by_cases f:b=σ.n;subst f;left;rw[eg];exact j;exact avC
omit [Lo]in
def aiM{a:AV}{k:Int}(h:Bl a=ad k):a=.aN (.int .i64 k)/\ (Lit.int .i64 k).wf=aa:=by unfold Bl at h;split at h;split at h;rename_i r;cases h;exact⟨aM,by simp only[Lit.wf,bW,c_];exact r⟩;exact avN;exact avN
omit [Lo]in
def UX:∀{es:List (AV×AV×Nat)} {W:aL},za es=ad W->es.map (λe=>aQ ι e.1)=W.map (Value.int .i64)/\ ∀k∈W,(Lit.int .i64 k).wf=aa
 |[],W,h=>by simp only[za]at h;cases h;simp
 |e::es,W,h=>by
  simp only[za]at h;split at h;rename_i k O V a;cases h;have⟨d,A⟩:=aiM V;have⟨Z,Y⟩:=UX a;refine⟨by simp only[cL,d,aQ,Z],λx s=>?_⟩
  grind
  exact avN
def alp(G:Lo.xv){f g e:Nat}(d0:OQ P f g e){args:aD}{σ:St}{v:AV}{σ':St}(h:xK g e args σ=.ok (v,σ')){ι:aI}{w:World}(R:bz D ι σ w):
 Calls P f (bb ι args).toArray w λen w'=>∃ι',en=.returned (aQ ι' v)/\ bz D ι' σ' w'/\ cj ι σ w ι' σ' w'/\ bB ι' (·<σ'.n) v:=by
 unfold xK at h;split at h;rename_i F C;split at h;rename_i l;obtain⟨rfl,m⟩:=l;split at h;rename_i J k0 e0 a;split at h;rename_i r;split at h;rename_i E c X;split at h;rename_i W Z;split at h;rename_i S;have⟨f0,p,O,n⟩:=S;have u:=R.eS C m;rw[a]at u;have⟨_,_,g0,l0,M,r4,r5⟩:=u;obtain⟨rfl,_,U⟩:=r5 aM;have s:=r4 0 _ aM;rw[U]at s;have b:=R.eS J r;rw[X]at b;have⟨_,m2,_⟩:=b;have⟨T,k2⟩:=UX (ι:=ι) Z
 have N:=d0 w (ι C).block (ι J).block _ c W (by
  unfold World.cell?;simp only[M];exact s) (qm.1 M).1 m2 (by
  refine⟨λx V=>?_,?_,?_⟩;simp only[fv]at V;obtain⟨y,h0,rfl⟩:=V;exact O y h0;simp only[pB];exact p;simp only[pB];have:(E.map λe=>aQ ι e.1)=W.map (Value.int .i64):=T;show(E.map λe=>aQ ι e.1).Nodup
  grind) (by
  simp only[pB]
  exact T) k2 (by simpa using n)
 have i0:(bb ι [AV.func (.func F) [] [.aR C 0]]).toArray=#[.func (.func F) #[] #[.pointer (ad ⟨(ι C).block,0,ae⟩)]]:=by simp[bb,aQ,bf.at,U]
 rw[i0];refine N.mono ?_;rintro en w' ⟨m0,rfl,j,A,t⟩;split at h;rename_i z;simp only[wB,f']at h;obtain⟨rfl,rfl⟩:=h;refine⟨ι,?_,R.below t,cj.below G t,trivial⟩;rw[A.2 z];rfl;rename_i z;simp only[wB,f']at h;obtain⟨rfl,rfl⟩:=h;have⟨a0,j⟩:=j
 rcases j with⟨Y,_⟩|⟨j0,I,Q,rfl,d,l,b0,_,c0,B⟩
 exact at6;generalize n0:(hS W)=L at*
 have⟨R2,E2⟩:=R.alX (D:=D) G t (o:=.cells (L.map λk=>.aN<|.int .i64 k) e aa 1) (L:=⟨j0,0,I,1⟩) d ⟨jF.2 λv Y=>by
  obtain⟨k,_,rfl⟩:=fv.1 Y;trivial,rfl,Q,(0,0),l,λi v Y=>by
  rw[hY]at Y
  cases q:L[i]? with
  |none=>rw[q]at Y;cases Y
  |some k=>
   rw[q]at Y;simp only[sE,pD]at Y;subst Y;have o0:i<aA L:=(lQ.1 q).1;have h1:(Q.toList.take<|aA L*1)[i]?=ad (Value.int .i64 k):=by rw[B,hY,q];rfl
   rw[Co,b8 aW,wx]at h1;show Q[0+i]?=_;rw[bZ,h1]
   simp[aQ],λ_=>⟨aM,by show 0+I*1<=Q.size;omega,rfl⟩⟩
 refine⟨_,?_,R2,E2,?_⟩;exact auU;refine⟨aw2,by rw[eg],aW,?_⟩;rw[eg];exact at6;exact avN;exact avN;exact avN;exact avN;exact avN;exact avN;exact avN
end
end Go.Dt
namespace Go.Dt
section
variable{D:a_}{N:Nat}{ds:List bT}{rd:Option Nat}
def adz{f:FuncId}{args:aD}{σ:St}{r:cY×St}{n:Nat}(h:(cg D n).call f args σ=.ok r){m:Nat}(Y:n<=m):(cg D m).call f args σ=.ok r:=(gN Y).call _ _ _ _ h
def RG(ds:List bT)(N:Nat)(X:Nat->R nb):RO->Prop
 |.go T' σ'=>∃f,TE N T' f/\ ∃n,X n=.ok (.go f ds ae σ')
 |.bp v σ'=>∃f n,X n=.ok (.panic v f ds ae σ')
def WC{o:Oper}{T:Rg}{L:aD}{σ:St}{r:RO}(S:TE N T L)(h:ml D (dw D) (fI D) N o T σ=.ok r):
 RG ds N (λn=>mr D (cg D n).call (cg D n).round rd.isSome o L ds ae σ) r:=by
 unfold ml at h;rw[bF]at h;have⟨⟨m,G⟩,J,h⟩:=h;rw[<-S.eval]at J;unfold mr;simp only[J]
 cases m with
 |value v=>simp only[oo]at h;cases h;exact⟨_,S.cu _ _,0,aM⟩
 |skip=>simp only[oo]at h;cases h;exact⟨_,S.cu _ _,0,aM⟩
 |enter f args=>
  simp only[oo,bF]at h;have⟨⟨e,d⟩,c,h⟩:=h;have⟨n,X⟩:=tO.1 c
  cases e with
  |ret v=>simp only at h;cases h;refine⟨_,S.cu _ _,n,?_⟩;show((cg D n).call f args G>>=_)=_;rw[X];rfl
  |panic v=>simp only at h;cases h;refine⟨L,n,?_⟩;show((cg D n).call f args G>>=_)=_;rw[X];rfl
 |round f args=>
  simp only[oo,bF]at h;have⟨⟨e,d⟩,c,h⟩:=h;have⟨n,X⟩:=Yi.1 c
  cases e with
  |ret v=>simp only at h;cases h;refine⟨_,S.cu _ _,n,?_⟩;show((cg D n).round f args G>>=_)=_;rw[X];rfl
  |panic v=>simp only at h;cases h;refine⟨L,n,?_⟩;show((cg D n).round f args G>>=_)=_;rw[X];rfl
 |panic v=>simp only[oo]at h;cases h;exact⟨L,0,aM⟩
 |_=>simp[oo]at h
def Nx{o:Oper}{L:aD}{σ:St}{r:nb}{n m:Nat}(h:mr D (cg D n).call (cg D n).round rd.isSome o L ds ae σ=.ok r)(Y:n<=m):
 mr D (cg D m).call (cg D m).round rd.isSome o L ds ae σ=.ok r:=
 Nw (gN Y).call (gN Y).round _ _ _ _ _ _ _ h
def Ij{ops:aG}:∀(l:aH) {T:Rg} {L:aD} {σ:St} {r:RO},TE N T L->sk D (dw D) (fI D) N ops l T σ=.ok r->
 RG ds N (λn=>lg D (cg D n).call (cg D n).round rd.isSome ops l L ds ae σ) r
 |[],T,L,σ,r,S,h=>by simp only[sk]at h;cases h;exact⟨L,S,0,aM⟩
 |o::p,T,L,σ,r,S,h=>by
  unfold sk at h;unfold lg;rw[S.OB]
  cases P:su N ops o T with
  |false=>rw[P]at h;simp only[br]at h;simp only[fR,ff];exact Ij p (S.cu _ _) h
  |true=>
   rw[P]at h;simp only[a8,bF]at h;simp only[dj];have⟨t,O,h⟩:=h;have C:=WC (ds:=ds) (rd:=rd) S O
   cases t with
   |go x G=>
    have⟨j,V,b,U⟩:=C;have w:=Ij p V h
    cases r with
    |go d z=>have⟨f,u,B,e⟩:=w;refine⟨f,u,max b B,?_⟩;dsimp only at U e|-;rw[Nx U<|j8 b B];exact x_ (gN<|j9 b B).call (gN<|j9 b B).round _ _ _ _ _ _ _ _ e
    |bp v z=>have⟨f,B,e⟩:=w;refine⟨f,max b B,?_⟩;dsimp only at U e|-;rw[Nx U<|j8 b B];exact x_ (gN<|j9 b B).call (gN<|j9 b B).round _ _ _ _ _ _ _ _ e
   |bp v G=>have⟨j,b,U⟩:=C;simp only[RO.iO]at h;cases h;refine⟨j,b,?_⟩;dsimp only at U|-;rw[U];rfl
def Vf:∀l:List St,mL.qQ l=aA l
 |[]=>rfl
 |_::l=>by simp[mL.qQ,Vf l]
def anZ{T:Rg}{L:aD}(S:TE N T L):si D L=BW D T:=by funext l v s;simp only[si,BW,NF,S.eval];rfl
def AP{ops:aG}:∀(l:List cM) (W:List St) {T:Rg} {L:aD} {σ:St} {p:Rg×St},TE N T L->qA D (dw D) (fI D) N ops l W T σ=.ok p->
 ∃f,TE N p.1 f/\ ∃n,nH D (cg D n).call (cg D n).round rd.isSome ops l W L ds ae σ=.ok (.go f ds ae p.2)
 |[],W,T,L,σ,p,S,h=>by simp only[qA]at h;cases h;exact⟨L,S,0,aM⟩
 |it::j,W,T,L,σ,p,S,h=>by
  unfold qA at h;unfold nH
  cases g:ops[it.i]? with
  |none=>rw[g]at h;cases h
  |some o=>
   rw[g]at h;simp only at h|-;rw[S.OB]
   cases P:su N ops o T with
   |false=>
    rw[P]at h;simp only[br]at h;simp only[fR,ff];have e:(if it.cB=aa then σ::W else W)=(bif it.cB then σ::W else W):=by cases it.cB<;>rfl
    rw[e];exact AP j _ (S.cu _ _) h
   |true=>
    rw[P]at h;simp only[a8]at h;simp only[dj]
    cases m:it.cB with
    |true=>
     rw[m]at h;simp only[a8]at h;simp only[dj];rw[S.eval]
     cases X:(o.op.operands.toList.all λx=>de σ.n<|cn D T x)with
     |false=>rw[X]at h;cases h
     |true=>
      rw[X]at h;simp only[a8,bF]at h;simp only[dj];have⟨t,O,h⟩:=h;have C:=WC (ds:=ds) (rd:=rd) S O
      cases t with
      |bp v G=>cases h
      |go F G=>
       have⟨J,V,b,B⟩:=C;simp only[RO.iO]at h
       cases U:ai σ.n G.n with
       |false=>rw[U]at h;cases h
       |true=>rw[U]at h;simp only[a8]at h;have⟨f,u,i,y⟩:=AP j _ V h;refine⟨f,u,max b i,?_⟩;dsimp only at B|-;rw[Nx B<|j8 b i];have E:σ.n<=G.n:=Cs U;show(if σ.n<=G.n then _ else _)=_;rw[b8 E];exact wi (gN<|j9 b i).call (gN<|j9 b i).round _ _ _ _ _ _ _ _ _ y
    |false=>
     rw[m]at h;simp only[br]at h;simp only[fR,ff]
     cases c:jo D o.op with
     |pure=>rw[c]at h;simp only[bF]at h;have⟨v,Y,h⟩:=h;rw[<-S.eval]at Y;simp only[Y];exact AP j _ (S.cu _ _) h
     |je=>
      rw[c]at h;simp only[bF]at h;have⟨v,Y,h⟩:=h;rw[<-S.eval]at Y;simp only[Y];rw[Vf,blt_eq,<-anZ S]at h;have r:Nat.sub (aA W) it.lo=aA W-it.lo:=rfl;rw[r]at h
      cases s:(ax (it.lo<aA W)&&(W.take<|aA W-it.lo).all (si D L o.op v))with
      |false=>rw[s]at h;cases h
      |true=>rw[s]at h;simp only[a8]at h;show∃f,TE N p.1 f/\ ∃n,(if(ax (it.lo<aA W)&&(W.take<|aA W-it.lo).all (si D L o.op v))=aa then _ else _)=_;rw[s];simp only[dj];exact AP j _ (S.cu _ _) h
     |alloc=>
      rw[c]at h;simp only[bF]at h;have⟨⟨v,Z⟩,Y,h⟩:=h;rw[<-S.eval]at Y;simp only[Y]
      cases s:dM (σ.n+1) Z with
      |false=>simp only[s]at h;cases h
      |true=>simp only[s,a8]at h;show∃f,TE N p.1 f/\ ∃n,(if dM (σ.n+1) Z=aa then _ else _)=_;rw[s];simp only[dj];exact AP j _ (S.cu _ _) h
     |cB=>rw[c]at h;cases h
def XS{ops:aG}{d:Bool}{T:Rg}{L:aD}{σ:St}{r:RO}(S:TE N T L)(h:wg D (dw D) (fI D) N ops d T σ=.ok r):
 RG ds N (λn=>q7 D (cg D n).call (cg D n).round rd.isSome ops d L ds ae σ) r:=by
 unfold wg at h;unfold q7
 cases d with
 |false=>exact Ij _ S h
 |true=>
  simp only[a8]at h;simp only[dj]
  cases I:vp ops (D.cut ops)with
  |false=>rw[I]at h;cases h
  |true=>
   rw[I]at h;simp only[a8,bF]at h;have⟨p,M,h⟩:=h;simp only[RP I,dj];have⟨j,G,b,U⟩:=AP (ds:=ds) (rd:=rd) _ _ S M;rw[FX]at h;by_cases o:ops.size<=D.cut ops;rw[gu o]at h;simp only[a8]at h;cases h;refine⟨j,G,b,?_⟩;dsimp only;rw[U];show(if ops.size=D.cut ops+1 then _ else _)=_;rw[cG aW];exact at6;rw[kV o]at h;simp only[br]at h
   cases s:(ag ops.size (Nat.succ<|D.cut ops)&&rG ops (D.cut ops) 0 (D.cut ops))with
   |false=>rw[s]at h;cases h
   |true=>
    rw[s]at h;simp only[a8]at h;rw[bW,beq_eq,c_]at s;have w:=Ij (ds:=ds) (rd:=rd) _ G h
    cases r with
    |go c z=>have⟨f,u,B,e⟩:=w;refine⟨f,u,max b B,?_⟩;dsimp only at e|-;rw[wi (gN<|j8 b B).call (gN<|j8 b B).round _ _ _ _ _ _ _ _ _ U];show(if ops.size=D.cut ops+1 then _ else _)=_;rw[b8 s.1];show(if rG ops (D.cut ops) 0 (D.cut ops)=aa then _ else _)=_;rw[b8 s.2];exact x_ (gN<|j9 b B).call (gN<|j9 b B).round _ _ _ _ _ _ _ _ e
    |bp v z=>have⟨f,B,e⟩:=w;refine⟨f,max b B,?_⟩;dsimp only at e|-;rw[wi (gN<|j8 b B).call (gN<|j8 b B).round _ _ _ _ _ _ _ _ _ U];show(if ops.size=D.cut ops+1 then _ else _)=_;rw[b8 s.1];show(if rG ops (D.cut ops) 0 (D.cut ops)=aa then _ else _)=_;rw[b8 s.2];exact x_ (gN<|j9 b B).call (gN<|j9 b B).round _ _ _ _ _ _ _ _ e
def cA(ds:List bT)(rd:Option Nat)(fn:FuncId)(L:List AV)(k:List fQ):hX:={fn,T:=L,todo:=k,defers:=ds,round:=rd}
def DR(ds:List bT)(rd:Option Nat)(D:a_)(N:Nat)(fn:FuncId)(L:List AV)(σ:St)(c:List fQ):Oc->Prop
 |.bI T' σ'=>∃f,TE N T' f/\ ∀k n r,(cg D n).run (cA ds rd fn f k) ae σ'=.ok r->∃m,(cg D m).run (cA ds rd fn L<|c++k) ae σ=.ok r
 |.exit id T' σ'=>∃f,TE N T' f/\ ∀k e n r,exitTo id k=ad e->(cg D n).run (cA ds rd fn f e) ae σ'=.ok r->∃m,(cg D m).run (cA ds rd fn L<|c++k) ae σ=.ok r
 |.ret T' σ'=>∃f,TE N T' f/\ ∀k n r,jI (cg D n) (cA ds rd fn f k) (ad .ret) ae σ'=.ok r->∃m,(cg D m).run (cA ds rd fn L<|c++k) ae σ=.ok r
 |.bp v σ'=>∃f,∀k n r,p8 (cg D n) (cA ds rd fn f k) v ae σ'=.ok r->∃m,(cg D m).run (cA ds rd fn L<|c++k) ae σ=.ok r
def Vt{step:Rg->St->R Oc}{T:Rg}{σ:St}{o:Oc}(h:pZ step T σ=.ok o):∃n,o6 step n T σ=.ok o:=by unfold pZ at h;exact avj
def Vv{step:Rg->St->R Oc}:∀(n:Nat) {T:Rg} {σ:St} {o:Oc},o6 step n T σ=.ok o->o6 step (n+1) T σ=.ok o
 |0,_,_,_,h=>by cases h
 |n+1,T,σ,o,h=>by unfold o6 at h|-;split at h;exact Vv n h;exact h
def Vu{step:Rg->St->R Oc}{n m:Nat}(I:n<=m){T:Rg}{σ:St}{o:Oc}(h:o6 step n T σ=.ok o):o6 step m T σ=.ok o:=by
 induction I with
 |refl=>exact h
 |step _ k=>exact Vv _ k
def Hl{step:Rg->St->R Oc}{T:Rg}{σ:St}{o:Oc}{n:Nat}(h:o6 step n T σ=.ok o):pZ step T σ=.ok o:=by unfold pZ;have x:∃r n,o6 step n T σ=.ok r:=⟨o,n,h⟩;rw[w_ x];have⟨m,Y⟩:=x.choose_spec;have V:=Vu (j8 n m) h;have a:=Vu (j9 n m) Y;exact at6
def ajr{step:Rg->St->R Oc}{T T':Rg}{σ σ':St}{o:Oc}(h:step T σ=.ok (.bI T' σ'))(B:pZ step T' σ'=.ok o):pZ step T σ=.ok o:=by have⟨n,r⟩:=Vt B;refine Hl (n:=n+1) ?_;unfold o6;rw[h];exact r
def Vw{step:Rg->St->R Oc}{T T':Rg}{σ σ':St}{id:Nat}(h:step T σ=.ok (.exit id T' σ')):pZ step T σ=.ok (.exit id T' σ'):=av6
def Vy{step:Rg->St->R Oc}{T T':Rg}{σ σ':St}(h:step T σ=.ok (.ret T' σ')):pZ step T σ=.ok (.ret T' σ'):=av6
def Vx{step:Rg->St->R Oc}{T:Rg}{v:AV}{σ σ':St}(h:step T σ=.ok (.bp v σ')):pZ step T σ=.ok (.bp v σ'):=av6
def pn{fr fr':hX}{σ:St}{r:cY×bM×St}{n:Nat}(h:∀F,dG D F fr ae σ=F.run fr' ae σ)(x:(cg D n).run fr' ae σ=.ok r):(cg D<|n+1).run fr ae σ=.ok r:=by show dG D (cg D n) fr ae σ=.ok r;rw[h];exact x
def uI(n:Nat)(fr:hX)(c:bM)(σ:St):(cg D<|n+1).run fr c σ=dG D (cg D n) fr c σ:=rfl
def alB{fr:hX}{v:AV}{σ:St}{r:cY×bM×St}{n m:Nat}(Y:n<=m)(h:p8 (cg D n) fr v ae σ=.ok r):p8 (cg D m) fr v ae σ=.ok r:=by unfold p8 at h|-;split at h;exact(gN Y).finish _ _ _ _ _ _ _ h;exact h
def DR.ko{fn:FuncId}{L:aD}{σ:St}{c P:List fQ}{o:Oc}(h:DR ds rd D N fn L σ c o)(s:∀k F,dG D F (cA ds rd fn L<|P++k) ae σ=F.run (cA ds rd fn L<|c++k) ae σ):
 DR ds rd D N fn L σ P o:=by
 cases o with
 |bI d z=>have⟨f,T,h⟩:=h;refine⟨f,T,λk n r x=>?_⟩;have⟨m,Y⟩:=h k n r x;exact⟨m+1,pn (s k) Y⟩
 |exit id d z=>have⟨f,T,h⟩:=h;refine⟨f,T,λk e n r J x=>?_⟩;have⟨m,Y⟩:=h k e n r J x;exact⟨m+1,pn (s k) Y⟩
 |ret d z=>have⟨f,T,h⟩:=h;refine⟨f,T,λk n r x=>?_⟩;have⟨m,Y⟩:=h k n r x;exact⟨m+1,pn (s k) Y⟩
 |bp v z=>have⟨f,h⟩:=h;refine⟨f,λk n r x=>?_⟩;have⟨m,Y⟩:=h k n r x;exact⟨m+1,pn (s k) Y⟩
def DR.then{fn:FuncId}{L:aD}{σ:St}{c d:List fQ}{T1:Rg}{σ1:St}{o:Oc}(h:DR ds rd D N fn L σ c<|.bI T1 σ1)(k:∀j,TE N T1 j->DR ds rd D N fn j σ1 d o):
 DR ds rd D N fn L σ (c++d) o:=by
 have⟨j,G,h⟩:=h;have k:=k j G
 cases o with
 |bI Z z=>have⟨f,T,k⟩:=k;refine⟨f,T,λq n r x=>?_⟩;have⟨m,Y⟩:=k q n r x;rw[eF];exact h _ m r Y
 |exit id Z z=>have⟨f,T,k⟩:=k;refine⟨f,T,λq e n r J x=>?_⟩;have⟨m,Y⟩:=k q e n r J x;rw[eF];exact h _ m r Y
 |ret Z z=>have⟨f,T,k⟩:=k;refine⟨f,T,λq n r x=>?_⟩;have⟨m,Y⟩:=k q n r x;rw[eF];exact h _ m r Y
 |bp v z=>have⟨f,k⟩:=k;refine⟨f,λq n r x=>?_⟩;have⟨m,Y⟩:=k q n r x;rw[eF];exact h _ m _ Y
def DR.oA{fn:FuncId}{L:aD}{σ:St}{c d:List fQ}{o:Oc}(h:DR ds rd D N fn L σ c o)(t:∀id k,exitTo id (d++k)=exitTo id k)(hn:∀T' σ',o≠.bI T' σ'):
 DR ds rd D N fn L σ (c++d) o:=by
 cases o with
 |bI T' σ'=>exact(hn _ _ aM).elim
 |exit id T' σ'=>have⟨f,T,h⟩:=h;refine⟨f,T,λq e n r J x=>?_⟩;rw[eF];exact h _ e n r (by rw[t];exact J) x
 |ret T' σ'=>have⟨f,T,h⟩:=h;refine⟨f,T,λq n r x=>?_⟩;rw[eF];exact h _ n r x
 |bp v σ'=>have⟨f,h⟩:=h;refine⟨f,λq n r x=>?_⟩;rw[eF];exact h _ n r x
def rK(fn:FuncId):∀(c:Code) (T:Rg) (L:aD) (σ:St) (o:Oc),TE N T L->dd D (dw D) (fI D) N c T σ=.ok o->DR ds rd D N fn L σ [.code c] o
 |.skip,T,L,σ,o,S,h=>avA
 |.label _,T,L,σ,o,S,h=>avA
 |.ret,T,L,σ,o,S,h=>by simp only[dd]at h;cases h;exact⟨L,S,λk n r x=>⟨n+1,x⟩⟩
 |.exit id,T,L,σ,o,S,h=>by simp only[dd]at h;cases h;refine⟨L,S,λk A n r f x=>⟨n+1,pn (fr':=cA ds rd fn L A) (λF=>?_) x⟩⟩;simp only[dG,cA,tG,f]
 |.seq a b,T,L,σ,o,S,h=>by
  simp only[dd,bF]at h;have⟨E,l,h⟩:=h;have C:=rK fn a T L σ E S l;refine DR.ko (c:=[.code a]++[.code b]) ?_<|λk F=>rfl
  cases E with
  |bI p G=>exact C.then λj V=>rK fn b p j G o V h
  |exit id p G=>cases h;exact C.oA (λid k=>rfl) (λ_ _ e=>by cases e)
  |ret p G=>cases h;exact C.oA (λid k=>rfl) (λ_ _ e=>by cases e)
  |bp v G=>cases h;exact C.oA (λid k=>rfl) (λ_ _ e=>by cases e)
 |.cond c a b,T,L,σ,o,S,h=>by
  simp only[dd,vj]at h;split at h;rename_i q M
  cases q with
  |true=>
   refine DR.ko (rK fn a T L σ o S h)<|λk F=>?_;have:dV D L c=.aN (.bool aa):=by rw[S.eval];exact M
   simp only[dG,cA,tG,this];rfl
  |false=>
   refine DR.ko (rK fn b T L σ o S h)<|λk F=>?_;have:dV D L c=.aN (.bool ab):=by rw[S.eval];exact M
   simp only[dG,cA,tG,this];rfl
  exact avN
 |.block id b,T,L,σ,o,S,h=>by
  simp only[dd,bF]at h;have⟨E,l,h⟩:=h;have C:=rK fn b T L σ E S l;refine DR.ko (c:=[.code b]++[.inBlock id]) ?_<|λk F=>rfl
  cases E with
  |bI p G=>cases h;exact C.then λj V=>⟨j,V,λk n r x=>⟨n+1,pn (λF=>rfl) x⟩⟩
  |exit B p G=>simp only at h;have⟨j,V,C⟩:=C;rw[beq_eq]at h;by_cases z:B=id;rw[gu z]at h;simp only[a8]at h;cases h;refine⟨j,V,λk n r x=>?_⟩;rw[eF];exact C _ k n r (by simp[exitTo,z]) x;rw[kV z]at h;simp only[br]at h;cases h;refine⟨j,V,λk A n r f x=>?_⟩;rw[eF];exact C _ A n r (by simp[exitTo,hG z,f]) x
  |ret p G=>cases h;have⟨j,V,C⟩:=C;refine⟨j,V,λk n r x=>?_⟩;rw[eF];exact C _ n r x
  |bp v G=>cases h;have⟨j,C⟩:=C;refine⟨j,λk n r x=>?_⟩;rw[eF];exact C _ n r x
 |.loop b,T,L,σ,o,S,h=>by
  simp only[dd]at h;have⟨n,X⟩:=Vt h;refine DR.ko (c:=[.code b]++[.inLoop b]) ?_<|λk F=>rfl;clear h
  induction n generalizing T L σ with
  |zero=>cases X
  |succ n I=>unfold o6 at X;split at X;rename_i p G l;refine(rK fn b T L σ _ S l).then λj V=>?_;exact DR.ko (I p j G V X)<|λk F=>rfl;rename_i J;exact(rK fn b T L σ o S X).oA (λid k=>rfl) λY W e=>J Y W<|e▸X
 |.scope b,T,L,σ,o,S,h=>by
  simp only[dd]at h;have C:=rK fn b T L σ o S h;refine DR.ko (c:=[.code b]++[.inScope b]) ?_<|λk F=>rfl
  cases o with
  |bI p G=>exact C.then λj V=>⟨j,V,λk n r x=>⟨n+1,pn (λF=>rfl) x⟩⟩
  |exit id p G=>exact C.oA (λid k=>rfl) (λ_ _ e=>by cases e)
  |ret p G=>exact C.oA (λid k=>rfl) (λ_ _ e=>by cases e)
  |bp v G=>exact C.oA (λid k=>rfl) (λ_ _ e=>by cases e)
 |.region id y d,T,L,σ,o,S,h=>by
  simp only[dd,bF]at h;have⟨u,l,h⟩:=h;have C:=XS (ds:=ds) (rd:=rd) S l
  cases u with
  |go p G=>cases h;have⟨j,V,s,U⟩:=C;refine⟨j,V,λk n r x=>(⟨max s n+1,?_⟩:∃m,_)⟩;rw[uI];dsimp only at U;have g:=Ia (D:=D) (gN<|j8 s n).call (gN<|j8 s n).round _ _ _ _ _ _ _ _ U;simp only[dG,cA,tG,g];exact(gN<|j9 s n).run _ _ _ _ x
  |bp v G=>cases h;have⟨j,s,U⟩:=C;refine⟨j,λk n r x=>(⟨max s n+1,?_⟩:∃m,_)⟩;rw[uI];dsimp only at U;have g:=Ia (D:=D) (gN<|j8 s n).call (gN<|j8 s n).round _ _ _ _ _ _ _ _ U;have O:=alB (j9 s n) x;simp only[dG,cA,tG,g];exact O
 |.rangeFunc _ _ _ _,T,L,σ,o,S,h=>by simp[dd]at h
 |.goto _,T,L,σ,o,S,h=>by simp[dd]at h
 |.refuse _,T,L,σ,o,S,h=>by simp[dd]at h
def mH(args:List AV):Rg:=λi=>args.getD i .undef
def lf{ρ:Type}(D:a_)(σ:St)(T:Rg)(k:List AV->R ρ):List ResultVar->R ρ
 |[]=>k []
 |.tmp t::l=>lf D σ T (λq=>k<|T t::q) l
 |.cell a t::l=>aO (jw D σ t<|T a) λv=>lf D σ T (λq=>k<|v::q) l
def ou(q:List AV):AV:=match q with|[v]=>v|q=>.tuple q
def QW(D:a_)(g:iZ)(J:i6)(fn:Func)(c:Code)(args:List AV)(σ:St):R (cY×St):=
 gd D g J fn.ntmps c ⟨λT σ=>lf D σ T (λq=>.ok (.ret<|ou q,σ)) fn.results.toList,λT σ=>lf D σ T (λq=>.ok (.ret<|ou q,σ)) fn.results.toList,
  λ_ _ _=>.error "",λv σ=>.ok (.panic v,σ)⟩ (mH args) σ
def Ni{ρ:Type}{σ:St}{T:Rg}{L:aD}(S:TE N T L){r:ρ}:∀(l:List ResultVar) (k:aD->R ρ),lf D σ T k l=.ok r->∃q,q6 D σ L l=.ok q/\ k q=.ok r
 |[],k,h=>⟨[],aM,h⟩
 |.tmp t::l,k,h=>by have⟨q,V,p⟩:=Ni S l _ h;refine⟨T t::q,?_,p⟩;simp only[q6,V,S.2 t];rfl
 |.cell a t::l,k,h=>by simp only[lf,bF]at h;have⟨v,Y,h⟩:=h;have⟨q,V,p⟩:=Ni S l _ h;refine⟨v::q,?_,p⟩;rw[S.2 a]at Y;simp only[q6,V,Y];rfl
def A5{f:FuncId}{fn:Func}{σ:St}{T:Rg}{L:aD}{r:cY×St}(j:D.func f=ad fn)(S:TE N T L)(h:lf D σ T (λq=>.ok (.ret<|ou q,σ)) fn.results.toList=.ok r)(n:Nat):
 (cg D<|n+1).finish f L [] ae ae σ=.ok (r.1,ae,r.2):=by
 have⟨q,V,a⟩:=Ni S _ _ h;cases a;show pR D (cg D n) f L [] ae ae σ=_;simp only[pR,Ey,j,V]
 cases q with
 |nil=>rfl
 |cons v l=>cases l<;>rfl
def X8:∀n,aA (gF n)=n
 |0=>rfl
 |n+1=>by simp[gF,X8 n]
def X6:∀n i,(gF n).getD i .undef=.undef
 |0,i=>by simp[gF]
 |n+1,0=>by simp[gF]
 |n+1,i+1=>by simpa[gF]using X6 n i
def TE.start{args:aD}{n:Nat}(h:aA args<=n):TE n (mH args) (args++gF (n-aA args)):=by
 refine⟨by simp[X8];omega,λi=>?_⟩;simp only[mH,List.getD];by_cases G:i<aA args
 grind
 have V:args[i]?=ae:=mE aW;rw[V,Jj aW];have:=X6 (n-aA args)<|i-aA args;exact at6
def adx{f:FuncId}{fn:Func}{c:Code}{args:aD}{σ:St}{r:cY×St}(j:D.func f=ad fn)(M:D.pure f=ab)(e:fn.body=ad c)(P:aA args<=fn.ntmps)
 (h:QW D (dw D) (fI D) fn c args σ=.ok r):dw D f args σ=.ok r:=by
 unfold QW at h;have h:=vn _ _ _ _ _ _ _ _ _ h;rw[bF]at h;have⟨o,B,h⟩:=h;have k:=rK (ds:=[]) (rd:=ae) (D:=D) (N:=fn.ntmps) f c (mH args) (args++gF (fn.ntmps-aA args)) σ o (TE.start P) B;have l:∀m,(cg D m).run (cA [] ae f (args++gF (fn.ntmps-aA args))<|[.code c]++[]) ae σ=.ok (r.1,ae,r.2)->dw D f args σ=.ok r:=by intro m Y;refine tO.2 ⟨m+1,?_⟩;show lr D (cg D m) f args σ=.ok r;simp only[lr,M,fR,ff,v7,pP,j,e];have S:(cg D m).run {fn:=f,T:=args++gF (fn.ntmps-aA args),todo:=[.code c],defers:=[],round:=ae} ae σ=.ok (r.1,ae,r.2):=Y;show((cg D m).run {fn:=f,T:=args++gF (fn.ntmps-aA args),todo:=[.code c],defers:=[],round:=ae} ae σ>>=_)=_;rw[S];rfl
 cases o with
 |bI d z=>
  have⟨p,F,k⟩:=k
  have⟨m,Y⟩:=k [] 2 (r.1,ae,r.2) (by
   show dG D (cg D 1) (cA [] ae f p []) ae z=_
   exact A5 j F h 0)
  exact l m Y
 |ret d z=>have⟨p,F,k⟩:=k;have⟨m,Y⟩:=k [] 1 (r.1,ae,r.2)<|A5 j F h 0;exact l m Y
 |exit id d z=>cases h
 |bp v z=>
  have⟨p,k⟩:=k
  have⟨m,Y⟩:=k [] 1 (r.1,ae,r.2) (by
   simp only[K.iO]at h;cases h
   rfl)
  exact l m Y
def vJ(D:a_)(rs:List ResultVar):K (cY×St):=⟨λT σ=>lf D σ T (λq=>.ok (.ret<|ou q,σ)) rs,λT σ=>lf D σ T (λq=>.ok (.ret<|ou q,σ)) rs,λ_ _ _=>.error "",λv σ=>.ok (.panic v,σ)⟩
def ady{f:FuncId}{fn:Func}{args:aD}{σ:St}{r:cY×St}{N:Nat}{rs:List ResultVar}(j:D.func f=ad fn)(p:D.pure f=ab)(X:fn.body.isSome=aa)(G:fn.ntmps=N)(x:fn.results.toList=rs)
 (l:aA args<=N)(h:gd D (dw D) (fI D) N (sK D f) (vJ D rs) (mH args) σ=.ok r):dw D f args σ=.ok r:=by
 subst G x;have⟨c,Q⟩:=JC.1 X;refine adx j p Q l ?_;have e:sK D f=c:=by simp[sK,j,Q]
 rw[e]at h;exact h
end
end Go.Dt
namespace Go.Dt.Vm
inductive VV where
 |aN (v:Value)
 |nil
 |fz (es:List<|List VV)
 |bh (s ver o len:Nat)
 |aR (s ver i o:Nat)
 |bA (cs:List VV) (o:Nat)
 |agg (cs:List VV)
 |bn (vs:List VV)
 |func (f:Nat) (first cap:List VV)
 |cz (s ver:Nat)
 |yield
 |undef
 |kT
 |emp (sz:Nat)
abbrev aB:=List (List VV)
abbrev aC:=List VV
inductive VK where
 |none
 |cells (bx fr:Bool) (elem sz:Nat) (es:List<|List VV)
 |map (l:List<|AV×VV)
structure VO where
 ver:Nat
 md:Nat
 k:VK
abbrev cV:=List (List VV)->R Bool
structure H where
 o:Nat->VO
 y:List<|List VV
def H.cu(h:H)(s:Nat)(x:VO):H:=⟨λi=>bif ag i s then x else h.o i,h.y⟩
def H.new(h:H)(s:Nat)(k:VK):H:=h.cu s ⟨(h.o s).ver+1,0,k⟩
def H.mod(h:H)(s:Nat)(k:VK):H:=h.cu s ⟨(h.o s).ver,(h.o s).md+1,k⟩
def H.empty(y:List<|List VV):H:=⟨λ_=>⟨0,0,.none⟩,y⟩
abbrev Vg:=Nat->VV
def dX(T:Vg)(d:Option Tmp)(v:VV):Vg:=
 match d with
 |ad d=>λi=>bif ag i d then v else T i
 |ae=>T
def gK(args:List VV):Vg:=λi=>args.getD i .undef
def dk(Q:Nat)(d:Option Tmp):Nat:=Q*1000+d.getD 999
def lL:Value->Bool
 |.bool _|.int _ _|.string _|.pointer ae|.map ae|.nilFunc|.nilIface=>aa
 |.slice ae n c=>ag n 0&&ag c 0
 |_=>ab
def cT(a:AV):Bool:=a.dN&&cU a a
def et:VV->Bool
 |.undef=>ab
 |.kT=>ab
 |_=>aa
def uw:Value->Bool
 |.slice ae _ _=>ab
 |_=>aa
def vB:Value->VV
 |.slice ae _ _=>.nil
 |v=>.aN v
def EU:Value->VV
 |.agg cs=>bif cs.toList.all lL then .agg (cs.toList.map vB)else .kT
 |.tuple _=>.kT
 |v=>bif lL v then vB v else .kT
def bS(T:Vg):Operand->VV
 |.tmp t=>T t
 |.const v=>EU v
 |.global _=>.kT
 |.func f=>.func f [] []
def eU:List VV->Option (List AV)
 |[]=>ad []
 |.aN v::l=>match eU l with
  |ad r=>ad<|.aN v::r
  |ae=>ae
 |_=>ae
def hc:VV->Option AV
 |.aN v=>ad<|.aN v
 |.agg cs=>match eU cs with
  |ad l=>ad<|.agg l
  |ae=>ae
 |_=>ae
def k9:AV->R VV
 |.aN v=>bif lL v&&uw v then .ok (.aN v)else .error ""
 |_=>.error ""
def ib{α:Type}(x:Option α):R α:=match x with|ad a=>.ok a|ae=>.error ""
def jn:VV->R (List VV)
 |.agg cs=>.ok cs
 |.bn _=>.error ""
 |.undef=>.error ""
 |.kT=>.error ""
 |v=>.ok [v]
def qe(D:a_)(t:Nat):R (Option Nat):=do
 let d<-cP D t
 let n<-size D t
 if rX d then return ad n else if n=1 then return ae else .error ""
def gg(q:Option Nat)(cs:List VV)(o:Nat):R VV:=
 match q with
 |ae=>match cs[o]? with
  |ad v=>bif et v then .ok v else .error ""
  |ae=>.error ""
 |ad n=>bif ai (o+n) (aA cs)then .ok (.agg<|(cs.drop o).take n)else .error ""
def zI(cs:List VV)(o:Nat)(x:List VV):R (List VV):=bif ai (o+aA x) (aA cs)then .ok (cs.take o++(x++cs.drop (o+aA x)))else .error ""
def gB(h:H)(s ver:Nat):R (Bool×Bool×Nat×Nat×List (List VV)):=
 bif ag (h.o s).ver ver then
  match(h.o s).k with
  |.cells C fr e sz es=>.ok (C,fr,e,sz,es)
  |_=>.error ""
 else .error ""
def qD(h:H)(s ver i:Nat):R (List VV):=aO (gB h s ver) λq=>ib q.2.2.2.2[i]?
def oT(h:H):VV->R (List VV×Nat)
 |.aR s ver i o=>aO (qD h s ver i) λcs=>.ok (cs,o)
 |.bA cs o=>.ok (cs,o)
 |_=>.error ""
def vq(h:H):VV->R (List<|List VV)
 |.nil=>.ok []
 |.fz es=>.ok es
 |.bh s ver o L=>aO (gB h s ver) λq=>bif q.1 then .error "" else bif ai (o+L) (aA q.2.2.2.2)then .ok ((q.2.2.2.2.drop o).take L)else .error ""
 |_=>.error ""
def d_(f:VV->R (VV×List Nat)):List VV->R (List VV×List Nat)
 |[]=>.ok ([],[])
 |v::l=>aO (f v) λp=>aO (d_ f l) λq=>.ok (p.1::q.1,p.2++q.2)
def tY(f:VV->R (VV×List Nat)):List (List VV)->R (List (List VV)×List Nat)
 |[]=>.ok ([],[])
 |c::l=>aO (d_ f c) λp=>aO (tY f l) λq=>.ok (p.1::q.1,p.2++q.2)
def cq(h:H):Nat->VV->R (VV×List Nat)
 |0,_=>.error ""
 |n+1,v=>
  match v with
  |.aN v=>.ok (.aN v,[])
  |.nil=>.ok (.fz [],[])
  |.fz es=>.ok (.fz es,[])
  |.bh s ver o L=>aO (gB h s ver) λq=>bif q.1 then
    (bif ai (o+L) (aA q.2.2.2.2)then aO (tY (cq h n)<|(q.2.2.2.2.drop o).take L) λp=>.ok (.fz p.1,s::p.2)else .error "")
   else aO (vq h<|.bh s ver o L) λes=>.ok (.fz es,[s])
  |.aR s ver i o=>aO (qD h s ver i) λcs=>aO (d_ (cq h n) cs) λq=>.ok (.bA q.1 o,s::q.2)
  |.bA cs o=>.ok (.bA cs o,[])
  |.agg cs=>aO (d_ (cq h n) cs) λq=>.ok (.agg q.1,q.2)
  |.bn cs=>aO (d_ (cq h n) cs) λq=>.ok (.bn q.1,q.2)
  |.func f a b=>aO (d_ (cq h n) a) λp=>aO (d_ (cq h n) b) λq=>.ok (.func f p.1 q.1,p.2++q.2)
  |.cz _ _=>.error ""
  |.yield=>.error ""
  |.undef=>.error ""
  |.kT=>.error ""
  |.emp _=>.ok (.fz [],[])
def e8:Nat:=12
def nt(h:H)(v:VV):R (VV×List Nat):=
 match v with
 |.yield=>.ok (.yield,[])
 |v=>cq h e8 v
def fM(h:H)(s:Nat):H:=
 match(h.o s).k with
 |.cells C _ e sz es=>h.cu s ⟨(h.o s).ver,(h.o s).md,.cells C aa e sz es⟩
 |_=>h
def cp(h:H):List Nat->H
 |[]=>h
 |s::l=>cp (fM h s) l
def wc:VV->Bool
 |.aN _=>aa
 |.agg cs=>(eU cs).isSome
 |.bn q=>q.all λv=>match v with
  |.aN _=>aa
  |.agg cs=>(eU cs).isSome
  |_=>ab
 |_=>ab
def mO(h:H)(v:VV):R (VV×H):=aO (cq h e8 v) λp=>.ok (p.1,cp h p.2)
def vv(D:a_)(t f:Nat):R Nat:=do
 let j<-A_ D t f
 let s<-size D j.type
 if s=0 then .error "" else return j.offset
def sh(D:a_)(t:Nat):R (Option Nat×Nat):=do
 let d<-cP D t
 match d with
 |.slice e=>do
  let s<-size D e
  return(ae,s)
 |.array n e=>do
  let s<-size D e
  return(ad n,s)
 |_=>.error ""
def gm(D:a_)(t:Nat):R (Nat×Nat):=do
 let e<-q9 D t
 let s<-size D e
 if s=0 then .error "" else return(e,s)
def xd(h:H)(off:Nat):VV->R VV
 |.aR s ver i o=>bif ag (h.o s).ver ver then .ok (.aR s ver i<|o+off)else .error ""
 |.bA cs o=>.ok<|.bA cs<|o+off
 |_=>.error ""
def cF(h:H)(q:Option Nat×Nat)(x:VV)(T:Int):R VV:=
 match q.1 with
 |ad n=>bif ax (0<=T/\ T<n)then
   match x with
   |.aR s ver i o=>bif ag (h.o s).ver ver then .ok (.aR s ver i<|o+T.toNat*q.2)else .error ""
   |.bA cs o=>.ok<|.bA cs<|o+T.toNat*q.2
   |_=>.error ""
  else .error ""
 |ae=>bif ax (0<=T)then
   match x with
   |.fz es=>match es[T.toNat]? with
    |ad cs=>bif ag (aA cs) q.2 then .ok (.bA cs 0)else .error ""
    |ae=>.error ""
   |.bh s ver o L=>aO (gB h s ver) λp=>bif ax (T.toNat<L)&&ag p.2.2.2.1 q.2 then .ok (.aR s ver (o+T.toNat) 0)else .error ""
   |_=>.error ""
  else .error ""
def xh:List (List VV)->Nat
 |[]=>0
 |c::_=>aA c
def yb(h:H)(sz:Nat)(x:VV)(n:Nat)(i:Option Nat):R VV:=
 match x with
 |.nil=>bif ag n 0&&ag (i.getD 0) 0 then .ok .nil else .error ""
 |.fz es=>bif ag (xh es) sz&&ai n (i.getD<|aA es)&&ai (i.getD<|aA es) (aA es)then .ok (.fz<|(es.drop n).take<|i.getD (aA es)-n)else .error ""
 |.bh s ver o L=>aO (gB h s ver) λp=>bif ag p.2.2.2.1 sz&&!p.1&&ah 0 L&&ai n (i.getD L)&&ai (i.getD L) L then .ok (.bh s ver (o+n)<|i.getD L-n)else .error ""
 |_=>.error ""
def jK:VV->R Nat
 |.aN (.int _ n)=>bif ax (0<=n)then .ok n.toNat else .error ""
 |_=>.error ""
def Bi:VV->R Int
 |.aN (.int _ n)=>.ok n
 |_=>.error ""
def rZ(h:H)(x:VV):R VV:=
 match x with
 |.nil=>.ok<|.aN<|.int .i64 0
 |.emp _=>.ok<|.aN<|.int .i64 0
 |.fz es=>.ok<|.aN<|.int .i64<|aA es
 |.bh s ver _ L=>aO (gB h s ver) λ_=>.ok<|.aN<|.int .i64 L
 |_=>.error ""
def MF:VV->R Bool
 |.nil=>.ok aa
 |.fz (_::_)=>.ok ab
 |_=>.error ""
def ky(D:a_)(l:BinOp)(t:Nat)(x y:VV)(c:Bool):R VV:=
 match hc x,hc y with
 |ad a,ad b=>aO (binOp D l t a b c) k9
 |_,_=>
  match y with
  |.nil=>aO (gm D t) λ_=>aO (MF x) λb=>match l with
   |.eql=>.ok<|.aN<|.bool b
   |.neq=>.ok<|.aN<|.bool<|!b
   |_=>.error ""
  |_=>.error ""
def wX{α:Type}(v:VV)(a b:R α):R α:=
 match v with
 |.aN (.bool c)=>bif c then a else b
 |_=>.error ""
def M'(c a b:VV):R VV:=wX c (.ok a)<|.ok b
def yN(v:VV)(i:Nat):R VV:=match v with
 |.bn q=>ib q[i]?
 |_=>.error ""
def yh(D:a_)(t:Nat):R VV:=
 match D.lz t with
 |ad i=>match i.zero with
  |ad v=>bif et (EU v)then .ok (EU v)else .error ""
  |ae=>.error ""
 |ae=>.error ""
def zeroCells(D:a_)(t:Nat):R (List VV):=aO (yh D t) λz=>aO (jn z) λcs=>aO (size D t) λn=>bif ag (aA cs) n&&ah 0 n then .ok cs else .error ""
def aiw:VV->Bool
 |.aN _=>aa
 |.nil=>aa
 |_=>ab
def MG:VV->VV
 |.nil=>.fz []
 |v=>v
def jO(D:a_)(t:Nat):R (List VV):=aO (zeroCells D t) λz=>bif z.all aiw then .ok (z.map MG)else .error ""
def Dk(place:Nat->R (Nat×Nat))(cs:List VV):List (Nat×VV)->R (List VV)
 |[]=>.ok cs
 |(i,v)::rest=>aO (place i) λq=>aO (jn v) λx=>bif ag (aA x) q.2 then aO (zI cs q.1 x) λcs=>Dk place cs rest else .error ""
def ga(D:a_)(t:Nat)(M:List<|Nat×VV):R VV:=
 aO (zeroCells D t) λz=>
 aO (cP D t) λd=>
 match d with
 |.struct Z=>aO (B5 D Z.toList) λO=>aO (Dk (λi=>ib O[i]?) z M) λcs=>.ok<|.agg cs
 |_=>.error ""
def xJ(x:Option VV):R (Option Nat):=match x with
 |ae=>.ok ae
 |ad v=>aO (jK v) λn=>.ok<|ad n
def xN(x:VV)(f:AV->R AV):R VV:=aO (ib<|hc x) λa=>aO (f a) k9
def xA(mx:Bool)(x:VV)(l:List VV):R VV:=aO (ib<|hc x) λa=>aO (ib<|eU l) λl=>aO (zi mx a l) k9
def oh(D:a_)(t:Nat):Bool:=match cP D t with
 |.ok .string=>aa
 |_=>ab
def Bk:Operand->Bool
 |.global 0=>aa
 |_=>ab
def Dq(D:a_)(t:Nat):R VV:=aO (sh D t) λq=>match q.1 with
 |ad n=>bif ag n (aA D.vy)&&ag q.2 1&&!D.vy.isEmpty then .ok (.fz<|D.vy.map λs=>[.aN<|.string ⟨⟨s⟩⟩])else .error ""
 |ae=>.error ""
def vg(sz:Nat):Nat->List VV->List (List VV)
 |0,_=>[]
 |n+1,cs=>cs.take sz::vg sz n (cs.drop sz)
def G7:VV->Bool
 |.aR _ _ _ _=>aa
 |_=>ab
def Ao(D:a_)(h:H)(t:Nat)(x:VV):R VV:=aO (sh D t) λq=>match q.1,x with
 |ad n,.aR s ver i o=>aO (gB h s ver) λp=>aO (ib p.2.2.2.2[i]?) λcs=>bif p.2.1&&ah 0 n&&ah 0 q.2&&ai (o+n*q.2) (aA cs)&&(eU cs).isSome then .ok (.fz<|vg q.2 n<|cs.drop o)else .error ""
 |_,_=>.error ""
def pe(D:a_)(h:H)(e:Operand->VV)(A:Op):R VV:=
 match A with
 |.move x=>.ok<|e x
 |.assign x=>.ok<|e x
 |.pick c a b=>M' (e c) (e a)<|e b
 |.build t M=>ga D t<|M.toList.map λp=>(p.1,e p.2)
 |.nilCheck x=>match e x with
  |.aR s v i o=>bif ag (h.o s).ver v then .ok (.aR s v i o)else .error ""
  |.bA cs o=>.ok<|.bA cs o
  |.func f a b=>.ok<|.func f a b
  |.yield=>.ok .yield
  |_=>.error ""
 |.binOp A t x y _=>ky D A t (e x) (e y)<|pX x||pX y
 |.unOp A _ x=>xN (e x)<|unOp A
 |.makeFunc (.func f) first U=>bif (first.toList.map e).all et&&(U.toList.map e).all et then .ok (.func f (first.toList.map e)<|U.toList.map e)else .error ""
 |.slice t x n G ae=>bif Bk x&&n.isNone&&G.isNone then Dq D t else bif G7 (e x)&&n.isNone&&G.isNone then Ao D h t (e x)else aO (gm D t) λq=>aO (xJ<|n.map e) λl=>aO (xJ<|G.map e) λG=>yb h q.2 (e x) (l.getD 0) G
 |.fieldAddr t x f=>aO (vv D t f) λoff=>xd h off<|e x
 |.indexAddr t x T=>aO (sh D t) λq=>aO (Bi<|e T) λi=>cF h q (e x) i
 |.index t x T=>aO (ib<|hc<|e x) λa=>aO (ib<|hc<|e T) λb=>aO (vE D t a b) k9
 |.extract t T=>yN (e t) T
 |.call {callee:=.builtin b,args,argTypes}=>
  match b,argTypes.toList,args.toList with
  |.len,t::_,[x]=>
   match oh D t with
   |aa=>xN (e x)<|nz D t
   |ab=>aO (gm D t) λ_=>rZ h<|e x
  |.min,_,x::l=>xA ab (e x)<|l.map e
  |.max,_,x::l=>xA aa (e x)<|l.map e
  |_,_,_=>.error ""
 |_=>.error ""
def oa(D:a_)(t:Nat)(k:AV):List (AV×VV)->R (Option VV)
 |[]=>.ok ae
 |(e,v)::es=>aO (bX D 10 t k e) λr=>bif r then .ok (ad v)else oa D t k es
def o7(h:H):VV->R (List<|AV×VV)
 |.aN (.map ae)=>.ok []
 |.cz s ver=>bif ag (h.o s).ver ver then
   match(h.o s).k with
   |.map l=>.ok l
   |_=>.error ""
  else .error ""
 |_=>.error ""
def o9(D:a_)(t:Nat):R (Nat×Nat):=do
 let d<-cP D t
 match d with
 |.map l W=>if mS D 10 l then return(l,W)else .error ""
 |_=>.error ""
def zg(D:a_)(h:H)(t:Nat)(x T:VV)(ok:Bool):R VV:=
 aO (o9 D t) λi=>aO (o7 h x) λes=>aO (ib<|hc T) λk=>aO (bX D 10 i.1 k k) λr=>bif r then
  aO (oa D i.1 k es) λw=>match w with
   |ad v=>.ok<|bif ok then .bn [v,.aN<|.bool aa]else v
   |ae=>aO (yh D i.2) λz=>.ok (bif ok then .bn [z,.aN<|.bool ab]else z)
  else .error ""
def zz(D:a_)(h:H)(e:Operand->VV)(l:Op):R VV:=
 match l with
 |.load t a=>aO (qe D t) λq=>aO (oT h<|e a) λp=>gg q p.1 p.2
 |.lookup t x T f=>zg D h t (e x) (e T) f
 |.convert s d x=>aO (ib<|hc<|e x) λa=>aO (nZ D s d a) k9
 |_=>.error ""
def kr(z:List VV):Nat->List (List VV)
 |0=>[]
 |n+1=>z::kr z n
def xe(sz:Nat)(es:List<|List VV):List (Nat×List VV)->R (List<|List VV)
 |[]=>.ok es
 |(i,x)::rest=>bif ag (aA x) sz&&ah i (aA es)then xe sz (es.set i x) rest else .error ""
def rP(h:H)(v:VV):R (List VV×H):=aO (mO h v) λp=>aO (jn p.1) λcs=>.ok (cs,p.2)
def Bb(h:H):List (Nat×VV)->R (List (Nat×List VV)×H)
 |[]=>.ok ([],h)
 |(i,v)::l=>aO (rP h v) λp=>aO (Bb p.2 l) λq=>.ok ((i,p.1)::q.1,q.2)
def h_(D:a_)(h:H)(e:Operand->VV)(A:Op)(s:Nat):R (VV×H):=
 match A with
 |.alloc t=>aO (zeroCells D t) λz=>aO (size D t) λn=>.ok (.aR s ((h.o s).ver+1) 0 0,h.new s<|.cells aa ab t n [z])
 |.box t x=>aO (jn<|e x) λcs=>aO (size D t) λn=>bif ag (aA cs) n&&ah 0 n then .ok (.aR s ((h.o s).ver+1) 0 0,h.new s<|.cells aa ab t n [cs])else .error ""
 |.buildSlice t L M=>aO (gm D t) λes=>aO (jO D es.1) λz=>aO (Bb h<|M.toList.map λp=>(p.1,e p.2)) λq=>aO (bif ai (L*es.2) (2^24)then xe es.2 (kr z L) q.1 else .error "") λr=>.ok (.bh s ((q.2.o s).ver+1) 0 L,q.2.new s<|.cells ab ab es.1 es.2 r)
 |.makeMap t ae=>aO (o9 D t) λ_=>.ok (.cz s<|(h.o s).ver+1,h.new s<|.map [])
 |.makeSlice t l c=>aO (gm D t) λes=>aO (jO D es.1) λz=>aO (jK<|e l) λn=>aO (jK<|e c) λm=>aO (rW D es.1) λi=>bif ag n m&&ah n (2^30)&&ah i.bytes (2^16)then .ok (.bh s ((h.o s).ver+1) 0 n,h.new s<|.cells ab ab es.1 es.2<|kr z n)else .error ""
 |_=>.error ""
def EK(D:a_)(h:H)(t:Nat)(a x:VV):R H:=
 match a with
 |.aR s ver i o=>aO (gB h s ver) λY=>
  aO (bif Y.1 then aO (jn x) λcs=>.ok (cs,h)else rP h x) λp=>
  aO (gB p.2 s ver) λq=>
  aO (size D t) λn=>bif ag (aA p.1) n&&ah 0 n&&!q.2.1 then
   aO (ib q.2.2.2.2[i]?) λcs=>aO (zI cs o p.1) λcs=>
   .ok (p.2.mod s<|.cells q.1 ab q.2.2.1 q.2.2.2.1<|q.2.2.2.2.set i cs)
  else .error ""
 |_=>.error ""
def oz(v:VV)(D:a_)(t:Nat)(k:AV):List (AV×VV)->R (List<|AV×VV)
 |[]=>.ok [(k,v)]
 |(e,w)::es=>aO (bX D 10 t k e) λr=>bif r then(bif cU e k then .ok ((e,v)::es)else .error "")else aO (oz v D t k es) λes=>.ok<|(e,w)::es
def BB(D:a_)(h:H)(t:Nat)(m k v:VV):R H:=
 match m with
 |.cz s ver=>aO (o9 D t) λi=>aO (o7 h m) λes=>aO (ib<|hc k) λk=>aO (bX D 10 i.1 k k) λr=>bif r&&tq k then
   match v with
   |.aN w=>bif lL w&&uw w then aO (oz (.aN w) D i.1 k es) λes=>.ok (h.mod s<|.map es)else .error ""
   |_=>.error ""
  else .error ""
 |_=>.error ""
def fW(sz:Nat):List (List VV)->Bool
 |[]=>aa
 |c::_=>ag (aA c) sz
def lZ(D:a_)(B v:Nat):R (Nat×Nat):=aO (gm D B) λes=>aO (rW D es.1) λi=>aO (cP D v) λY=>aO (zeroCells D es.1) λ_=>bif ah 0 i.bytes&&ah i.bytes (2^14)&&!vH Y then .ok es else .error ""
def yL(a b:Bool):Bool:=bif a then b else !b
def kF(h:H):VV->R (Bool×List (List VV))
 |.nil=>.ok (ab,[])
 |.emp _=>.ok (ab,[])
 |.fz es=>.ok (ab,es)
 |.bh s ver o L=>aO (gB h s ver) λq=>bif ai (o+L) (aA q.2.2.2.2)then .ok (q.1,(q.2.2.2.2.drop o).take L)else .error ""
 |_=>.error ""
def kR(D:a_)(h:H)(B v:Nat)(s x:VV)(d:Nat):R (VV×H):=
 aO (lZ D B v) λO=>aO (kF h x) λnew=>bif fW O.2 new.2&&ah (aA new.2) (2^30)then
 (match s with
 |.nil=>match new.2 with
   |[]=>.ok (.nil,h)
   |_=>.ok (.bh d ((h.o d).ver+1) 0<|aA new.2,h.new d<|.cells new.1 ab O.1 O.2 new.2)
 |.emp sz=>bif ag sz O.2 then(match new.2 with
   |[]=>.ok (.emp sz,h)
   |_=>.ok (.bh d ((h.o d).ver+1) 0<|aA new.2,h.new d<|.cells new.1 ab O.1 O.2 new.2))else .error ""
 |.bh s ver 0 L=>aO (gB h s ver) λq=>
  bif ah (L+aA new.2) (2^30)&&yL q.1 new.1&&!q.2.1&&ag q.2.2.1 O.1&&ag q.2.2.2.1 O.2&&ag L (aA q.2.2.2.2)then
   .ok (.bh s ((h.o s).ver+1) 0<|L+aA new.2,h.new s<|.cells new.1 ab O.1 O.2<|q.2.2.2.2++new.2)
  else .error ""
 |_=>.error "")
 else .error ""
def zr(es:List<|List VV)(o:Nat)(new:List<|List VV):List (List VV):=es.take o++(new++es.drop (o+aA new))
def om(a b:Nat):Nat:=bif ai a b then a else b
def wY(D:a_)(h:H)(t:Nat)(d x:VV):R (VV×H):=
 aO (gm D t) λe=>aO (kF h x) λn=>match d with
 |.bh s ver o L=>aO (gB h s ver) λq=>
  bif !n.1&&!q.1&&!q.2.1&&ag q.2.2.2.1 e.2&&fW e.2 n.2&&ah 0 L&&ah 0 (aA n.2)then
   .ok (.aN<|.int .i64<|om (aA n.2) L,h.mod s<|.cells ab ab q.2.2.1 q.2.2.2.1<|zr q.2.2.2.2 o<|n.2.take<|om (aA n.2) L)
  else .error ""
 |_=>.error ""
structure VC where
 z:Nat->List VV->cV->List (List VV)->R (VV×List (List VV))
 i:Nat->Nat->List VV->cV->H->R (VV×H)
 y:cV
structure VT where
 D:a_
 inl:Nat->Bool
 gk:Nat->Nat->List Nat
 la:Nat->Option (List VV->R VV)
 nv:Nat->Option (Nat->List VV->H->R (VV×H))
 km:Nat->Bool
 xa:Nat->Bool
 h5:Nat->Nat
 fL:Nat->Option (Nat×List Nat):=λ_=>ae
inductive Vo where
 |bI (T:Vg) (h:H)
 |exit (id:Nat) (T:Vg) (h:H)
 |ret (T:Vg) (h:H)
section
variable(P:VT)(c:VC)(aN:Nat)
def zm:List VV->Bool
 |[]=>aa
 |.yield::_=>ab
 |_::l=>zm l
def vT:cV:=λ_=>.error ""
def Fa(f:Nat)(args:List VV)(h:H):R (VV×H):=
 aO (d_ (nt h) args) λp=>bif zm p.1 then aO (c.z f p.1 vT h.y) λq=>.ok (q.1,⟨(bif wc q.1 then h else cp h p.2).o,q.2⟩)
  else aO (c.z f p.1 c.y h.y) λq=>.ok (q.1,⟨(cp h p.2).o,q.2⟩)
def Kj(d:Option Tmp)(f:Nat)(args:List VV)(h:H):R (VV×H):=bif P.inl f then c.i f (aN*1000+d.getD 998+1) args c.y h else Fa c f args h
def E9(args:List VV)(h:H):R (VV×H):=aO (d_ (cq h e8) args) λp=>aO (c.y<|h.y++[p.1]) λb=>.ok (.aN<|.bool b,⟨(cp h p.2).o,h.y++[p.1]⟩)
def yD(d:Option Tmp)(f:VV)(args:List VV)(h:H):R (VV×H):=
 match f with
 |.func f first cap=>Kj P c aN d f (first++args++cap) h
 |.yield=>E9 c args h
 |_=>.error ""
def nq(s:Nat)(h:H):Nat:=s+1000000000*((h.o s).ver+1)
def l6(s:Nat)(h:H):H:=h.cu s ⟨(h.o s).ver+1,0,.none⟩
def Ws(h:H)(e:Operand->VV)(l:Op)(s:Nat):R (VV×H):=
 match l with
 |.buildSlice t n O=>match n,O.toList with
  |1,[(0,x)]=>aO (gm P.D t) λes=>aO (jO P.D es.1) λ_=>aO (jn<|e x) λcs=>bif ag (aA cs) es.2&&ai es.2 16777216 then .ok (.bh s ((h.o s).ver+1) 0 1,h.new s<|.cells aa ab es.1 es.2 [cs])else .error ""
  |_,_=>.error ""
 |.makeMap t ae=>aO (h_ P.D h e (.makeMap t ae)<|nq s h) λp=>.ok (p.1,l6 s p.2)
 |_=>.error ""
def R6(h:H)(e:Operand->VV)(l:Op)(s:Nat):R (VV×H):=aO (h_ P.D h e l<|nq s h) λp=>.ok (p.1,l6 s p.2)
def te(h:H)(e:Operand->VV)(l:Op)(s:Nat):R (VV×H):=bif P.km s then(bif P.xa s then R6 P h e l s else Ws P h e l s)else h_ P.D h e l s
def An(h:H)(t u:Nat)(x y:VV)(s:Nat):R (VV×H):=bif P.km s then aO (kR P.D h t u x y<|nq s h) λp=>.ok (p.1,l6 s p.2)else kR P.D h t u x y s
def CD(T:Vg)(h:H)(d:Option Tmp)(A:Op):R (VV×H):=
 match A with
 |.store t a x=>aO (EK P.D h t (bS T a)<|bS T x) λh=>.ok (.undef,h)
 |.mapUpdate t m k x=>aO (BB P.D h t (bS T m) (bS T k)<|bS T x) λh=>.ok (.undef,h)
 |.convert s t x=>match bS T x with
  |.aN (.string ⟨⟨l⟩⟩)=>.ok (.fz<|l.map λb=>[.aN<|.int .u8 b.toNat],h)
  |_=>.error ""
 |.call Y=>
  match Y.callee with
  |.builtin b=>
   match b,Y.argTypes.toList,Y.args.toList with
   |.append,[t,u],[s,x]=>An P h t u (bS T s) (bS T x)<|dk aN d
   |.copy,[t,_],[s,x]=>wY P.D h t (bS T s)<|bS T x
   |_,_,_=>.error ""
  |.invoke _ _=>.error ""
  |.value f=>yD P c aN d (bS T f) (Y.args.toList.map<|bS T) h
 |_=>.error ""
def ec(g:Bool)(o:Oper)(T:Vg)(h:H):R (Vg×H):=
 match jo P.D o.op with
 |.pure=>aO (bif g then pe P.D h (bS T) o.op else .ok .undef) λv=>.ok (dX T o.dst v,h)
 |.je=>aO (bif g then zz P.D h (bS T) o.op else .ok .undef) λv=>.ok (dX T o.dst v,h)
 |.alloc=>aO (bif g then te P h (bS T) o.op (dk aN o.dst)else .ok (.undef,h)) λp=>.ok (dX T o.dst p.1,p.2)
 |.cB=>aO (bif g then CD P c aN T h o.dst o.op else .ok (.undef,h)) λp=>.ok (dX T o.dst p.1,p.2)
def xg(v:VV)(k:Bool):Option Bool:=
 match v with
 |.aN (.bool b)=>ad<|bif k then b else !b
 |.undef=>ad ab
 |_=>ae
def rR(ops:List Oper)(o:Oper)(T:Vg):Option Bool:=
 match o.guard with
 |ae=>ad aa
 |ad (j,k)=>
  match(ops[j]?).bind (·.dst)with
  |ad d=>xg (T d) k
  |ae=>ae
def mv(ops:List Oper)(k:Vg->H->R Vo):List Oper->Vg->H->R Vo
 |[],T,h=>k T h
 |o::l,T,h=>
  match rR ops o T with
  |ad g=>aO (ec P c aN g o T h) λp=>mv ops k l p.1 p.2
  |ae=>.error ""
def q8(h0 h:H):VV->Bool
 |.aR s _ _ _=>ag (h0.o s).ver (h.o s).ver&&ag (h0.o s).md (h.o s).md
 |.cz s _=>ag (h0.o s).ver (h.o s).ver&&ag (h0.o s).md (h.o s).md
 |_=>aa
def xS(T:Vg):Op->VV
 |.load _ a=>bS T a
 |.lookup _ x _ _=>bS T x
 |_=>.undef
def gP(D:a_)(l:Op):Bool:=match jo D l with
 |.je=>aa
 |_=>ab
def kD(ops:List Oper)(k:Vg->H->R Vo)(h0:H):List Oper->Vg->H->R Vo
 |[],T,h=>k T h
 |o::l,T,h=>
  match rR ops o T with
  |ad g=>bif !g||!gP P.D o.op||q8 h0 h (xS T o.op)then aO (ec P c aN g o T h) λp=>kD ops k h0 l p.1 p.2 else .error ""
  |ae=>.error ""
def vZ(is:List Nat)(l:List Oper):List Oper:=match is with
 |[]=>l
 |is=>is.filterMap λi=>l[i]?
def dL(x:R Vo)(f:Vg->H->R Vo):R Vo:=
 match x with
 |.ok (.bI T h)=>f T h
 |x=>x
def cJ(id:Nat)(x:R Vo):R Vo:=
 match x with
 |.ok (.exit i T h)=>bif ag i id then .ok (.bI T h)else .ok<|.exit i T h
 |x=>x
def mg(step:Vg->H->R Vo):Nat->Vg->H->R Vo
 |0,_,_=>.error ""
 |n+1,T,h=>match step T h with
  |.ok (.bI T h)=>mg step n T h
  |r=>r
open Classical in
def nA(step:Vg->H->R Vo)(T:Vg)(h:H):R Vo:=if x:∃r n,mg step n T h=.ok r then .ok x.choose else .error ""
def lj(T:Vg)(h:H):R Vo:=.ok<|.bI T h
def BR(J:H->List VV->R Vo)(x:R Vo)(e:List VV):R Vo:=
 match x with
 |.ok (.bI _ h)=>J h e
 |.ok _=>.error ""
 |x=>x
def ph(J:H->List VV->R Vo)(T:Vg)(h:H)(l:List<|List VV):R Vo:=l.foldl (BR J)<|.ok<|.bI T h
def va(x:R Vo):R Bool:=aO x λo=>match o with
 |.bI _ _=>.ok aa
 |_=>.ok ab
def pg:List (Tmp×VV)->Vg->Vg
 |[],T=>T
 |(d,v)::l,T=>pg l<|dX T (ad d) v
def lk(T:Vg)(x:R Vo):R Vo:=
 match x with
 |.ok (.bI _ h)=>.ok<|.bI T h
 |.ok (.exit i _ h)=>.ok<|.exit i T h
 |.ok (.ret _ h)=>.ok<|.ret T h
 |x=>x
def fH(T:Vg)(O:List Tmp)(a b:Vg->H->R Vo)(h:H)(e:List VV):R Vo:=
 bif ag (aA O) (aA e)then
  match a (pg (O.zip e) T) h with
  |.ok (.bI T1 h1)=>lk T<|b T1 h1
  |.ok _=>.error ""
  |x=>x
 else .error ""
def lH(c:VC)(f:VV)(T:Vg)(h:H)(J:H->List VV->R Vo):R Vo:=
 match f with
 |.func g first cap=>aO (d_ (cq h e8) first) λp=>aO (d_ (cq h e8) cap) λq=>aO (c.z g (p.1++.yield::q.1) (λl=>va<|ph J T (cp h<|p.2++q.2) l) []) λr=>ph J T (cp h<|p.2++q.2) r.2
 |_=>.error ""
def BY:List Oper->Bool
 |[]=>ab
 |o::_=>match o.op with
  |.slice _ (.tmp _) ae ae ae=>aa
  |_=>ab
def HX(T:Vg)(h:H):List Oper->H
 |[]=>h
 |o::_=>match o.op with
  |.slice _ x ae ae ae=>match bS T x with
   |.aR s _ _ _=>fM h s
   |_=>h
  |_=>h
def zw(T:Vg)(h:H)(l:List Oper):H:=bif BY l then HX T h l else h
def cv(l:Nat->List Nat):Code->Vg->H->R Vo
 |.skip,T,h=>.ok<|.bI T h
 |.label _,T,h=>.ok<|.bI T h
 |.ret,T,h=>.ok<|.ret T h
 |.exit id,T,h=>.ok<|.exit id T h
 |.seq a b,T,h=>dL (cv l a T h)<|cv l b
 |.cond v a b,T,h=>wX (bS T v) (cv l a T h)<|cv l b T h
 |.block id b,T,h=>cJ id<|cv l b T h
 |.loop b,T,h=>nA (cv l b) T h
 |.scope b,T,h=>cv l b T h
 |.rangeFunc f O a b,T,h=>lH c (bS T f) T h<|fH T O.toList (cv l a)<|cv l b
 |.region id ops U,T,h=>bif U then kD P c aN ops.toList lj h (vZ (l id) ops.toList) T h else mv P c aN ops.toList lj ops.toList T<|zw T h ops.toList
 |_,_,_=>.error ""
def lK(h:H)(T:Vg):List ResultVar->R (List VV)
 |[]=>.ok []
 |.tmp t::l=>bif et (T t)then aO (lK h T l) λr=>.ok (T t::r)else .error ""
 |.cell a t::l=>aO (qe P.D t) λq=>aO (oT h<|T a) λp=>aO (gg q p.1 p.2) λv=>aO (lK h T l) λr=>.ok<|v::r
def pc(q:List VV):VV:=match q with
 |[v]=>v
 |q=>.bn q
def ki(rs:List ResultVar)(x:R Vo):R (VV×H):=
 match x with
 |.ok (.bI T h)=>aO (lK P h T rs) λq=>.ok (pc q,h)
 |.ok (.ret T h)=>aO (lK P h T rs) λq=>.ok (pc q,h)
 |.ok (.exit _ _ _)=>.error ""
 |.error e=>.error e
end
def DG(D:a_)(l:Op):Bool:=match jo D l with
 |.cB=>aa
 |_=>ab
def G_(D:a_)(ops:List Oper):List cM->Nat->Bool
 |[],_=>aa
 |it::p,a=>(match ops[it.i]? with
  |ad o=>(it.cB==DG D o.op)&&ai it.lo a&&G_ D ops p (bif it.cB then a+1 else a)
  |ae=>ab)
def AY:List Nat->List Nat->Bool
 |[],[]=>aa
 |a::l,b::r=>ag a b&&AY l r
 |_,_=>ab
def B7:Nat->Nat->List Nat
 |_,0=>[]
 |i,n+1=>i::B7 (i+1) n
def xT(D:a_)(is:List Nat)(l:List Oper):Bool:=vp l.toArray (D.cut l.toArray)&&(ai l.toArray.size (D.cut l.toArray)||ag l.toArray.size (Nat.succ<|D.cut l.toArray)&&rG l.toArray (D.cut l.toArray) 0 (D.cut l.toArray))&&G_ D l (sd l.toArray<|D.cut l.toArray) 0&&
 AY ((sd l.toArray<|D.cut l.toArray).map (·.i)++bif ai l.toArray.size (D.cut l.toArray)then[]else[D.cut l.toArray]) (match is with
  |[]=>B7 0<|aA l
  |is=>is)
def D_(t:Nat):List Nat->Bool
 |[]=>ab
 |x::l=>ag t x||D_ t l
def tX(D:List Nat):Operand->Bool
 |.tmp t=>!D_ t D
 |.const _=>aa
 |_=>ab
def qN(D:List Nat):Op->Bool
 |.move x=>tX D x
 |.assign x=>tX D x
 |.nilCheck x=>tX D x
 |.fieldAddr _ x _=>tX D x
 |.indexAddr _ x _=>tX D x
 |.load _ x=>tX D x
 |_=>ab
def Nb(D:List Nat):Op->Bool
 |.load _ x=>tX D x
 |.lookup _ x _ _=>tX D x
 |.convert _ _ _=>aa
 |_=>ab
def wa(D:a_):List Nat->List Oper->Bool
 |_,[]=>aa
 |A,o::l=>
  (!gP D o.op||Nb A o.op)&&
  wa D (bif qN A o.op then A else match o.dst with
   |ad d=>d::A
   |ae=>A) l
def Db(N:Nat):List Oper->Bool
 |[]=>aa
 |o::l=>(match o.dst with|ad d=>ah d N&&ah d 998|ae=>aa)&&Db N l
def nn(D:a_)(N:Nat)(l:Nat->List Nat):Code->Bool
 |.skip|.label _|.ret|.exit _=>aa
 |.seq a b=>nn D N l a&&nn D N l b
 |.cond _ a b=>nn D N l a&&nn D N l b
 |.block _ b|.loop b|.scope b=>nn D N l b
 |.rangeFunc _ O a b=>O.toList.all (λd=>ah d N)&&nn D N l a&&nn D N l b
 |.region id ops U=>Db N ops.toList&&(!U||xT D (l id) ops.toList&&wa D [] (vZ (l id) ops.toList))
 |_=>ab
def hK(D:a_)(f:Nat):Bool:=match sM D f []with
 |.ok (.enter _ _)=>aa
 |_=>ab
def jf(P:VT)(c:VC)(aN f:Nat)(args:List VV)(h:H):R (VV×H):=
 match P.D.func f with
 |ad fn=>match fn.body with
  |ad code=>bif nn P.D fn.ntmps (P.gk f) code&&ai (aA args) fn.ntmps&&hK P.D f&&!P.D.pure f then ki P fn.results.toList (cv P c aN (P.gk f) code (gK args) h)else .error ""
  |ae=>.error ""
 |ae=>.error ""
def zp(n:Nat):List VV->Bool
 |[.agg xs]=>ag (aA xs) n
 |_=>ab
def DE:VV->Option Int
 |.aN (.int .i64 n)=>ad n
 |_=>ae
def nk(z:Nat->List VV->cV->List (List VV)->R (VV×List (List VV)))(I:List VV)(a:cV):List Nat->List (List VV)->R (VV×List (List VV))
 |[],y=>.ok (.aN<|.int .i64 0,y)
 |g::gs,y=>aO (z g I a y) λp=>match DE p.1 with
  |ad n=>bif n==0 then nk z I a gs p.2 else .ok p
  |ae=>.error ""
def wq(P:VT)(c:VC):VC where
 z:=λf I a y=>match P.la f with
  |ad g=>aO (g I) λr=>.ok (r,y)
  |ae=>match P.fL f with
   |ad g=>bif zp g.1 I then nk c.z I a g.2 y else .error ""
   |ae=>aO (jf P {c with y:=a} (P.h5 f) f I<|.empty y) λp=>aO (cq p.2 e8 p.1) λq=>.ok (q.1,p.2.y)
 i:=λf aN a y h=>match P.nv f with
  |ad g=>g aN a h
  |ae=>jf P {c with y:=y} aN f a h
 y:=c.y
def iz(P:VT):Nat->VC
 |0=>⟨λ_ _ _ _=>.error "",λ_ _ _ _ _=>.error "",λ_=>.error ""⟩
 |n+1=>wq P<|iz P n
def iS(σ:St)(F:Nat->Prop):AV->Prop
 |.aN (.slice _ n c)=>n=0/\ c=0
 |.ik b _ _ _=>b<σ.n
 |.slice b _ j _ _=>j=0/\ b<σ.n/\ F b/\ ∃l e v sz,σ.a7 b=.cells l e v sz
 |_=>False
section
variable(σ:St)(F:Nat->Prop)(L:Nat)
mutual
def RR(loc:VV->AV->Prop):VV->AV->Prop
 |.aN v,a=>a=.aN v/\ lL v=aa/\ uw v=aa
 |.nil,a=>loc .nil a
 |.fz es,a=>(es=[]/\ iS σ F a)\/ ∃b o j cap sz l e C A N,a=.slice b o j cap sz/\ F b/\ b<σ.n/\ σ.a7 b=.cells l e C A/\ j=aA es/\ fO l o (j*sz)=.ok N/\ 0<sz/\ (∀c,cap=ad c->j<=c)/\ RE (λ_ _=>False) sz es N
 |.bh s ver o j,a=>loc (.bh s ver o j) a
 |.aR s ver i o,a=>loc (.aR s ver i o) a
 |.bA cs o,a=>∃b k l e C sz,a=.aR b (k+o)/\ F b/\ b<σ.n/\ σ.a7 b=.cells l e C sz/\ k+aA cs<=aA l/\ ((l.drop k).take<|aA cs).all cT=aa/\ RL (λ_ _=>False) cs ((l.drop k).take<|aA cs)
 |.agg cs,a=>∃l,a=.agg l/\ l.all cT=aa/\ RL loc cs l
 |.bn cs,a=>∃l,a=.tuple l/\ kf l l=aa/\ RL loc cs l
 |.func f p q,a=>∃l r,a=.func (.func f) l r/\ (kf l l=aa/\ kf r r=aa)/\ RL loc p l/\ RL loc q r
 |.cz s ver,a=>loc (.cz s ver) a
 |.yield,a=>a=.yield L/\ L<σ.n/\ loc .undef AV.undef
 |.undef,a=>loc .undef a
 |.kT,a=>loc .kT a
 |.emp sz,a=>(∃p,a=.aN (.slice p 0 0))\/ ∃b l e C A,a=.slice b 0 0 (ad 0) sz/\ F b/\ b<σ.n/\ σ.a7 b=.cells l e C A
def RL(loc:VV->AV->Prop):List VV->List AV->Prop
 |[],l=>l=[]
 |v::q,l=>∃a r,l=a::r/\ RR loc v a/\ RL loc q r
def RE(loc:VV->AV->Prop)(sz:Nat):List (List VV)->List AV->Prop
 |[],l=>l=[]
 |cs::es,l=>∃p r,l=p++r/\ aA p=sz/\ aA cs=sz/\ p.all cT=aa/\ RL loc cs p/\ RE loc sz es r
end
end
def LU(v:VV)(a:AV):Prop:=v=.undef/\ a=AV.undef
theorem RL.len{σ:St}{F:aE}{L:Nat}{loc:VV->AV->Prop}:∀{q:aC} {l:aD},RL σ F L loc q l->aA l=aA q
 |[],l,h=>by simp only[RL]at h;subst h;rfl
 |v::q,l,h=>by simp only[RL]at h;obtain⟨a,r,rfl,_,h⟩:=h;simp[RL.len h]
theorem RE.len{σ:St}{F:aE}{L:Nat}{loc:VV->AV->Prop}{sz:Nat}:∀{es:aB} {l:aD},RE σ F L loc sz es l->aA l=aA es*sz
 |[],l,h=>by simp only[RE]at h;subst h;simp
 |v::q,l,h=>by simp only[RE]at h;obtain⟨p,r,rfl,V,_,_,_,h⟩:=h;simp[RE.len h,V,lU,nQ]
section
variable{σ:St}{F:Nat->Prop}{L L':Nat}
mutual
theorem RR.nT:∀(v:VV) (a:AV),RR σ F L (λ_ _=>False) v a->RR σ F L' (λ_ _=>False) v a
 |.aN v,a,h=>auL
 |.nil,a,h=>auL
 |.fz X,a,h=>by
  simp only[RR]at h|-
  rcases h with h|⟨b,o,D,I,B,l,e,C,A,N,V,j,d,n,Z,Y,c,Q,M⟩
  exact .inl h;exact .inr ⟨b,o,D,I,B,l,e,C,A,N,V,j,d,n,Z,Y,c,Q,RE.nT B X N M⟩
 |.bh s u o D,a,h=>auL
 |.aR s u i o,a,h=>auL
 |.bA O o,a,h=>by simp only[RR]at h|-;have⟨b,k,l,e,C,B,V,j,d,n,Z,Y,c⟩:=h;exact⟨b,k,l,e,C,B,V,j,d,n,Z,Y,RL.nT O _ c⟩
 |.agg O,a,h=>avL
 |.bn O,a,h=>avL
 |.func f p q,a,h=>by simp only[RR]at h|-;have⟨l,r,V,x,j,d⟩:=h;exact⟨l,r,V,x,RL.nT p l j,RL.nT q r d⟩
 |.cz s u,a,h=>auL
 |.yield,a,h=>by simp only[RR]at h;exact h.2.2.elim
 |.undef,a,h=>auL
 |.kT,a,h=>auL
 |.emp B,a,h=>auL
theorem RL.nT:∀(q:aC) (l:aD),RL σ F L (λ_ _=>False) q l->RL σ F L' (λ_ _=>False) q l
 |[],l,h=>aw6
 |v::q,l,h=>by simp only[RL]at h|-;have⟨a,r,V,p,d⟩:=h;exact⟨a,r,V,RR.nT v a p,RL.nT q r d⟩
theorem RE.nT(sz:Nat):∀(es:aB) (l:aD),RE σ F L (λ_ _=>False) sz es l->RE σ F L' (λ_ _=>False) sz es l
 |[],l,h=>by simpa only[RE]using h
 |cs::es,l,h=>by simp only[RE]at h|-;have⟨p,r,V,a,d,A,Z,Y⟩:=h;exact⟨p,r,V,a,d,A,RL.nT cs p Z,RE.nT sz es r Y⟩
end
end
theorem iS.mono{σ σ':St}{F F':aE}(hn:σ.n<=σ'.n)(hF:∀b,b<σ.n->F b->F' b/\ b<σ'.n/\ σ'.a7 b=σ.a7 b):∀{a:AV},iS σ F a->iS σ' F' a
 |.aN v,h=>by
  unfold iS at h|-
  grind
 |.slice b o j I r,h=>by have⟨Q,V,p,d⟩:=h;have⟨C,w,D⟩:=hF b V p;exact⟨Q,w,C,by rw[D];exact d⟩
 |.ik _ _ _ _,h=>dc h hn
 |.aR _ _,h=>h.elim
 |.cz _,h=>h.elim
 |.func _ _ _,h=>h.elim
 |.yield _,h=>h.elim
 |.iface _ _,h=>h.elim
 |.agg _,h=>h.elim
 |.tuple _,h=>h.elim
section
variable{σ σ':St}{F F':Nat->Prop}{L:Nat}(hn:σ.n<=σ'.n)(hF:∀b,b<σ.n->F b->F' b/\ b<σ'.n/\ σ'.a7 b=σ.a7 b)
include hn hF
mutual
theorem RR.mono{loc loc':VV->AV->Prop}(P:∀v a,loc v a->loc' v a):∀(v:VV) (a:AV),RR σ F L loc v a->RR σ' F' L loc' v a
 |.aN v,a,h=>auL
 |.nil,a,h=>at7
 |.fz X,a,h=>by
  simp only[RR]at h|-
  rcases h with⟨V,j⟩|⟨b,o,D,I,B,l,e,C,A,N,V,j,d,n,Z,Y,c,Q,M⟩
  exact .inl ⟨V,j.mono hn hF⟩;have⟨T,w,S⟩:=hF b d j;exact .inr ⟨b,o,D,I,B,l,e,C,A,N,V,T,w,by rw[S];exact n,Z,Y,c,Q,RE.mono (λ_ _ h=>h) B X N M⟩
 |.bh s u o D,a,h=>at7
 |.aR s u i o,a,h=>at7
 |.bA O o,a,h=>by simp only[RR]at h|-;have⟨b,k,l,e,C,B,V,j,d,n,Z,Y,c⟩:=h;have⟨T,w,S⟩:=hF b d j;exact⟨b,k,l,e,C,B,V,T,w,by rw[S];exact n,Z,Y,RL.mono (λ_ _ h=>h) O _ c⟩
 |.agg O,a,h=>avE
 |.bn O,a,h=>avE
 |.func f p q,a,h=>by simp only[RR]at h|-;have⟨l,r,V,x,j,d⟩:=h;exact⟨l,r,V,x,RL.mono P p l j,RL.mono P q r d⟩
 |.cz s u,a,h=>at7
 |.yield,a,h=>awo
 |.undef,a,h=>at7
 |.kT,a,h=>at7
 |.emp B,a,h=>by
  simp only[RR]at h|-
  grind
theorem RL.mono{loc loc':VV->AV->Prop}(P:∀v a,loc v a->loc' v a):∀(q:aC) (l:aD),RL σ F L loc q l->RL σ' F' L loc' q l
 |[],l,h=>aw6
 |v::q,l,h=>by simp only[RL]at h|-;have⟨a,r,V,p,d⟩:=h;exact⟨a,r,V,RR.mono P v a p,RL.mono P q r d⟩
theorem RE.mono{loc loc':VV->AV->Prop}(P:∀v a,loc v a->loc' v a)(sz:Nat):∀(es:aB) (l:aD),RE σ F L loc sz es l->RE σ' F' L loc' sz es l
 |[],l,h=>by simpa only[RE]using h
 |cs::es,l,h=>by simp only[RE]at h|-;have⟨p,r,V,j,d,A,Z,Y⟩:=h;exact⟨p,r,V,j,d,A,RL.mono P cs p Z,RE.mono P sz es r Y⟩
end
end
mutual
theorem tN{n m:Nat}(hn:n<=m):∀v,de n v=aa->de m v=aa
 |.aN _,_=>rfl
 |.aR b _,h=>auY
 |.slice b _ _ _ _,h=>auY
 |.ik b _ _ _,h=>auY
 |.cz b,h=>auY
 |.func _ a c,h=>by simp only[de,bW]at h|-;exact⟨wR hn a h.1,wR hn c h.2⟩
 |.yield b,h=>auY
 |.iface _ v,h=>by simp only[de]at h|-;exact tN hn v h
 |.agg V,h=>by simp only[de]at h|-;exact wR hn V h
 |.tuple V,h=>by simp only[de]at h|-;exact wR hn V h
theorem wR{n m:Nat}(hn:n<=m):∀v,cD n v=aa->cD m v=aa
 |[],_=>rfl
 |v::l,h=>by simp only[cD,bW]at h|-;exact⟨tN hn v h.1,wR hn l h.2⟩
end
section
variable{σ:St}{F:Nat->Prop}{L:Nat}
mutual
theorem RR.dI{loc:VV->AV->Prop}(P:∀v a,loc v a->de σ.n a=aa):∀(v:VV) (a:AV),RR σ F L loc v a->de σ.n a=aa
 |.aN v,a,h=>by simp only[RR]at h;rw[h.1];rfl
 |.nil,a,h=>auX
 |.fz X,a,h=>by
  simp only[RR]at h
  rcases h with⟨_,j⟩|⟨b,o,I,U,B,l,e,C,A,N,rfl,j,d,_⟩
  cases a<;>simp only[iS]at j<;>try(exact j.elim)
  rfl;exact avn;exact avn;exact avn
 |.bh s D o I,a,h=>auX
 |.aR s D i o,a,h=>auX
 |.bA V o,a,h=>by simp only[RR]at h;obtain⟨b,k,l,e,C,B,rfl,j,d,_⟩:=h;exact avn
 |.agg V,a,h=>by simp only[RR]at h;obtain⟨l,rfl,j,d⟩:=h;simp only[de];exact RL.dI P V l d
 |.bn V,a,h=>by simp only[RR]at h;obtain⟨l,rfl,_,d⟩:=h;simp only[de];exact RL.dI P V l d
 |.func f p q,a,h=>by simp only[RR]at h;obtain⟨l,r,rfl,_,j,d⟩:=h;simp only[de,bW];exact⟨RL.dI P p l j,RL.dI P q r d⟩
 |.cz s D,a,h=>auX
 |.yield,a,h=>by simp only[RR]at h;rw[h.1];simp only[de,ah,dh];exact h.2.1
 |.undef,a,h=>auX
 |.kT,a,h=>auX
 |.emp B,a,h=>by
  simp only[RR]at h
  rcases h with⟨p,rfl⟩|⟨b,l,e,C,A,rfl,j,d,n⟩
  rfl;exact avn
theorem RL.dI{loc:VV->AV->Prop}(P:∀v a,loc v a->de σ.n a=aa):∀(q:aC) (l:aD),RL σ F L loc q l->cD σ.n l=aa
 |[],l,h=>by simp only[RL]at h;subst h;rfl
 |v::q,l,h=>by simp only[RL]at h;obtain⟨a,r,rfl,p,d⟩:=h;simp only[cD,bW];exact⟨RR.dI P v a p,RL.dI P q r d⟩
end
end
structure cI where
 D:a_
 n0:Nat
 L:Nat
 iN:cV
 dO:List (List VV)->(Nat->Prop)->(Nat->Prop)->St->Prop
 jN:∀y X K K' σ σ',dO y X K σ->σ.n<=σ'.n->aA σ'.l=σ'.n->(∀b,b<σ.n->(b<n0\/ X b\/ K b)->σ'.a7 b=σ.a7 b)->σ'.M=σ.M->(∀b,K b->K' b)->dO y X K' σ'
 tC:∀(y:List<|List VV) (X K:Nat->Prop) σ args gp b,dO y X K σ->aA σ.l=σ.n->(∀b,X b->b<σ.n)->(∀b,K b->b<σ.n/\ ¬X b)->RL σ K L (λ_ _=>False) args gp->iN (y++[args])=.ok b->
  ∃σ' X',fI D L gp σ=.ok (.ret<|cO b,σ')/\ dO (y++[args]) X' K σ'/\ (∀b,X b->X' b)/\ (∀b,X' b->b<σ'.n/\ (X b\/ σ.n<=b))/\
   (∀b,b<σ.n->¬X b->σ'.a7 b=σ.a7 b)/\ σ.n<=σ'.n/\ aA σ'.l=σ'.n/\ σ'.M=σ.M
def VK.ct:VK->Bool
 |.none=>ab
 |_=>aa
def VK.hV:VK->Bool
 |.cells _ fr _ _ _=>!fr
 |.map _=>aa
 |.none=>ab
def VK.rh{k:VK}(h:k.hV=aa):k.ct=aa:=by cases k<;>simp_all [VK.hV,VK.ct]
def cX(X Z:Nat->Prop)(m:Nat->Nat)(h:H)(σ:St)(b:Nat):Prop:=b<σ.n/\ ¬X b/\ ¬Z b/\ ∀s,(h.o s).k.hV=aa->m s≠b
def LC(n:Nat)(m:Nat->Nat)(h:H):VV->AV->Prop
 |.nil,a=>a=.aN (.slice ae 0 0)
 |.bh s ver o L,a=>(ver<(h.o s).ver/\ cT a=aa/\ de n a=aa)\/ (ver=(h.o s).ver/\ ∃C fr e sz es,(h.o s).k=.cells C fr e sz es/\ o+L<=aA es/\
   ((L=0/\ 0<o/\ ((∃p l z,a=.ik (m s) p l z)\/ ∃p cap,a=.slice (m s) p 0 cap sz))\/ ∃cap,a=.slice (m s) (o*sz) L cap sz/\ ∀c,cap=ad c->o+c<=aA es/\ L<=c))
 |.aR s ver i o,a=>(ver<(h.o s).ver/\ cT a=aa/\ de n a=aa)\/ (ver=(h.o s).ver/\ ∃C fr e sz es,(h.o s).k=.cells C fr e sz es/\ i<aA es/\ a=.aR (m s) (i*sz+o))
 |.cz s ver,a=>(ver<(h.o s).ver/\ cT a=aa/\ de n a=aa)\/ (ver=(h.o s).ver/\ ∃l,(h.o s).k=.map l/\ a=.cz (m s))
 |.undef,a=>a=AV.undef
 |.kT,a=>de n a=aa
 |_,_=>False
def MR:List (AV×VV)->List (AV×AV×Nat)->Prop
 |[],es=>es=[]
 |(k,v)::l,es=>∃w c r,es=(k,.aN w,c)::r/\ v=.aN w/\ lL w=aa/\ uw w=aa/\ MR l r
def wz(es:List<|AV×AV×Nat)(c:Nat):Prop:=(es.map (·.2.2)).Nodup/\ ∀x∈es,x.2.2<c
def OR(σ:St)(F:Nat->Prop)(L:Nat)(loc:VV->AV->Prop):VK->AO->Prop
 |.cells C fr e sz es,o=>∃l v,o=.cells l e v sz/\ (fr=ab->v=aa)/\ 0<sz/\ RE σ F L (if C then loc else λ_ _=>False) sz es l
 |.map l,o=>∃es c,o=.map es c/\ MR l es/\ wz es c
 |.none,_=>True
def GL(D:a_)(F:Nat->Prop)(σ:St):Prop:=D.vy≠[]->0<D.gx/\ F 0/\ ∃e v,σ.a7 0=.cells (D.vy.map λs=>.aN<|.string ⟨⟨s⟩⟩) e v 1
def GL.mono{D:a_}{F r:aE}{σ σ':St}(h:GL D F σ)(k:∀b,F b->r b/\ σ'.a7 b=σ.a7 b):GL D r σ':=λn=>by have⟨V,a,e,v,d⟩:=h n;exact at6
structure SR(E:cI)(X Z:Nat->Prop)(m:Nat->Nat)(h:H)(σ:St):Prop where
 wf:aA σ.l=σ.n
 ng:E.D.gx<=σ.n
 n0:E.n0<=σ.n
 dO:E.dO h.y X (cX X Z m h σ) σ
 xb:∀b,X b->b<σ.n
 zb:∀b,Z b->E.n0<=b/\ b<σ.n/\ ¬X b
 ct:∀s,(h.o s).k.ct=aa->E.n0<=m s/\ m s<σ.n/\ ¬X (m s)/\ ¬Z (m s)/\ OR σ (cX X Z m h σ) E.L (LC σ.n m h) (h.o s).k (σ.a7<|m s)
 inj:∀s s',(h.o s).k.hV=aa->(h.o s').k.ct=aa->m s=m s'->s=s'
 gl:GL E.D (cX X Z m h σ) σ
abbrev RV(E:cI)(X Z:Nat->Prop)(m:Nat->Nat)(h:H)(σ:St):VV->AV->Prop:=RR σ (cX X Z m h σ) E.L<|LC σ.n m h
abbrev fl(E:cI)(X Z:Nat->Prop)(m:Nat->Nat)(h:H)(σ:St):List VV->List AV->Prop:=RL σ (cX X Z m h σ) E.L<|LC σ.n m h
abbrev RF(E:cI)(X Z:Nat->Prop)(m:Nat->Nat)(h:H)(σ:St):VV->AV->Prop:=RR σ (cX X Z m h σ) E.L λ_ _=>False
abbrev rB(E:cI)(X Z:Nat->Prop)(m:Nat->Nat)(h:H)(σ:St):List VV->List AV->Prop:=RL σ (cX X Z m h σ) E.L λ_ _=>False
def mu:VK->VK->Prop
 |.none,.none=>True
 |.cells C _ e sz es,.cells z _ B A v=>C=z/\ e=B/\ sz=A/\ aA es=aA v
 |.map _,.map _=>True
 |_,_=>False
def sP:VK->VK->Prop
 |.none,.none=>True
 |.cells _ _ _ _ es,.cells _ _ _ _ v=>es=v
 |.map l,.map N=>l=N
 |_,_=>False
def mu.refl(k:VK):mu k k:=by cases k<;>simp[mu]
def sP.refl(k:VK):sP k k:=by cases k<;>simp[sP]
def mu.trans{a b c:VK}(h:mu a b)(k:mu b c):mu a c:=by cases a<;>cases b<;>cases c<;>simp_all [mu]
def sP.trans{a b c:VK}(h:sP a b)(k:sP b c):sP a c:=by cases a<;>cases b<;>cases c<;>simp_all [sP]
def mu.ct{a b:VK}(h:mu a b)(l:a.ct=aa):b.ct=aa:=by cases a<;>cases b<;>simp_all [mu,VK.ct]
def mu.none{b:VK}(h:mu .none b):b=.none:=by cases b<;>simp_all [mu]
structure Ah(m:Nat->Nat)(h:H)(σ:St)(m':Nat->Nat)(h':H)(σ':St)(s:Nat):Prop where
 ver:(h'.o s).ver=(h.o s).ver
 mm:m' s=m s\/ (h.o s).k=.none
 k:mu (h.o s).k (h'.o s).k
 md:(h.o s).md<=(h'.o s).md
 eq:(h.o s).k.ct=aa->(h'.o s).md=(h.o s).md->σ'.a7 (m s)=σ.a7 (m s)/\ sP (h.o s).k (h'.o s).k
def Ah.fN{m m':Nat->Nat}{h h':H}{σ σ':St}{s:Nat}(h1:h'.o s=h.o s)(a:m' s=m s)(d:(h.o s).k.ct=aa->σ'.a7 (m s)=σ.a7 (m s)):Ah m h σ m' h' σ' s:=⟨by rw[h1],.inl a,by rw[h1];exact mu.refl _,by rw[h1];exact auS,λl _=>⟨d l,by rw[h1];exact sP.refl _⟩⟩
structure Ex(X Z:Nat->Prop)(m:Nat->Nat)(h:H)(σ:St)(X' Z':Nat->Prop)(m':Nat->Nat)(h':H)(σ':St):Prop where
 n:σ.n<=σ'.n
 b:∀s,(h.o s).k.ct=aa->m s<σ.n
 zs:∀b,Z b->Z' b/\ σ'.a7 b=σ.a7 b
 fs:∀b,cX X Z m h σ b->cX X' Z' m' h' σ' b/\ σ'.a7 b=σ.a7 b
 st:∀s,(h.o s).ver<(h'.o s).ver\/ Ah m h σ m' h' σ' s
def Ex.refl(X Z:aE)(m:Nat->Nat)(h:H)(σ:St)(e:∀s,(h.o s).k.ct=aa->m s<σ.n):Ex X Z m h σ X Z m h σ:=⟨bu _,e,λ_ z=>⟨z,aM⟩,λ_ e=>⟨e,aM⟩,λs=>.inr<|.fN aM aM λ_=>rfl⟩
def Ex.lc{X Z:aE}{m:Nat->Nat}{h:H}{σ:St}{X' Z':aE}{m':Nat->Nat}{h':H}{σ':St}(k:Ex X Z m h σ X' Z' m' h' σ'):∀(v:VV) (a:AV),LC σ.n m h v a->LC σ'.n m' h' v a:=by
 intro v a Y
 cases v with
 |nil=>exact Y
 |undef=>exact Y
 |kT=>exact tN k.n _ Y
 |aN _=>exact Y
 |fz _=>exact Y
 |bA _ _=>exact Y
 |emp _=>exact Y
 |agg _=>exact Y
 |bn _=>exact Y
 |func _ _ _=>exact Y
 |yield=>exact Y
 |bh s D o L=>
  rcases Y with⟨Y,Q,P⟩|⟨Q,C,J,e,j,t,O,M,d⟩
  exact aur
  rcases k.st s with B|⟨B,x,f,_,_⟩
  have V:=dc (k.b s<|by rw[O];rfl) k.n;have V:ah (m s) σ'.n=aa:=at2;refine .inl ⟨aW,?_⟩
  rcases d with⟨_,_,⟨p,l,z,rfl⟩|⟨p,I,rfl⟩⟩|⟨I,rfl,_⟩<;>exact⟨auq,V⟩
  right;rw[O]at f x
  cases u:(h'.o s).k with
  |none=>rw[u]at f;exact f.elim
  |map _=>rw[u]at f;exact f.elim
  |cells r y F A S=>
   rw[u]at f;obtain⟨rfl,rfl,rfl,G⟩:=f;have x:m' s=m s:=by simpa using x
   refine⟨aW,_,y,e,j,S,rfl,aW,?_⟩;rw[x,<-G];exact d
 |aR s D i o=>
  rcases Y with⟨Y,Q,P⟩|⟨Q,C,J,e,j,t,O,M,d⟩
  exact aur
  rcases k.st s with B|⟨B,x,f,_,_⟩
  have V:=dc (k.b s<|by rw[O];rfl) k.n;have V:ah (m s) σ'.n=aa:=at2;refine .inl ⟨aW,?_⟩;rw[d];exact⟨auq,V⟩;right;rw[O]at f x
  cases u:(h'.o s).k with
  |none=>rw[u]at f;exact f.elim
  |map _=>rw[u]at f;exact f.elim
  |cells r y F A S=>
   rw[u]at f;obtain⟨rfl,rfl,rfl,G⟩:=f;have x:m' s=m s:=by simpa using x
   refine⟨aW,C,y,e,j,S,rfl,aW,?_⟩;rw[x];exact d
 |cz s D=>
  rcases Y with⟨Y,Q,P⟩|⟨Q,l,O,d⟩
  exact aur
  rcases k.st s with B|⟨B,x,f,_,_⟩
  have V:=dc (k.b s<|by rw[O];rfl) k.n;have V:ah (m s) σ'.n=aa:=at2;refine .inl ⟨aW,?_⟩;rw[d];exact⟨auq,V⟩;right;rw[O]at f x
  cases u:(h'.o s).k with
  |none=>rw[u]at f;exact f.elim
  |cells _ _ _ _ _=>rw[u]at f;exact f.elim
  |map N=>
   have x:m' s=m s:=by simpa using x
   refine⟨aW,N,rfl,?_⟩;rw[x];exact d
section
variable{E:cI}{X Z X' Z':Nat->Prop}{m m':Nat->Nat}{h h':H}{σ σ':St}
def Ex.hF(k:Ex X Z m h σ X' Z' m' h' σ'):∀b,b<σ.n->cX X Z m h σ b->cX X' Z' m' h' σ' b/\ b<σ'.n/\ σ'.a7 b=σ.a7 b:=λb e j=>⟨(k.fs b j).1,dc e k.n,(k.fs b j).2⟩
def Ex.rv(k:Ex X Z m h σ X' Z' m' h' σ'){v:VV}{a:AV}(Y:RV E X Z m h σ v a):RV E X' Z' m' h' σ' v a:=RR.mono k.n k.hF k.lc v a Y
def Ex.rvl(k:Ex X Z m h σ X' Z' m' h' σ'){v:aC}{a:aD}(Y:fl E X Z m h σ v a):fl E X' Z' m' h' σ' v a:=RL.mono k.n k.hF k.lc v a Y
def Ex.rf(k:Ex X Z m h σ X' Z' m' h' σ'){v:VV}{a:AV}(Y:RF E X Z m h σ v a):RF E X' Z' m' h' σ' v a:=RR.mono k.n k.hF (λ_ _ h=>h) v a Y
def Ex.Yb(k:Ex X Z m h σ X' Z' m' h' σ'){v:aC}{a:aD}(Y:rB E X Z m h σ v a):rB E X' Z' m' h' σ' v a:=RL.mono k.n k.hF (λ_ _ h=>h) v a Y
end
section
variable{σ:St}{F:Nat->Prop}{L:Nat}{loc:VV->AV->Prop}
def RL.get:∀{q:aC} {l:aD} {i:Nat} {v:VV},RL σ F L loc q l->q[i]?=ad v->∃a,l[i]?=ad a/\ RR σ F L loc v a
 |[],_,_,_,_,h=>auu
 |w::q,l,0,v,h,G=>by
  simp only[RL]at h
  grind
 |w::q,l,i+1,v,h,G=>by simp only[RL]at h;obtain⟨a,r,rfl,V,p⟩:=h;simp only[oK]at G|-;exact RL.get p G
def RL.drop:∀{q:aC} {l:aD} (n:Nat),RL σ F L loc q l->RL σ F L loc (q.drop n) (l.drop n)
 |_,_,0,h=>h
 |[],l,n+1,h=>by simp only[RL]at h;subst h;simp[RL]
 |w::q,l,n+1,h=>by simp only[RL]at h;obtain⟨a,r,rfl,V,p⟩:=h;exact RL.drop n p
def RL.take:∀{q:aC} {l:aD} (n:Nat),RL σ F L loc q l->RL σ F L loc (q.take n) (l.take n)
 |_,_,0,h=>by simp[RL]
 |[],l,n+1,h=>by simp only[RL]at h;subst h;simp[RL]
 |w::q,l,n+1,h=>by simp only[RL]at h;obtain⟨a,r,rfl,V,p⟩:=h;simp only[j7,RL];exact⟨a,_,aM,V,RL.take n p⟩
def RL.append:∀{J s:aC} {l r:aD},RL σ F L loc J l->RL σ F L loc s r->RL σ F L loc (J++s) (l++r)
 |[],s,l,r,h,k=>by simp only[RL]at h;subst h;exact k
 |v::J,s,l,r,h,k=>by simp only[RL]at h;obtain⟨a,q,rfl,V,p⟩:=h;simp only[ck,RL];exact⟨a,_,aM,V,RL.append p k⟩
def RL.one{v:VV}{a:AV}(h:RR σ F L loc v a):RL σ F L loc [v] [a]:=by simp only[RL];exact at6
def RL.jd:RL σ F L loc [] []:=by simp only[RL]
def RL.gb{v:VV}{a:AV}{q:aC}{l:aD}(h:RR σ F L loc v a)(k:RL σ F L loc q l):RL σ F L loc (v::q) (a::l):=by
 simp only[RL]
 grind
def RL.map{f:Operand->VV}{g:Operand->AV}(h:∀x,RR σ F L loc (f x)<|g x):∀l:List Operand,RL σ F L loc (l.map f)<|l.map g
 |[]=>by simp[RL]
 |x::l=>RL.gb (h x)<|RL.map h l
def RE.jd{sz:Nat}:RE σ F L loc sz [] []:=by simp only[RE]
def RE.gb{sz:Nat}{cs:aC}{es:aB}{p r:aD}(h1:aA p=sz)(a:aA cs=sz)(d:p.all cT=aa)(A:RL σ F L loc cs p)(Z:RE σ F L loc sz es r):RE σ F L loc sz (cs::es) (p++r):=by
 simp only[RE]
 grind
def RE.one{sz:Nat}{cs:aC}{p:aD}(h1:aA p=sz)(a:aA cs=sz)(d:p.all cT=aa)(A:RL σ F L loc cs p):RE σ F L loc sz [cs] p:=by have:=RE.gb h1 a d A<|RE.jd (σ:=σ) (F:=F) (L:=L) (loc:=loc);exact at6
def RE.get{sz:Nat}:∀{es:aB} {l:aD} {i:Nat} {cs:aC},RE σ F L loc sz es l->es[i]?=ad cs->
 aA cs=sz/\ i*sz+sz<=aA l/\ RL σ F L loc cs ((l.drop<|i*sz).take sz)/\ ((l.drop<|i*sz).take sz).all cT=aa
 |[],_,_,_,_,h=>auu
 |w::q,l,0,v,h,G=>by
  simp only[RE]at h
  grind
 |w::q,l,i+1,v,h,G=>by
  simp only[RE]at h;obtain⟨p,r,rfl,V,a,d,A,Z⟩:=h;simp only[oK]at G;have⟨C,o,j⟩:=RE.get Z G;have e:(p++r).drop ((i+1)*sz)=r.drop (i*sz):=by rw[lU,nQ,<-V,zY];simp
  grind
def RE.append{sz:Nat}:∀{es D:aB} {l r:aD},RE σ F L loc sz es l->RE σ F L loc sz D r->RE σ F L loc sz (es++D) (l++r)
 |[],_,_,_,h,k=>by simp only[RE]at h;subst h;exact k
 |cs::es,D,l,r,h,k=>by simp only[RE]at h;obtain⟨p,q,rfl,V,a,d,A,Z⟩:=h;rw[eF];exact RE.gb V a d A<|RE.append Z k
def RE.drop{sz:Nat}:∀{es:aB} {l:aD} (n:Nat),RE σ F L loc sz es l->RE σ F L loc sz (es.drop n) (l.drop<|n*sz)
 |_,_,0,h=>auF
 |[],l,n+1,h=>by simp only[RE]at h;subst h;simp[RE]
 |cs::es,l,n+1,h=>by
  simp only[RE]at h;obtain⟨p,q,rfl,V,a,d,A,Z⟩:=h;have e:(p++q).drop ((n+1)*sz)=q.drop (n*sz):=by rw[lU,nQ,<-V,zY];simp
  rw[e];exact RE.drop n Z
def RE.take{sz:Nat}:∀{es:aB} {l:aD} (n:Nat),RE σ F L loc sz es l->RE σ F L loc sz (es.take n) (l.take<|n*sz)
 |_,_,0,h=>by simp[RE]
 |[],l,n+1,h=>by simp only[RE]at h;subst h;simp[RE]
 |cs::es,l,n+1,h=>by
  simp only[RE]at h;obtain⟨p,q,rfl,V,a,d,A,Z⟩:=h;have e:(p++q).take ((n+1)*sz)=p++q.take (n*sz):=by rw[lU,nQ,<-V,Pf,eM<|Pk _ _];simp
  rw[e];exact RE.gb V a d A<|RE.take n Z
def RE.all{sz:Nat}:∀{es:aB} {l:aD},RE σ F L loc sz es l->l.all cT=aa
 |[],l,h=>by simp only[RE]at h;subst h;rfl
 |cs::es,l,h=>by simp only[RE]at h;obtain⟨p,q,rfl,V,a,d,A,Z⟩:=h;rw[Fq,d,RE.all Z];rfl
def RE.set{sz:Nat}:∀{es:aB} {l:aD} {i:Nat} {cs:aC} {p:aD},RE σ F L loc sz es l->i<aA es->aA cs=sz->aA p=sz->p.all cT=aa->RL σ F L loc cs p->
 RE σ F L loc sz (es.set i cs) (l.take (i*sz)++(p++l.drop (i*sz+sz)))
 |[],_,_,_,_,_,h,_,_,_,_=>auu
 |c::es,l,0,cs,p,h,G,C,w,j,O=>by simp only[RE]at h;obtain⟨q,r,rfl,V,a,d,A,Z⟩:=h;simp only[Pe,kb,i',b7,bZ];rw[<-V,Jf,V];exact RE.gb w C j O Z;rfl
 |c::es,l,i+1,cs,p,h,G,C,w,j,O=>by
  simp only[RE]at h;obtain⟨q,r,rfl,V,a,d,A,Z⟩:=h;have I:=RE.set (i:=i) Z (by simpa using G) C w j O;have g:(q++r).take ((i+1)*sz)=q++r.take (i*sz):=by rw[lU,nQ,<-V,Pf,eM<|Pk _ _];simp
  have k:(q++r).drop ((i+1)*sz+sz)=r.drop (i*sz+sz):=by rw[lU,yn,nQ<|i*sz,yn,<-V,zY,nQ (aA q)<|i*aA q];simp
  rw[Jr,g,k,eF];exact RE.gb V a d A I
end
section
variable{σ:St}{F:Nat->Prop}{L:Nat}{loc:VV->AV->Prop}
def HU:∀{J:aC} {l N:aD},eU J=ad l->RL σ F L loc J N->N=l
 |[],l,N,h,k=>by simp only[eU,pD]at h;simp only[RL]at k;rw[k,h]
 |.aN v::J,l,N,h,k=>by
  simp only[RL]at k;obtain⟨a,r,rfl,C,w⟩:=k;simp only[eU]at h
  cases p:eU J with
  |none=>rw[p]at h;cases h
  |some q=>rw[p]at h;simp only[pD]at h;subst h;simp only[RR]at C;rw[C.1,HU p w]
 |.nil::J,_,_,h,_=>avY
 |.fz _::J,_,_,h,_=>avY
 |.bh _ _ _ _::J,_,_,h,_=>avY
 |.aR _ _ _ _::J,_,_,h,_=>avY
 |.bA _ _::J,_,_,h,_=>avY
 |.emp _::J,_,_,h,_=>avY
 |.agg _::J,_,_,h,_=>avY
 |.bn _::J,_,_,h,_=>avY
 |.func _ _ _::J,_,_,h,_=>avY
 |.cz _ _::J,_,_,h,_=>avY
 |.yield::J,_,_,h,_=>avY
 |.undef::J,_,_,h,_=>avY
 |.kT::J,_,_,h,_=>avY
def M5{v:VV}{a B:AV}(h:hc v=ad a)(k:RR σ F L loc v B):B=a:=by
 cases v<;>simp only[hc]at h<;>try(cases h;done)
 simp only[RR]at k;exact at6;rename_i V
 cases p:eU V with
 |none=>rw[p]at h;cases h
 |some q=>rw[p]at h;simp only[pD]at h;simp only[RR]at k;have⟨l,C,_,w⟩:=k;rw[C,<-h,HU p w]
def zo{a:AV}{v:VV}(h:k9 a=.ok v):RR σ F L loc v a:=by
 unfold k9 at h;split at h;rename_i w
 cases s:(lL w&&uw w)with
 |false=>rw[s]at h;cases h
 |true=>rw[s]at h;simp only[a8,wB]at h;subst h;simp only[bW]at s;simp only[RR];exact⟨trivial,s.1,s.2⟩
 exact avN
def MM{a:AV}(h:cT a=aa):a.dN=aa:=by simp only[cT,bW]at h;exact h.1
def MK{l:aD}(h:l.all cT=aa):l.all AV.dN=aa:=by rw[kt]at h|-;exact λx s=>MM<|h x s
def ML{v:Value}(h:lL v=aa):cT (.aN v)=aa:=by
 unfold lL at h;split at h
 all_goals first|(cases h;done)|simp[cT,AV.dN,cU,kx]
def HG{a:AV}(h:cT a=aa):cU a a=aa:=by simp only[cT,bW]at h;exact h.2
def sJ:∀{l:aD},l.all cT=aa->kf l l=aa
 |[],_=>rfl
 |a::l,h=>by simp only[uS,bW]at h;simp only[kf,bW];exact⟨HG h.1,sJ h.2⟩
def ak0{σ:St}{F:aE}{a:AV}(h:iS σ F a):cT a=aa:=by
 cases a<;>simp only[iS]at h<;>try(exact h.elim)
 exact avz;exact auq;exact auq
def RR.refl{v:VV}{a:AV}(P:∀v a,loc v a->cT a=aa\/ et v=ab)(hn:et v=aa)(k:RR σ F L loc v a):cU a a=aa:=by
 have s:∀w,loc w a->et w=aa->cU a a=aa:=λw d hn=>HG<|(P w a d).resolve_right<|by rw[hn];simp
 cases v<;>simp only[RR]at k<;>simp only[et]at hn;rw[k.1];exact HG<|ML k.2.1;exact s _ k aM
 rcases k with⟨_,j⟩|⟨b,o,D,I,B,l,e,C,A,N,h,_⟩
 exact HG<|ak0 j;rw[h];simp[cU];exact s _ k aM;exact s _ k aM;have⟨b,M,l,e,C,B,h,_⟩:=k;rw[h];simp[cU];obtain⟨l,rfl,h,j⟩:=k;simp only[cU];exact sJ h;obtain⟨l,rfl,h,j⟩:=k;simp only[cU];exact h;have⟨l,r,h,⟨j,X⟩,_⟩:=k;rw[h];simp[cU,CR,j,X];exact s _ k aM;rw[k.1];simp[cU];cases hn;cases hn
 rcases k with⟨p,rfl⟩|⟨b,l,e,C,A,rfl,_⟩
 cases p<;>simp[cU,kx];simp[cU]
def RL.refl(P:∀v a,loc v a->cT a=aa\/ et v=ab):∀{q:aC} {l:aD},q.all et=aa->RL σ F L loc q l->kf l l=aa
 |[],l,_,k=>by simp only[RL]at k;subst k;rfl
 |v::q,l,n,k=>by simp only[RL]at k;obtain⟨a,r,rfl,C,w⟩:=k;simp only[uS,bW]at n;simp only[kf,bW];exact⟨RR.refl P n.1 C,RL.refl P n.2 w⟩
def Az{v:VV}{a:AV}{cs:aC}(G:∀v a,loc v a->cT a=aa\/ et v=ab)(h:jn v=.ok cs)(k:RR σ F L loc v a):RL σ F L loc cs a.cells/\ a.cells.all cT=aa:=by
 have D:∀{b:AV},b.dN=aa->b.cells=[b]:=by
  intro b X;cases b<;>simp only[AV.cells]<;>simp only[AV.dN]at X
  grind
  cases X
 have m:∀{w:VV},RR σ F L loc w a->cT a=aa->RL σ F L loc [w] a.cells/\ a.cells.all cT=aa:=by intro w P B;rw[D<|MM B];exact⟨RL.one P,by simp[B]⟩
 have s:∀w,loc w a->et w=aa->cT a=aa:=λw P Z=>(G w a P).resolve_right (by rw[Z];simp)
 cases v<;>simp only[jn,wB]at h<;>try(cases h;done)
 subst h;refine m k ?_;simp only[RR]at k;rw[k.1];exact ML k.2.1;exact auJ;subst h;refine m k ?_;simp only[RR]at k
 rcases k with⟨_,j⟩|⟨b,o,I,U,O,l,e,C,A,N,V,_⟩
 cases a<;>simp only[iS]at j<;>try(exact j.elim)
 exact avz;exact auq;exact auq;rw[V];exact auq;exact auJ;exact auJ;subst h;refine m k ?_;simp only[RR]at k;have⟨b,M,l,e,C,O,V,_⟩:=k;rw[V];exact auq;subst h;simp only[RR]at k;obtain⟨l,rfl,V,j⟩:=k;exact⟨j,V⟩;subst h;refine m k ?_;simp only[RR]at k;have⟨l,r,V,⟨j,d⟩,_⟩:=k;rw[V];simp[cT,AV.dN,cU,CR,j,d];exact auJ;subst h;refine m k ?_;simp only[RR]at k;rw[k.1];exact auq;subst h;refine m k ?_;simp only[RR]at k
 rcases k with⟨p,rfl⟩|⟨b,l,e,C,A,rfl,_⟩
 cases p<;>simp[cT,AV.dN,cU,kx];exact auq
end
def LC.dN{n:Nat}{m:Nat->Nat}{h:H}:∀(v:VV) (a:AV),LC n m h v a->cT a=aa\/ et v=ab:=by
 intro v a Y
 cases v with
 |nil=>left;simp only[LC]at Y;rw[Y];simp[cT,AV.dN,cU,kx]
 |undef=>right;rfl
 |kT=>right;rfl
 |aN _=>exact Y.elim
 |fz _=>exact Y.elim
 |bA _ _=>exact Y.elim
 |emp _=>exact Y.elim
 |agg _=>exact Y.elim
 |bn _=>exact Y.elim
 |func _ _ _=>exact Y.elim
 |yield=>exact Y.elim
 |bh s f o j=>
  left
  rcases Y with⟨_,Q,_⟩|⟨_,C,P,e,r,X,_,_,d⟩
  exact Q
  rcases d with⟨_,_,⟨p,l,z,rfl⟩|⟨p,I,rfl⟩⟩|⟨I,rfl,_⟩<;>simp[cT,AV.dN,cU]
 |aR s f i o=>
  left
  rcases Y with⟨_,Q,_⟩|⟨_,C,P,e,r,X,_,_,d⟩
  exact Q;rw[d];exact auq
 |cz s f=>
  left
  rcases Y with⟨_,Q,_⟩|⟨_,l,_,d⟩
  exact Q;rw[d];exact auq
def vY{α:Type}{x:Option α}{a:α}:ib x=.ok a↔x=ad a:=by cases x<;>simp[ib]
def dn{α:Type}{b:Bool}{x:R α}{e:String}{a:α}:(bif b then x else .error e)=.ok a↔b=aa/\ x=.ok a:=by cases b<;>simp
def oP{a b:Nat}:ai a b=aa↔a<=b:=by simp[dh]
def kz{a b:Nat}:ah a b=aa↔a<b:=by simp[ah,dh];omega
section
variable{E:cI}{X Z:Nat->Prop}{m:Nat->Nat}{h:H}{σ:St}
def ZV(v:Value)(s:lL v=aa):RV E X Z m h σ (vB v) (.aN v):=by unfold vB;split;rename_i n c;simp only[lL,bW]at s;simp only[RR,LC];exact at6;simp only[RR];refine⟨trivial,s,?_⟩;unfold uw;exact at6
def ZU:∀(l:List Value),l.all lL=aa->fl E X Z m h σ (l.map vB) (l.map AV.aN)/\ (l.map AV.aN).all cT=aa
 |[],_=>by simp[RL]
 |v::l,s=>by simp only[uS,bW]at s;have⟨C,w⟩:=ZU l s.2;refine⟨RL.gb (ZV v s.1) C,?_⟩;simp only[cL,uS,w,uO];exact ML s.1
def F_(n:Nat):∀l:List Value,cD n (l.map AV.aN)=aa
 |[]=>rfl
 |_::l=>by simp only[cL,cD,de,oI];exact F_ n l
def aqV(cs:Array Value):RV E X Z m h σ (bif cs.toList.all lL then .agg (cs.toList.map vB)else .kT) (.agg<|cs.toList.map .aN):=by
 cases s:cs.toList.all lL with
 |false=>simp only[br,RR,LC,de];exact F_ _ _
 |true=>have⟨C,w⟩:=ZU (E:=E) (X:=X) (Z:=Z) (m:=m) (h:=h) (σ:=σ) cs.toList s;simp only[a8,RR];exact⟨_,aM,w,C⟩
def aqY(v:Value):RV E X Z m h σ (bif lL v then vB v else .kT) (.aN v):=by
 cases s:lL v with
 |false=>simp only[br,RR,LC,de]
 |true=>exact ZV v s
def adh(n:Nat)(v:Value):de n (uy v)=aa:=by unfold uy;split;exact F_ _ _;exact F_ _ _;rfl
def QU(n:Nat):∀l:List Value,cD n (l.map uy)=aa
 |[]=>rfl
 |v::l=>by simp only[cL,cD,adh,oI];exact QU n l
def N8(v:Value):RV E X Z m h σ (EU v) (tl v):=by
 unfold EU tl;split;exact aqV _;rename_i q;simp only[RR,LC,de];exact QU _ _
 cases v<;>first|exact aqY _|simp_all
def oW(S:SR E X Z m h σ){T:Vg}{c:Rg}(F:∀i,RV E X Z m h σ (T i)<|c i)(x:Operand):RV E X Z m h σ (bS T x) (cn E.D c x):=by
 cases x with
 |tmp t=>exact F t
 |const v=>exact N8 v
 |global g=>
  simp only[bS,RR,LC,cn]
  cases o:ah g E.D.gx with
  |false=>rfl
  |true=>have o:g<E.D.gx:=kz.1 o;exact kz.2<|dc o S.ng
 |func f=>simp only[bS,cn,RR];exact⟨[],[],aM,⟨aM,aM⟩,RL.jd,RL.jd⟩
def ZN{D:a_}{t:Nat}{q:Option Nat}(M:qe D t=.ok q):∃d n,cP D t=.ok d/\ size D t=.ok n/\ ((rX d=aa/\ q=ad n)\/ (rX d=ab/\ n=1/\ q=ae)):=by
 unfold qe at M
 cases v:cP D t with
 |error e=>rw[v]at M;cases M
 |ok d=>
  cases r:size D t with
  |error e=>rw[v,r]at M;cases M
  |ok n=>
   rw[v,r]at M;simp only[ca,aO]at M
   cases i:rX d with
   |true=>rw[i]at M;cases M;exact⟨d,n,aM,aM,.inl ⟨i,aM⟩⟩
   |false=>rw[i]at M;simp only[fR,ff]at M;by_cases V:n=1;rw[b8 V]at M;cases M;exact⟨d,n,aM,aM,.inr ⟨i,V,aM⟩⟩;rw[cG V]at M;cases M
def atV{D:a_}{t:Nat}{q:Option Nat}(M:qe D t=.ok q){σ:St}{F:aE}{L:Nat}{loc:VV->AV->Prop}{cs:aC}{l:aD}{o:Nat}{v:VV}(P:gg q cs o=.ok v)(r:RL σ F L loc cs l)(b:l.all cT=aa):
 (∃a,part D t l o=.ok a/\ RR σ F L loc v a):=by
 obtain⟨d,n,G,p,⟨i,rfl⟩|⟨i,rfl,rfl⟩⟩:=ZN M;simp only[gg,dn,oP,wB]at P;obtain⟨V,rfl⟩:=P;refine⟨.agg<|(l.drop o).take n,?_,?_⟩;unfold part;rw[G];simp only[ca,aO,i,dj,p];rfl;simp only[RR];refine⟨_,aM,?_,(r.drop o).take n⟩
 grind
 simp only[gg]at P
 cases c:cs[o]? with
 |none=>rw[c]at P;cases P
 |some w=>rw[c]at P;simp only[dn]at P;have⟨_,P⟩:=P;cases P;have⟨a,V,j⟩:=r.get c;refine⟨a,?_,j⟩;unfold part;rw[G];simp only[ca,aO,i,fR,ff,V];rfl
def ya{D:a_}{t:Nat}{q:Nat×Nat}(M:gm D t=.ok q):cP D t=.ok (.slice q.1)/\ q9 D t=.ok q.1/\ size D q.1=.ok q.2/\ 0<q.2:=by
 unfold gm at M
 cases f:q9 D t with
 |error e=>rw[f]at M;cases M
 |ok e=>
  rw[f]at M;simp only[ca,aO]at M
  cases B:size D e with
  |error x=>rw[B]at M;cases M
  |ok s=>
   rw[B]at M;simp only at M;by_cases Q:s=0;rw[b8 Q]at M;cases M;rw[cG Q]at M;cases M;refine⟨?_,aM,B,Nat.pos_of_ne_zero Q⟩;unfold q9 at f
   cases v:cP D t with
   |error x=>rw[v]at f;cases f
   |ok d=>rw[v]at f;simp only[ca,aO]at f;cases d<;>simp_all
def afV{D:a_}{t f off:Nat}(q:vv D t f=.ok off):∃j s,A_ D t f=.ok j/\ size D j.type=.ok s/\ s≠0/\ j.offset=off:=by
 unfold vv at q
 cases J:A_ D t f with
 |error e=>rw[J]at q;cases q
 |ok j=>
  rw[J]at q;simp only[ca,aO]at q
  cases B:size D j.type with
  |error x=>rw[B]at q;cases q
  |ok s=>rw[B]at q;simp only at q;by_cases Q:s=0;rw[b8 Q]at q;cases q;exact at6
def nX{h:H}{s ver:Nat}{q:Bool×Bool×Nat×Nat×aB}(M:gB h s ver=.ok q):(h.o s).ver=ver/\ (h.o s).k=.cells q.1 q.2.1 q.2.2.1 q.2.2.2.1 q.2.2.2.2:=by
 unfold gB at M;rw[dn]at M;have⟨V,a⟩:=M;refine⟨dB V,?_⟩
 grind
def SR.cells(S:SR E X Z m h σ){s:Nat}{C fr:Bool}{e sz:Nat}{es:aB}(f:(h.o s).k=.cells C fr e sz es):
 E.n0<=m s/\ m s<σ.n/\ ¬X (m s)/\ ¬Z (m s)/\ ∃l v,σ.a7 (m s)=.cells l e v sz/\ (fr=ab->v=aa)/\ 0<sz/\ RE σ (cX X Z m h σ) E.L (if C then LC σ.n m h else λ_ _=>False) sz es l:=by
 have⟨V,a,d,A,M⟩:=S.ct s (by rw[f];rfl);rw[f]at M;have⟨l,v,O,w,j,J⟩:=M
 grind
def ajq{C:Bool}{v:VV}{a:AV}(l:(if C then LC σ.n m h else λ_ _=>False) v a):LC σ.n m h v a:=by cases C<;>simp_all
def RJ(S:SR E X Z m h σ){v:VV}{a:AV}{p:aC×Nat}(M:oT h v=.ok p)(Y:RV E X Z m h σ v a):
 ∃b k l e C sz,a=.aR b (k+p.2)/\ b<σ.n/\ σ.a7 b=.cells l e C sz/\ k+aA p.1<=aA l/\ fl E X Z m h σ p.1 ((l.drop k).take<|aA p.1)/\ ((l.drop k).take<|aA p.1).all cT=aa:=by
 cases v<;>simp only[oT]at M<;>try(cases M;done)
 rename_i s f i o;rw[bF]at M;have⟨N,V,z⟩:=M;cases z;unfold qD at V;rw[bF]at V;have⟨q,u,V⟩:=V;rw[vY]at V;have⟨g,O⟩:=nX u;simp only[RR,LC]at Y
 rcases Y with⟨Y,_⟩|⟨_,D,J,e,sz,t,T,G,rfl⟩
 omega;rw[T]at O
 injection O with I n b3 b4 L
 rw[<-L]at V;have⟨_,B,_,_,l,C,Q,_,_,d⟩:=S.cells T;have⟨F,y,x,r⟩:=d.get V;refine⟨m s,i*sz,l,e,C,sz,aM,B,Q,by simp only[F];exact y,?_⟩;simp only[F];exact⟨RL.mono (bu _) (λb P j=>⟨j,P,aM⟩) (λv a h=>ajq h) _ _ x,r⟩;cases M;simp only[RR]at Y;have⟨b,k,l,e,C,sz,V,z,W,A,U,w,c⟩:=Y;exact⟨b,k,l,e,C,sz,V,W,A,U,RL.mono (bu _) (λb P j=>⟨j,P,aM⟩) (λ_ _ h=>h.elim) _ _ c,w⟩
def Mm(S:SR E X Z m h σ){t:Nat}{q:Option Nat}(M:qe E.D t=.ok q){v:VV}{a:AV}{p:aC×Nat}(s:oT h v=.ok p)(Y:RV E X Z m h σ v a){r:VV}(P:gg q p.1 p.2=.ok r):
 ∃x,jw E.D σ t a=.ok x/\ RV E X Z m h σ r x:=by
 obtain⟨b,k,l,e,C,B,rfl,V,j,W,A,f⟩:=RJ S s Y;have c:cellsOf σ b=.ok l:=by unfold cellsOf;rw[b8 V,j]
 obtain⟨d,n,D,U,⟨i,rfl⟩|⟨i,rfl,rfl⟩⟩:=ZN M;simp only[gg,dn,oP,wB]at P;obtain⟨L,rfl⟩:=P;have g:(l.drop<|k+p.2).take n=(((l.drop k).take<|aA p.1).drop p.2).take n:=by rw[Jg,ru,z'];exact aw1
 refine⟨.agg<|(l.drop<|k+p.2).take n,?_,?_⟩;simp only[jw,c,D,U,ca,aO,i,dj];have:fO l (k+p.2) n=.ok ((l.drop<|k+p.2).take n):=by
  unfold fO
  grind
 exact avO;simp only[RR];refine⟨_,aM,?_,?_⟩
 grind
 rw[g];exact(A.drop p.2).take n;simp only[gg]at P
 cases O:p.1[p.2]? with
 |none=>rw[O]at P;cases P
 |some w=>rw[O]at P;simp only[dn]at P;have⟨_,P⟩:=P;cases P;have⟨x,L,o⟩:=A.get O;have y:p.2<aA p.1:=(lQ.1 O).1;refine⟨x,?_,o⟩;have g:l[k+p.2]?=ad x:=at6;simp only[jw,c,D,ca,aO,i,fR,ff,g];rfl
end
section
variable{E:cI}{X Z:Nat->Prop}{m:Nat->Nat}{h:H}{σ:St}
def uA{v:VV}{a B:AV}(p:ib (hc v)=.ok a)(r:RV E X Z m h σ v B):B=a:=M5 (vY.1 p) r
def aif{v:VV}{n:Int}(Y:Bi v=.ok n):∃k,v=.aN (.int k n):=by
 unfold Bi at Y
 grind
def aj6{v:VV}{n:Nat}(Y:jK v=.ok n):∃k,v=.aN (.int k n):=by
 unfold jK at Y
 grind
def Qe{v:VV}{n:Int}(Y:Bi v=.ok n){a:AV}(r:RV E X Z m h σ v a):∃k,pI a=.ok (k,n):=by obtain⟨k,rfl⟩:=aif Y;simp only[RR]at r;rw[r.1];exact⟨k,aM⟩
def My{v:VV}{n:Nat}(Y:jK v=.ok n){a:AV}(r:RV E X Z m h σ v a):∃k,a=.aN (.int k n):=by obtain⟨k,rfl⟩:=aj6 Y;simp only[RR]at r;exact⟨k,r.1⟩
def ai5{D:a_}{t:Nat}{e:Nat}(q:cP D t=.ok (.slice e)){F:aE}{a:AV}(b:iS σ F a):nz D t a=.ok (js 0):=by
 unfold nz;rw[q]
 cases a<;>simp only[iS]at b<;>try(exact b.elim)
 rename_i w;cases w<;>simp_all;rw[b.1];rfl;rfl
def Aq(k:IntKind)(n:Int):RV E X Z m h σ (.aN<|.int k n) (.aN<|.int k n):=by simp only[RR];exact⟨trivial,aM,aM⟩
def CO(b:Bool):RV E X Z m h σ (.aN<|.bool b) (cO b):=by simp only[RR];exact auM
def ai8{t:Nat}{q:Nat×Nat}(M:gm E.D t=.ok q){v r:VV}{a:AV}(P:rZ h v=.ok r)(Y:RV E X Z m h σ v a):
 ∃x,nz E.D t a=.ok x/\ RV E X Z m h σ r x:=by
 have⟨D,_⟩:=ya M
 cases v<;>simp only[rZ]at P<;>try(cases P;done)
 cases P;simp only[RR,LC]at Y;rw[Y];refine⟨js 0,?_,Aq _ _⟩;unfold nz;rw[D];rfl;cases P;simp only[RR]at Y
 rcases Y with⟨rfl,j⟩|⟨b,o,L,I,B,l,e,C,A,N,rfl,j,d,n,f,F,c,Q,W⟩
 exact⟨js 0,ai5 D j,Aq _ _⟩;subst f;refine⟨js _,?_,Aq _ _⟩;unfold nz;rw[D];rfl;rename_i s u o L;rw[bF]at P;have⟨w,k,P⟩:=P;cases P;have⟨g,O⟩:=nX k;simp only[RR,LC]at Y
 rcases Y with⟨V,_,_⟩|⟨V,T,J,e,B,y,j,d,n⟩
 omega;refine⟨js L,?_,Aq _ _⟩;unfold nz;rw[D]
 rcases n with⟨rfl,_,⟨p,l,z,rfl⟩|⟨p,I,rfl⟩⟩|⟨I,rfl,_⟩<;>rfl
 cases P;simp only[RR]at Y;refine⟨js 0,?_,Aq _ _⟩;unfold nz;rw[D]
 rcases Y with⟨p,rfl⟩|⟨b,l,e,C,A,rfl,j,d,n⟩<;>rfl
def Us(n0:SR E X Z m h σ){t:Nat}{q:Option Nat×Nat}(M:sh E.D t=.ok q){v r:VV}{a b:AV}{i:Int}{k:IntKind}(I:pI b=.ok (k,i))(P:cF h q v i=.ok r)(Y:RV E X Z m h σ v a):
 ∃x,indexAddr E.D t a b=.ok x/\ RV E X Z m h σ r x:=by
 unfold sh at M
 cases G:cP E.D t with
 |error e=>rw[G]at M;cases M
 |ok d=>
  rw[G]at M;simp only[ca,aO]at M
  cases d<;>try(cases M;done)
  ·rename_i e;simp only at M
   cases B:size E.D e with
   |error x=>rw[B]at M;cases M
   |ok s=>
    rw[B]at M;cases M;simp only[cF,dn]at P;obtain⟨Q,P⟩:=P;have Q:0<=i:=by simpa using Q
    cases v<;>simp only at P<;>try(cases P;done)
    rename_i j
    cases c:j[i.toNat]? with
    |none=>rw[c]at P;cases P
    |some c0=>
     rw[c]at P;simp only[dn,wB]at P;obtain⟨g,rfl⟩:=P;have g:=dB g;have d0:i.toNat<aA j:=(lQ.1 c).1;simp only[RR]at Y
     rcases Y with⟨rfl,_⟩|⟨W,o,L,U,D,l,F,C,O,N,rfl,p,A,f,y,T,h7,e0,h8⟩
     simp at d0;subst y;obtain⟨g1,g2,g3,g4⟩:=h8.get c;have u:s=D:=aW;subst u;have f0:N=(l.drop o).take (aA j*s):=by
      unfold fO at T
      grind
     have g0:aA N=aA j*s:=h8.len;have V:(N.drop<|i.toNat*s).take s=(l.drop<|o+i.toNat*s).take s:=by
      rw[f0,Jg,ru,z']
      grind
     have h0:o+aA j*s<=aA l:=by grind
     refine⟨.aR W<|o+i.toNat*s,?_,?_⟩;exact av0;simp only[RR];refine⟨W,o+i.toNat*s,l,F,C,O,aM,p,A,f,?_,?_,?_⟩;omega;rw[g,<-V];exact g4;rw[g,<-V];exact g3
    rename_i J a0 o L;rw[bF]at P;obtain⟨w,i0,P⟩:=P;obtain⟨V,e2⟩:=nX i0;rw[dn]at P;obtain⟨c,P⟩:=P;cases P;simp only[bW,c_]at c;obtain⟨j0,S⟩:=c;have S:=dB S;simp only[RR,LC]at Y
    rcases Y with⟨h1,_,_⟩|⟨h1,k0,l0,F,D,j,p,A,f⟩
    omega;rw[p]at e2
    injection e2 with b1 b2 b3 b4 b5
    rcases f with⟨rfl,_⟩|⟨U,rfl,_⟩
    omega;refine⟨.aR (m J)<|o*D+i.toNat*s,?_,?_⟩;exact av0;simp only[RR,LC]
    grind
  ·rename_i n e;simp only at M
   cases B:size E.D e with
   |error x=>rw[B]at M;cases M
   |ok s=>
    rw[B]at M;cases M;simp only[cF,dn]at P;obtain⟨Q,P⟩:=P;have Q:0<=i/\ i<n:=by simpa using Q
    cases v<;>simp only at P<;>try(cases P;done)
    rename_i J a0 m0 o;rw[dn]at P;obtain⟨z,P⟩:=P;have z:=dB z;cases P;simp only[RR,LC]at Y
    rcases Y with⟨h1,p,_⟩|⟨h1,k0,l0,F,D,j,p,A,rfl⟩
    omega;refine⟨.aR (m J)<|m0*D+o+i.toNat*s,?_,?_⟩;unfold indexAddr;simp only[I,G,B,ca,aO];rw[b8 Q];rfl;simp only[RR,LC]
    grind
    rename_i c0 o;cases P;simp only[RR]at Y;obtain⟨W,b0,l,F,C,D,rfl,p,A,f,y,T,h7⟩:=Y;refine⟨.aR W<|b0+o+i.toNat*s,?_,?_⟩;unfold indexAddr;exact at6;simp only[RR];exact⟨W,b0,l,F,C,D,by rw[yn],p,A,f,y,T,h7⟩
def SA{t f off:Nat}(q:vv E.D t f=.ok off){v r:VV}{a:AV}(P:xd h off v=.ok r)(Y:RV E X Z m h σ v a):
 ∃x,fieldAddr E.D t a f=.ok x/\ RV E X Z m h σ r x:=by
 obtain⟨U,s,V,p,d,rfl⟩:=afV q
 cases v<;>simp only[xd]at P<;>try(cases P;done)
 rename_i F u i o;rw[dn]at P;have⟨Q,P⟩:=P;have Q:=dB Q;cases P;simp only[RR,LC]at Y
 rcases Y with⟨C,_,_⟩|⟨C,T,J,B,j,z,w,D,rfl⟩
 omega;refine⟨.aR (m F)<|i*j+o+U.offset,?_,?_⟩;unfold fieldAddr;simp only[V,p,ca,aO];rw[cG d];rfl;simp only[RR,LC]
 grind
 rename_i c o;cases P;simp only[RR]at Y;obtain⟨W,e,l,B,k,j,rfl,w,D,O,N,L,y⟩:=Y;refine⟨.aR W<|e+o+U.offset,?_,?_⟩;unfold fieldAddr;exact at6;simp only[RR];exact⟨W,e,l,B,k,j,by rw[yn],w,D,O,N,L,y⟩
def WR:∀(cs l:aD),aA l<=aA cs->q_ cs l=l++cs.drop (aA l)
 |[],[],_=>rfl
 |[],x::l,h=>auu
 |c::cs,[],_=>by simp[q_]
 |c::cs,x::l,h=>by simp only[q_,ck,cr,OU];rw[WR cs l auF]
def BZ:∀(cs:aD) (o:Nat) (l:aD),o+aA l<=aA cs->iY cs o l=cs.take o++(l++cs.drop (o+aA l))
 |[],o,l,h=>by have:l=[]:=sy (by simp only[f_]at h;omega);subst this;simp[iY,q_]
 |c::cs,0,l,h=>by simp only[iY,i',b7,bZ];exact WR _ _ auF
 |c::cs,o+1,l,h=>by
  simp only[iY,j7,ck];rw[BZ cs o l<|by simp at h;omega]
  grind
def aoI{cs x r:aC}{o:Nat}(s:zI cs o x=.ok r):o+aA x<=aA cs/\ r=cs.take o++(x++cs.drop (o+aA x)):=by unfold zI at s;rw[dn,oP]at s;exact at6
def CI{l N:aD}(h:l.all cT=aa)(s:∀x∈N,x∈l):N.all cT=aa:=at6
def Zj{σ:St}{F:aE}{L:Nat}{loc:VV->AV->Prop}{cs x r:aC}{l y:aD}{o:Nat}(J:zI cs o x=.ok r)(h1:RL σ F L loc cs l)(a:RL σ F L loc x y)(B:l.all cT=aa)(z:y.all cT=aa):
 o+aA y<=aA l/\ RL σ F L loc r (iY l o y)/\ (iY l o y).all cT=aa/\ aA (iY l o y)=aA l/\ aA r=aA cs:=by
 obtain⟨O,rfl⟩:=aoI J;have g:=h1.len;have C:=a.len;have w:o+aA y<=aA l:=aW;rw[BZ l o y w];refine⟨w,(h1.take o).append<|a.append<|by rw[C];exact h1.drop _,?_,?_,?_⟩;rw[Fq,Fq,z,CI B<|λx s=>z_ s,CI B<|λx s=>wC s];rfl;simp only[cN,ep,j5];omega;simp only[cN,ep,j5];omega
def SH{place:Nat->Option (Nat×Nat)}{Q:Nat->R (Nat×Nat)}(L:∀i q,Q i=.ok q->place i=ad q):∀{M:List (Nat×VV)} {O:List (Nat×AV)} {cs r:aC} {l:aD},
 Dk Q cs M=.ok r->(M.map (·.1)=O.map (·.1))->fl E X Z m h σ (M.map (·.2)) (O.map (·.2))->fl E X Z m h σ cs l->l.all cT=aa->
 ∃N,fill place l O=.ok N/\ fl E X Z m h σ r N/\ N.all cT=aa
 |[],[],cs,r,l,t,_,_,s,b=>by simp only[Dk]at t;cases t;exact⟨l,aM,s,b⟩
 |[],_::_,_,_,_,_,V,_,_,_=>by simp at V
 |_::_,[],_,_,_,_,V,_,_,_=>by simp at V
 |(i,v)::M,(j,a)::O,cs,r,l,t,V,p,s,b=>by
  simp only[cL,Je]at V;obtain⟨rfl,V⟩:=V;simp only[cL,fl,RL]at p;have⟨S,T,e,Y,p⟩:=p;cases e;simp only[Dk,bF]at t;have⟨q,u,x,U,t⟩:=t;rw[dn,bF]at t;have⟨P,C,B,t⟩:=t;have P:=dB P;have⟨n,o⟩:=Az LC.dN U Y;have⟨W,g,c,J,f⟩:=Zj B s n b o;have⟨N,y,w,D⟩:=SH L t V p g c;refine⟨N,?_,w,D⟩;unfold fill;rw[L _ _ u];have:aA a.cells=q.2:=by rw[n.len,P]
  exact at6
def OF{t:Nat}{z:VV}(o:yh E.D t=.ok z):et z=aa/\ ∃a,zero E.D t=.ok a/\ RV E X Z m h σ z a:=by
 unfold yh at o;unfold zero
 cases G:E.D.lz t with
 |none=>rw[G]at o;cases o
 |some i=>
  rw[G]at o;simp only at o|-
  cases Y:i.zero with
  |none=>rw[Y]at o;cases o
  |some v=>rw[Y]at o;simp only[dn]at o;have⟨n,o⟩:=o;cases o;exact⟨n,tl v,aM,N8 v⟩
def I'{t:Nat}{z:aC}(o:zeroCells E.D t=.ok z):∃a n,zero E.D t=.ok a/\ fl E X Z m h σ z a.cells/\ a.cells.all cT=aa/\ size E.D t=.ok n/\ aA z=n/\ 0<n:=by unfold zeroCells at o;simp only[bF]at o;have⟨v,Y,V,c,n,w,o⟩:=o;rw[dn,bW,kz]at o;have⟨⟨l,Q⟩,o⟩:=o;cases o;have⟨_,a,b,r⟩:=OF (E:=E) (X:=X) (Z:=Z) (m:=m) (h:=h) (σ:=σ) Y;have⟨x,d⟩:=Az LC.dN c r;exact at6
def MX(S:SR E X Z m h σ){T:Vg}{c:Rg}(F:∀i,RV E X Z m h σ (T i)<|c i):∀(M:List<|Nat×Operand),
 (M.map λp=>(p.1,bS T p.2)).map (·.1)=(M.map λp=>(p.1,cn E.D c p.2)).map (·.1)/\
 fl E X Z m h σ ((M.map λp=>(p.1,bS T p.2)).map (·.2)) ((M.map λp=>(p.1,cn E.D c p.2)).map (·.2))
 |[]=>⟨aM,RL.jd⟩
 |(i,x)::M=>by have⟨V,a⟩:=MX S F M;simp only[cL];exact⟨by rw[V],RL.gb (oW S F x) a⟩
def ado(S:SR E X Z m h σ){T:Vg}{c:Rg}(F:∀i,RV E X Z m h σ (T i)<|c i){t:Nat}{M:List (Nat×Operand)}{r:VV}(e:ga E.D t (M.map λp=>(p.1,bS T p.2))=.ok r):
 ∃x,build E.D t (M.map λp=>(p.1,cn E.D c p.2))=.ok x/\ RV E X Z m h σ r x:=by
 unfold ga at e;simp only[bF]at e;have⟨z,o,d,C,e⟩:=e;have⟨a,n,b,L,s,_,_,_⟩:=I' (E:=E) (X:=X) (Z:=Z) (m:=m) (h:=h) (σ:=σ) o;have⟨g,k⟩:=MX S F M
 cases d<;>try(cases e;done)
 rename_i W;simp only[bF]at e;have⟨O,P,V,j,e⟩:=e;cases e;have⟨N,J,w,D⟩:=SH (place:=λi=>O[i]?) (λi q u=>vY.1 u) j g k L s;refine⟨.agg N,?_,?_⟩;unfold build;simp only[b,C,P,ca,aO,J];rfl;simp only[RR];exact⟨N,aM,D,w⟩
def acS{A:BinOp}{t:Nat}{x y r:VV}{c:Bool}{a b:AV}(P:ky E.D A t x y c=.ok r)(s:RV E X Z m h σ x a)(Q:RV E X Z m h σ y b):
 ∃z,binOp E.D A t a b c=.ok z/\ RV E X Z m h σ r z:=by
 unfold ky at P;split at P;rename_i p q V j;rw[bF]at P;have⟨z,M,O⟩:=P;rw[M5 V s,M5 j Q];exact⟨z,M,zo O⟩;split at P;simp only[bF]at P;have⟨q,u,w,d,P⟩:=P;have⟨v,_⟩:=ya u;simp only[RR,LC]at Q;subst Q;have N:bX E.D 10 t a (.aN<|.slice ae 0 0)=.ok w/\ (∀A,binOp E.D A t a (.aN<|.slice ae 0 0) c=mb E.D A t a (.aN<|.slice ae 0 0)):=by
  unfold MF at d;split at d;cases d;simp only[RR,LC]at s;subst s;refine⟨?_,λA=>rfl⟩;unfold bX;rw[v];rfl;rename_i e f;cases d;simp only[RR]at s
  rcases s with⟨V,_⟩|⟨W,o,L,I,B,l,F,C,S,i,rfl,_⟩
  cases V;refine⟨?_,λA=>rfl⟩;unfold bX;rw[v];rfl;cases d
 rw[N.2];split at P;cases P;refine⟨cO w,?_,CO w⟩;simp only[mb,N.1];rfl;cases P;refine⟨cO<|!w,?_,CO _⟩;simp only[mb,N.1];rfl;cases P;cases P
def Rx{α:Type}{v:VV}{a b:R α}{r:α}(Q:wX v a b=.ok r){c:AV}(Y:RV E X Z m h σ v c):∃t,c=cO t/\ v=.aN (.bool t)/\ (bif t then a else b)=.ok r:=by unfold wX at Q;split at Q;rename_i t;simp only[RR]at Y;exact⟨t,Y.1,aM,Q⟩;cases Q
end
section
variable{E:cI}{X Z:Nat->Prop}{m:Nat->Nat}{h:H}{σ:St}
def nI{l N:aD}{o n:Nat}:fO l o n=.ok N↔N=(l.drop o).take n/\ aA N=n:=by
 unfold fO
 grind
def ahj(n y:Nat)(hn:n<=y)(k:IntKind):fe (.aN<|.int k n) y=.ok n:=by unfold fe;simp only[pI,ca,aO];exact at6
def WL(r:VV->AV->Prop):Option VV->Option AV->Prop
 |ae,ae=>True
 |ad v,ad b=>r v b
 |_,_=>False
def WK{x:Option VV}{n:Option Nat}(s:xJ x=.ok n){a:Option AV}(r:WL (RV E X Z m h σ) x a):(n=ae/\ a=ae)\/ ∃i k,n=ad i/\ a=ad (.aN<|.int k i):=by
 cases x with
 |none=>
  cases s
  cases a with
  |none=>exact .inl ⟨aM,aM⟩
  |some b=>exact r.elim
 |some v=>
  simp only[xJ,bF]at s;have⟨i,G,s⟩:=s;cases s
  cases a with
  |none=>exact r.elim
  |some b=>have⟨k,f⟩:=My G r;exact .inr ⟨i,k,aM,by rw[f]⟩
def QY{n:Option Nat}{a:Option AV}(r:(n=ae/\ a=ae)\/ ∃i k,n=ad i/\ a=ad (.aN<|.int k i)){y d:Nat}(Q:∀i,n=ad i->i<=y):dU a y d=.ok (n.getD d):=by
 rcases r with⟨rfl,rfl⟩|⟨i,k,rfl,rfl⟩
 rfl;exact ahj i y (Q i aM) k
def aoq(x0:SR E X Z m h σ){t:Nat}{q:Nat×Nat}(l0:gm E.D t=.ok q){v r:VV}{a:AV}{n G:Option Nat}{b0 d0:Option AV}(h1:(n=ae/\ b0=ae)\/ ∃i k,n=ad i/\ b0=ad (.aN<|.int k i))(h2:(G=ae/\ d0=ae)\/ ∃i k,G=ad i/\ d0=ad (.aN<|.int k i))
 (M:yb h q.2 v (n.getD 0) G=.ok r)(W:RV E X Z m h σ v a):∃x,pq E.D t a b0 d0 ae=.ok x/\ RV E X Z m h σ r x:=by
 have⟨D,_,P,U⟩:=ya l0;have O:∀y,(n.getD 0)<=y->dU b0 y 0=.ok (n.getD 0):=λy f0=>QY h1 λi G=>by subst G;exact f0
 have Q:∀y d,G.getD d<=y->dU d0 y d=.ok (G.getD d):=λy d f0=>QY h2 λi G=>by subst G;exact f0
 cases v<;>simp only[yb]at M<;>try(cases M;done)
 rw[dn]at M;have⟨S,M⟩:=M;cases M;simp only[bW]at S;have c1:=dB S.1;have c2:=dB S.2;simp only[RR,LC]at W;subst W;refine⟨.aN<|.slice ae 0 0,?_,by simp only[RR,LC]⟩;unfold pq;simp only[D,P,ca,aO,Option.isSome,mB,fR,ff,dU];have:=Q 0 0 aW;have h3:=O 0 aW;simp only[dU]at this h3;exact at6;rename_i N;rw[dn]at M;have⟨S,M⟩:=M;cases M;simp only[bW,oP]at S;have⟨⟨V,c1⟩,c2⟩:=S;have V:=dB V;simp only[RR]at W
 rcases W with⟨rfl,_⟩|⟨b,o,L,I,j,l,e,m0,g0,n0,rfl,g2,g3,g4,g5,g6,g7,i0,g8⟩
 simp only[xh]at V;omega;subst g5;have J:q.2=j:=by
  cases N with
  |nil=>simp only[xh]at V;omega
  |cons c N=>have:=(g8.get (i:=0) (cs:=c) aM).1;simp only[xh]at V;omega
 have a0:=Q (aA N) (aA N) c2;have F:=O (G.getD<|aA N) c1;have⟨t1,t2⟩:=nI.1 g6;have o0:∀u,(∀c,u=ad c->G.getD (aA N)-n.getD 0<=c)->∀e0,e0=o+n.getD 0*j\/ G.getD (aA N)-n.getD 0=0->RV E X Z m h σ (.fz<|(N.drop<|n.getD 0).take<|G.getD (aA N)-n.getD 0) (.slice b e0 (G.getD (aA N)-n.getD 0) u j):=by
  intro u C e0 f;simp only[RR];have g:aA ((N.drop<|n.getD 0).take<|G.getD (aA N)-n.getD 0)=G.getD (aA N)-n.getD 0:=auT;by_cases h0:G.getD (aA N)-n.getD 0=0;left;refine⟨sy<|by rw[g,h0],?_⟩;simp only[iS];exact at6;right;have f:e0=o+n.getD 0*j:=f.resolve_right h0;subst f;refine⟨b,_,_,u,j,l,e,m0,g0,(n0.drop<|n.getD 0*j).take<|(G.getD (aA N)-n.getD 0)*j,aM,g2,g3,g4,g.symm,?_,g7,C,(g8.drop<|n.getD 0).take _⟩;rw[nI];have y0:n.getD 0*j+(G.getD (aA N)-n.getD 0)*j<=aA N*j:=by rw[<-wF];exact uY _ aW
  refine⟨?_,?_⟩;rw[t1,Jg,ru,z'];exact aw1;simp only[ep,j5,t2];omega
 cases I with
 |some c=>
  have p0:=i0 c aM;have Y:=Q c (aA N) aW;refine⟨.slice b (if c=n.getD 0 then o else o+n.getD 0*q.2) (G.getD (aA N)-n.getD 0) (ad<|c-n.getD 0) j,?_,?_⟩;unfold pq;simp only[D,P,ca,aO,Option.isSome,mB,fR,ff,dU];simp only[dU]at Y F;exact at6
  grind
 |none=>by_cases A:n.getD 0=0;refine⟨.slice b o (G.getD<|aA N) ae j,?_,?_⟩;unfold pq;simp only[D,P,ca,aO];exact at6;exact at6;by_cases B:n.getD 0<aA N;refine⟨.slice b (o+n.getD 0*q.2) (G.getD (aA N)-n.getD 0) ae j,?_,?_⟩;unfold pq;simp only[D,P,ca,aO];exact at6;exact at6;refine⟨.ik b o (n.getD 0) j,?_,?_⟩;unfold pq;simp only[D,P,ca,aO];rw[b8 ⟨J,g7⟩];simp only[a0,F,A,ff,B];rfl;simp only[RR];left;refine⟨sy ?_,by simp only[iS];exact g3⟩;exact auT
 rename_i s j0 o L;rw[bF]at M;have⟨w,q0,M⟩:=M;have⟨e1,e2⟩:=nX q0;rw[dn]at M;have⟨S,M⟩:=M;cases M;simp only[bW,oP,kz,nM]at S;have⟨⟨⟨⟨V,c1⟩,c2⟩,c3⟩,c4⟩:=S;have V:=dB V;simp only[RR,LC]at W
 rcases W with⟨k1,_⟩|⟨k1,r0,s0,e,j,N,k2,k3,k4⟩
 omega;rw[k2]at e2
 injection e2 with b1 b2 b3 b4 b5
 have J:q.2=j:=aW
 rcases k4 with⟨rfl,_⟩|⟨I,rfl,C⟩
 omega;have a0:=Q L L c4;have F:=O (G.getD L) c3;have dC:∀x,((G.getD L-n.getD 0=0/\ 0<o+n.getD 0/\ ((∃p l z,x=.ik (m s) p l z)\/ ∃p I,x=.slice (m s) p 0 I j))\/ ∃I,x=.slice (m s) ((o+n.getD 0)*j) (G.getD L-n.getD 0) I j/\ ∀c,I=ad c->o+n.getD 0+c<=aA N/\ G.getD L-n.getD 0<=c)->
  RV E X Z m h σ (.bh s j0 (o+n.getD 0)<|G.getD L-n.getD 0) x:=by
  intro x t0;simp only[RR,LC];exact .inr ⟨k1,r0,s0,e,j,N,k2,aW,t0⟩
 have T:0<j:=by rw[<-J];exact U
 cases I with
 |some c=>
  have⟨u0,v0⟩:=C c aM;have Y:=Q c L aW;refine⟨.slice (m s) (if c=n.getD 0 then o*j else o*j+n.getD 0*q.2) (G.getD L-n.getD 0) (ad<|c-n.getD 0) j,?_,?_⟩;unfold pq;simp only[D,P,ca,aO,Option.isSome,mB,fR,ff,dU];simp only[dU]at Y F;rw[Y];simp only[F,J,dj];rfl;apply dC;by_cases w0:c=n.getD 0;left;have:G.getD L-n.getD 0=0:=aW;exact⟨this,aW,.inr ⟨_,_,by rw[this]⟩⟩;right;refine⟨ad<|c-n.getD 0,?_,λz0 k0=>by cases k0;omega⟩
  grind
 |none=>
  by_cases A:n.getD 0=0;refine⟨.slice (m s) (o*j) (G.getD L) ae j,?_,?_⟩;unfold pq;simp only[D,P,ca,aO];rw[b8 ⟨J,T⟩];simp only[a0,F,A,dj];rfl;apply dC;right;refine⟨ae,?_,λc h=>by cases h⟩;rw[A];simp;by_cases B:n.getD 0<L;refine⟨.slice (m s) (o*j+n.getD 0*q.2) (G.getD L-n.getD 0) ae j,?_,?_⟩;unfold pq;simp only[D,P,ca,aO];rw[b8 ⟨J,T⟩];simp only[a0,F,A,ff,B,dj];rfl;apply dC;right;exact⟨ae,by rw[J,wF],λc h=>by cases h⟩;refine⟨.ik (m s) (o*j) (n.getD 0) j,?_,?_⟩;unfold pq;simp only[D,P,ca,aO];rw[b8 ⟨J,T⟩];simp only[a0,F,A,ff,B];rfl
  grind
end
section
variable{E:cI}{X Z:Nat->Prop}{m:Nat->Nat}{h:H}{σ:St}
def atU{D:a_}{t:Nat}(Y:oh D t=aa):cP D t=.ok .string:=by
 unfold oh at Y
 grind
def VR(S:SR E X Z m h σ){T:Vg}{c:Rg}(F:∀i,RV E X Z m h σ (T i)<|c i)(x:Option Operand):WL (RV E X Z m h σ) (x.map<|bS T) (x.map<|cn E.D c):=by
 cases x with
 |none=>trivial
 |some v=>exact oW S F v
def atS{n:Option Nat}{a:Option AV}(r:(n=ae/\ a=ae)\/ ∃i k,n=ad i/\ a=ad (.aN<|.int k i)){y d:Nat}:dU a y d=dU (n.map js) y d:=by
 rcases r with⟨rfl,rfl⟩|⟨i,k,rfl,rfl⟩
 rfl;rfl
def ahi(S:SR E X Z m h σ){T:Rg}{t:Nat}{r:VV}(O:Dq E.D t=.ok r):∃x,gy E.D (cn E.D T) (.slice t (.global 0) ae ae ae)=.ok x/\ RV E X Z m h σ r x:=by
 unfold Dq at O;rw[bF]at O;have⟨q,M,O⟩:=O
 cases w:q.1 with
 |none=>rw[w]at O;cases O
 |some n=>
  rw[w]at O;simp only[dn,bW]at O;have⟨⟨⟨A,a⟩,W⟩,O⟩:=O;cases O;have A:=dB A;have a:=dB a;have C:E.D.vy≠[]:=by intro h;rw[h]at W;cases W
  have⟨i,B,e,v,D⟩:=S.gl C;have G:∃V,cP E.D t=.ok (.array n V)/\ size E.D V=.ok 1:=by
   unfold sh at M
   cases Y:cP E.D t with
   |error _=>rw[Y]at M;cases M
   |ok d=>
    rw[Y]at M
    cases d<;>try(cases M;done)
    rename_i V;simp only[ca,aO]at M
    cases o:size E.D V with
    |error _=>rw[o]at M;cases M
    |ok z=>rw[o]at M;cases M;cases w
    rename_i k V;simp only[ca,aO]at M
    cases o:size E.D V with
    |error _=>rw[o]at M;cases M
    |ok z=>rw[o]at M;cases M;cases w;cases a;exact⟨V,aM,o⟩
  have⟨V,L,P⟩:=G;have U:cn E.D T (.global 0)=.aR 0 0:=by show(bif ah 0 E.D.gx then AV.aR 0 0 else _)=_;rw[show ah 0 E.D.gx=aa from kz.2 i];rfl
  refine⟨.slice 0 0 n (ad n) 1,?_,?_⟩;simp only[gy,U,Cx];unfold pq;rw[L];simp only[ca,aO,P,dU,Option.isSome_none,mB,fR,ff,yr,kb,wG,ite_self];rfl;simp only[RR];refine .inr ⟨0,0,n,ad n,1,_,e,v,1,E.D.vy.map λs=>.aN<|.string ⟨⟨s⟩⟩,aM,B,B.1,D,by rw[bj];exact A,?_,Nat.one_pos,λc Q=>by cases Q;exact auS,?_⟩;rw[nI,e6,yp,A,eM<|by rw[bj];exact auS,bj];exact at6;have:∀l:List aF,RE σ (cX X Z m h σ) E.L (λ_ _=>False) 1 (l.map λs=>[.aN<|.string ⟨⟨s⟩⟩]) (l.map λs=>.aN<|.string ⟨⟨s⟩⟩):=by
   intro l
   induction l with
   |nil=>simp only[i_,RE]
   |cons s l I=>simp only[cL];refine RE.gb (p:=[.aN<|.string ⟨⟨s⟩⟩]) aM aM (by simp[cT,AV.dN,cU,kx]) (RL.one ?_) I;simp only[RR];exact⟨trivial,aM,aM⟩
  exact this _
def Rf{F:aE}{L:Nat}{loc:VV->AV->Prop}(sz:Nat):∀(n:Nat) (cs:aC) (l:aD),RL σ F L loc cs l->l.all cT=aa->n*sz<=aA cs->RE σ F L loc sz (vg sz n cs) (l.take<|n*sz)/\ aA (vg sz n cs)=n
 |0,cs,l,_,_,_=>by simp only[vg,kb,i'];exact⟨RE.jd,aM⟩
 |n+1,cs,l,r,B,w=>by
  have P:=r.len;rw[lU]at w;have⟨C,o⟩:=Rf sz n (cs.drop sz) (l.drop sz) (r.drop sz) (CI B λx s=>wC s) (by rw[j5];omega);refine⟨?_,by simp only[vg,cr,o]⟩;have e:l.take ((n+1)*sz)=l.take sz++(l.drop sz).take (n*sz):=by rw[lU,nQ,List.take_add]
  rw[e];exact RE.gb aw5 aw5 (CI B λx s=>z_ s) (r.take sz) C
def W8{F:aE}{L:Nat}{loc loc':VV->AV->Prop}:∀{cs:aC} {l:aD} {r:aD},eU cs=ad r->RL σ F L loc cs l->RL σ F L loc' cs l
 |[],l,r,_,h=>aw6
 |v::cs,l,r,p,h=>by
  cases v<;>simp only[eU]at p<;>try(cases p;done)
  split at p;rename_i C x;simp only[RL]at h|-;have⟨a,t,V,j,d⟩:=h;exact⟨a,t,V,by simpa only[RR]using j,W8 x d⟩;cases p
def acu(S:SR E X Z m h σ){T:Rg}{t:Nat}{x:Operand}{v r:VV}(O:Ao E.D h t v=.ok r)(J:RV E X Z m h σ v<|cn E.D T x):∃z,gy E.D (cn E.D T) (.slice t x ae ae ae)=.ok z/\ RV E X Z m h σ r z:=by
 unfold Ao at O;rw[bF]at O;obtain⟨q,M,O⟩:=O
 cases w:q.1 with
 |none=>rw[w]at O;cases O
 |some n=>
  rw[w]at O
  cases v<;>try(cases O;done)
  rename_i s N i o;simp only[bF,dn,bW,kz,oP]at O;obtain⟨p,D,F,f,⟨⟨⟨⟨I,h2⟩,U⟩,h4⟩,h5⟩,O⟩:=O;cases O;rw[vY]at f;obtain⟨e1,e2⟩:=nX D;simp only[RR,LC]at J
  rcases J with⟨k1,_⟩|⟨k1,i0,j0,e,j,k0,G,k3,L⟩
  omega;have P:=e2;rw[G]at P
  injection P with b1 b2 b3 b4 b5
  rw[<-b5]at f;obtain⟨c0,C,c2,c3,l,a0,c4,c5,c6,c7⟩:=S.cells G;obtain⟨g1,g2,g,g4⟩:=c7.get f;have b:cX X Z m h σ (m s):=by refine⟨C,c2,c3,λb0 Q d0=>?_⟩;have:=S.inj b0 s Q (by rw[G];rfl) d0;subst this;rw[G,b2,I]at Q;cases Q
  have e0:∃V,cP E.D t=.ok (.array n V)/\ size E.D V=.ok q.2:=by
   unfold sh at M
   cases W:cP E.D t with
   |error _=>rw[W]at M;cases M
   |ok d=>
    rw[W]at M
    cases d<;>try(cases M;done)
    rename_i V;simp only[ca,aO]at M
    cases B:size E.D V with
    |error _=>rw[B]at M;cases M
    |ok z=>rw[B]at M;cases M;cases w
    rename_i k V;simp only[ca,aO]at M
    cases B:size E.D V with
    |error _=>rw[B]at M;cases M
    |ok z=>rw[B]at M;cases M;cases w;exact⟨V,aM,B⟩
  obtain⟨V,a,Y⟩:=e0;obtain⟨l0,y⟩:=JC.1 h5;have u:=W8 (loc':=λ_ _=>False) y g;have f0:=g.len;have A:aA ((l.drop<|i*j).take j)=j:=auT;obtain⟨w1,w2⟩:=Rf q.2 n (F.drop o) _ (u.drop o) (CI g4 λx g0=>wC g0) (by rw[j5];omega);refine⟨.slice (m s) (i*j+o) n (ad n) q.2,?_,?_⟩;simp only[gy,L,Cx];unfold pq;rw[a];simp only[ca,aO,Y,dU,Option.isSome_none,mB,fR,ff,yr,kb,wG,ite_self];rfl;simp only[RR];refine .inr ⟨m s,i*j+o,n,ad n,q.2,l,e,a0,j,_,aM,b,C,c4,w2.symm,?_,U,λc h0=>by cases h0;exact auS,w1⟩;rw[nI];have e1:(l.drop<|i*j).take j=(l.drop<|i*j).take j:=rfl;refine⟨?_,?_⟩;rw[Jg,z',ru];exact aw1
  grind
def Xp(S:SR E X Z m h σ){T:Vg}{L:Rg}(B:∀i,RV E X Z m h σ (T i)<|L i){D:Op}{r:VV}(p:pe E.D h (bS T) D=.ok r):
 ∃x,gy E.D (cn E.D L) D=.ok x/\ RV E X Z m h σ r x:=by
 have U:=λx=>oW S B x
 cases D<;>simp only[pe]at p<;>try(cases p;done)
 case move x=>cases p;exact⟨_,aM,U x⟩
 case assign x=>cases p;exact⟨_,aM,U x⟩
 case pick c a b=>
  have⟨t,V,Y,W⟩:=Rx p<|U c
  cases t with
  |true=>cases W;refine⟨_,?_,U a⟩;simp only[gy,V,cO,Ap,ca,aO,dj];rfl
  |false=>cases W;refine⟨_,?_,U b⟩;simp only[gy,V,cO,Ap,ca,aO];rfl
 case build t O=>exact ado S B p
 case nilCheck x=>
  have d:=U x;split at p;rename_i s v i o j;rw[j]at d;rw[dn]at p;have⟨n,p⟩:=p;have n:=dB n;cases p;simp only[RR,LC]at d
  rcases d with⟨V,_⟩|⟨V,d0,e0,e,b0,f0,Y,W,h4⟩
  omega;refine⟨cn E.D L x,?_,?_⟩;simp only[gy,h4];simp only[RR,LC];exact .inr ⟨V,d0,e0,e,b0,f0,Y,W,h4⟩;rename_i q0 o j;rw[j]at d;cases p;refine⟨cn E.D L x,?_,d⟩;simp only[RR]at d;have⟨b,k,l,e,r0,b0,V,_⟩:=d;simp only[gy,V];rename_i f a b j;rw[j]at d;cases p;refine⟨cn E.D L x,?_,d⟩;simp only[RR]at d;have⟨l,r,V,_⟩:=d;simp only[gy,V];rename_i j;rw[j]at d;cases p;refine⟨cn E.D L x,?_,d⟩;simp only[RR]at d;simp only[gy,d];cases p
 case binOp D t x y u=>have⟨z,V,Y⟩:=acS p (U x)<|U y;exact⟨z,V,Y⟩
 case unOp D t x=>simp only[xN,bF]at p;have⟨a,J,b,P,A⟩:=p;refine⟨b,?_,zo A⟩;simp only[gy,uA J<|U x];exact P
 case makeFunc g0 first M=>
  cases g0<;>simp only[pe]at p<;>try(cases p;done)
  rw[dn,bW]at p;have⟨⟨n1,n2⟩,p⟩:=p;cases p;rename_i f;refine⟨_,aM,?_⟩;simp only[RR];exact⟨_,_,aM,⟨RL.refl LC.dN n1<|RL.map U _,RL.refl LC.dN n2<|RL.map U _⟩,RL.map U _,RL.map U _⟩
 case slice t x g G h0=>
  cases h0 with
  |some w=>simp only[pe]at p;cases p
  |none=>
    simp only[pe]at p
    cases I:(Bk x&&g.isNone&&G.isNone)with
    |true=>
     rw[I]at p;simp only[bW,Option.isNone_iff_eq_none]at I;obtain⟨⟨d,rfl⟩,rfl⟩:=I
     have d:x=.global 0:=by unfold Bk at d;split at d<;>first|rfl|cases d
     subst d;exact ahi S p
    |false=>
    rw[I]at p;simp only[br]at p
    cases Q:(G7 (bS T x)&&g.isNone&&G.isNone)with
    |true=>rw[Q]at p;simp only[bW,Option.isNone_iff_eq_none]at Q;obtain⟨⟨_,rfl⟩,rfl⟩:=Q;exact acu S p<|U x
    |false=>
    rw[Q]at p;simp only[br,bF]at p;have⟨q,N,l,i0,s0,j0,A⟩:=p;have r1:=WK i0<|VR S B g;have r2:=WK j0<|VR S B G;have⟨z,k1,k2⟩:=aoq S N r1 r2 A<|U x;exact⟨z,k1,k2⟩
 case fieldAddr t x f=>rw[bF]at p;have⟨k0,l0,p⟩:=p;exact SA l0 p (U x)
 case indexAddr t x C=>simp only[bF]at p;have⟨q,N,i,G,p⟩:=p;have⟨k,m0⟩:=Qe G<|U C;exact Us S N m0 p (U x)
 case index t x C=>simp only[bF]at p;have⟨a,J,b,P,c,n0,A⟩:=p;refine⟨c,?_,zo A⟩;simp only[gy,uA J<|U x,uA P<|U C];exact n0
 case extract t C=>have d:=U t;unfold yN at p;split at p;rename_i t0 j;rw[j]at d;rw[vY]at p;simp only[RR]at d;have⟨l,V,_,Y⟩:=d;have⟨a,k1,k2⟩:=Y.get p;refine⟨a,?_,k2⟩;simp only[gy,V,k1];cases p
 case call c=>
  have⟨o0,args,p0⟩:=c
  cases o0<;>simp only[pe]at p<;>try(cases p;done)
  rename_i b;split at p;rename_i t u0 x V Y;simp only[gy,V,Y]
  cases c0:oh E.D t with
  |true=>rw[c0]at p;simp only[xN,bF]at p;have⟨a,J,b,P,A⟩:=p;refine⟨b,?_,zo A⟩;rw[uA J<|U x];exact P
  |false=>rw[c0]at p;simp only[bF]at p;have⟨q,N,p⟩:=p;exact ai8 N p<|U x
  exact auv;exact auv;cases p
def VN{D:a_}{t:Nat}{i:Nat×Nat}(f:o9 D t=.ok i):cP D t=.ok (.map i.1 i.2)/\ mS D 10 i.1=aa:=by
 unfold o9 at f
 cases q:cP D t with
 |error e=>rw[q]at f;cases f
 |ok d=>
  rw[q]at f;simp only[ca,aO]at f
  cases d<;>try(cases f;done)
  rename_i l W;simp only at f
  cases p:mS D 10 l with
  |false=>rw[p]at f;cases f
  |true=>rw[p]at f;cases f;exact⟨aM,p⟩
def VM(S:SR E X Z m h σ){x:VV}{es:List (AV×VV)}(U:o7 h x=.ok es){a:AV}(v:RV E X Z m h σ x a):∃I c,p' σ a=.ok (I,c)/\ MR es I:=by
 unfold o7 at U;split at U;cases U;simp only[RR]at v;rw[v.1];exact⟨[],0,aM,by simp only[MR]⟩;rename_i s D;rw[dn]at U;have⟨Q,U⟩:=U;have Q:=dB Q;split at U;rename_i l f;cases U;simp only[RR,LC]at v
 rcases v with⟨V,_⟩|⟨_,N,p,rfl⟩
 omega;have⟨_,d,_,_,A⟩:=S.ct s (by rw[f];rfl);rw[f]at A;have⟨I,c,M,Y,_⟩:=A;refine⟨I,c,?_,Y⟩;simp only[p',d,dj,M];cases U;cases U
def K8{D:a_}{t:Nat}{k:AV}:∀{es:List (AV×VV)} {I:List (AV×AV×Nat)} {w:Option VV} (i:Nat),oa D t k es=.ok w->MR es I->
 (w=ae/\ findKey D t k I i=.ok ae)\/ ∃v j,w=ad (.aN v)/\ lL v=aa/\ uw v=aa/\ findKey D t k I i=.ok (ad (j,.aN v))
 |[],I,w,i,M,Y=>by simp only[MR]at Y;subst Y;cases M;exact .inl ⟨aM,aM⟩
 |(A,v)::es,I,w,i,M,Y=>by
  simp only[MR]at Y;obtain⟨u,c,r,rfl,rfl,V,a,Y⟩:=Y;simp only[oa,bF]at M;have⟨b,e,M⟩:=M
  cases b with
  |true=>cases M;refine .inr ⟨u,i,aM,V,a,?_⟩;simp only[findKey,e,ca,aO,dj];rfl
  |false=>
   simp only[br]at M;have:findKey D t k ((A,.aN u,c)::r) i=findKey D t k r (i+1):=by simp only[findKey,e,ca,aO];rfl
   rw[this];exact K8 (i+1) M Y
def XK(S:SR E X Z m h σ){T:Vg}{L:Rg}(F:∀i,RV E X Z m h σ (T i)<|L i){l:Op}{r:VV}(M:zz E.D h (bS T) l=.ok r):
 ∃x,kM E.D σ (cn E.D L) l=.ok x/\ RV E X Z m h σ r x:=by
 have U:=λx=>oW S F x
 cases l<;>simp only[zz]at M<;>try(cases M;done)
 case load t a=>simp only[bF]at M;have⟨q,u,p,Y,J⟩:=M;exact Mm S u Y (U a) J
 case convert s d x=>simp only[bF]at M;have⟨a,V,b,e,A⟩:=M;refine⟨b,?_,zo A⟩;simp only[kM,uA V<|U x,e]
 case lookup t x y ok=>
  simp only[zg,bF]at M;have⟨B,D,c0,P,k,f,b,e,M⟩:=M;rw[dn]at M;obtain⟨rfl,M⟩:=M;rw[bF]at M;have⟨w,g,M⟩:=M;have⟨W,I⟩:=VN D;have⟨Q,c,O,g2⟩:=VM S P<|U x;have a0:=uA f<|U y
  have start:∀z,(aO (findKey E.D B.1 k Q 0) λr=>(match r with
   |some (_,v)=>return(if ok then .tuple [v,cO aa]else v)
   |none=>aO (zero E.D B.2) λz=>return(if ok then .tuple [z,cO ab]else z):R AV))=.ok z->kM E.D σ (cn E.D L) (.lookup t x y ok)=.ok z:=by
   intro z o;simp only[kM,DX,W,O,a0,ca];show(if mS E.D 10 B.1=aa then _ else _)=_;rw[b8 I];show(aO (bX E.D 10 B.1 k k) _)=_;rw[e];exact o
  rcases K8 0 g g2 with⟨rfl,n⟩|⟨v,j,rfl,s1,s2,n⟩
  simp only[bF]at M;have⟨z,o,M⟩:=M;have⟨b0,N,C,G⟩:=OF (E:=E) (X:=X) (Z:=Z) (m:=m) (h:=h) (σ:=σ) o
  cases ok with
  |true=>cases M;refine⟨.tuple [N,cO ab],start _ ?_,?_⟩;rw[n];show aO (zero E.D B.2) _=_;rw[C];rfl;show RV E X Z m h σ (.bn [z,.aN<|.bool ab]) _;simp only[RR];have A:=RL.gb G<|RL.one<|CO (E:=E) (X:=X) (Z:=Z) (m:=m) (h:=h) (σ:=σ) ab;exact⟨_,aM,RL.refl LC.dN (by simp only[uS,b0,List.all_nil,uO];rfl) A,A⟩
  |false=>cases M;refine⟨N,start _ ?_,G⟩;rw[n];show aO (zero E.D B.2) _=_;rw[C];rfl
  have e:RV E X Z m h σ (.aN v) (.aN v):=by simp only[RR];exact⟨trivial,s1,s2⟩
  cases ok with
  |true=>cases M;refine⟨.tuple [.aN v,cO aa],start _ ?_,?_⟩;rw[n];rfl;show RV E X Z m h σ (.bn [.aN v,.aN<|.bool aa]) _;simp only[RR];have A:=RL.gb e<|RL.one<|CO (E:=E) (X:=X) (Z:=Z) (m:=m) (h:=h) (σ:=σ) aa;exact⟨_,aM,RL.refl LC.dN (by simp[et]) A,A⟩
  |false=>cases M;refine⟨.aN v,start _ ?_,e⟩;rw[n];rfl
end
def jx(h:H)(s:Nat)(x:VO):(h.cu s x).o s=x:=by simp[H.cu]
def ic{h:H}{s F:Nat}{x:VO}(hn:F≠s):(h.cu s x).o F=h.o F:=by
 have:ag F s=ab:=by
  cases e:ag F s with
  |false=>rfl
  |true=>exact absurd (dB e) hn
 simp[H.cu,this]
def ri(m:Nat->Nat)(s b:Nat):Nat->Nat:=λi=>if i=s then b else m i
def sr(m:Nat->Nat)(s b:Nat):ri m s b s=b:=by simp[ri]
def B8{m:Nat->Nat}{s b i:Nat}(hn:i≠s):ri m s b i=m i:=by simp[ri,hn]
section
variable{E:cI}{X Z:Nat->Prop}{m:Nat->Nat}{h:H}{σ:St}
def OR.mono{σ σ':St}{F r:aE}{L:Nat}{loc loc':VV->AV->Prop}(hn:σ.n<=σ'.n)(W:∀b,b<σ.n->F b->r b/\ b<σ'.n/\ σ'.a7 b=σ.a7 b)(P:∀v a,loc v a->loc' v a){k:VK}{o:AO}(B:OR σ F L loc k o):OR σ' r L loc' k o:=by
 cases k with
 |none=>trivial
 |map l=>exact B
 |cells C J e j t=>have⟨l,q,V,p,d,A⟩:=B;refine⟨l,q,V,p,d,RE.mono hn W ?_ j t l A⟩;cases C;exact at6;exact P
def SR.yP(S:SR E X Z m h σ){s:Nat}{k:VK}{o:AO}{σ1:St}(hn:σ1.n=σ.n)(I:aA σ1.l=σ1.n)(U:σ1.M=σ.M)
 (y:∀b,b<σ.n->(σ1.a7 b=σ.a7 b\/ (h.o s).k.hV=aa/\ b=m s))(f:OR σ (cX X Z m h σ) E.L (LC σ.n m h) k o):
 SR E X Z (ri m s σ.n) (h.new s k) (σ1.push o)/\ Ex X Z m h σ X Z (ri m s σ.n) (h.new s k) (σ1.push o):=by
 have w:(σ1.push o).n=σ.n+1:=by simp[St.push,hn]
 have v:∀b,b<σ.n->((h.o s).k.hV=aa->b≠m s)->(σ1.push o).a7 b=σ.a7 b:=by
  intro b e N;rw[eP aW]
  grind
 have O:(σ1.push o).a7 σ.n=o:=by rw[<-hn];exact kk
 have M:Ex X Z m h σ X Z (ri m s σ.n) (h.new s k) (σ1.push o):=by refine⟨aW,λs B=>(S.ct s B).2.1,λb z=>⟨z,v b (S.zb b z).2.1 λq d=>(S.ct s<|VK.rh q).2.2.2.1 (d▸z)⟩,λb e=>?_,λF=>?_⟩;have⟨L,D,r,P⟩:=e;refine⟨⟨aW,D,r,λF Q=>?_⟩,v b L λq d=>P s q d.symm⟩;by_cases B:F=s;subst B;rw[sr];omega;rw[B8 B];rw[H.new,ic B]at Q;exact P F Q;by_cases B:F=s;subst B;left;rw[H.new,jx];exact nR _;exact .inr<|.fN (by rw[H.new,ic B]) (B8 B) λl=>v _ (S.ct F l).2.1 λq d=>B (S.inj s F q l d.symm).symm
 refine⟨⟨by simp[St.push,I],by rw[w];have:=S.ng;omega,by rw[w];have:=S.n0;omega,?_,λb e=>by have:=S.xb b e;omega,λb e=>?_,λF Q=>?_,λa b J e g=>?_,S.gl.mono M.fs⟩,M⟩;refine E.jN _ _ _ _ σ _ S.dO aW (by simp[St.push,I]) (λb e x=>v b e λq d=>?_) (by simp[St.push,U]) λb e=>(M.fs b e).1;subst d;have⟨C,G,j,_⟩:=S.ct s<|VK.rh q
 rcases x with x|x|x
 omega;exact j x;exact x.2.2.2 s q aM;have⟨c,T,u⟩:=S.zb b e
 grind
 by_cases B:F=s;subst B;rw[sr,H.new,jx];refine⟨S.n0,aW,λx=>?_,λz=>?_,?_⟩;have:=S.xb _ x;omega;have:=(S.zb _ z).2.1;omega;rw[O];exact OR.mono M.n M.hF M.lc f;rw[B8 B];rw[H.new,ic B]at Q|-;have⟨C,G,j,W,t⟩:=S.ct F Q;refine⟨C,aW,j,W,?_⟩;rw[v _ G λq d=>B (S.inj s F q Q d.symm).symm];exact OR.mono M.n M.hF M.lc t;by_cases V:a=s;by_cases p:b=s;rw[V,p];subst V;rw[sr,B8 p]at g;rw[H.new,ic p]at e;have:=(S.ct b e).2.1;omega;rw[H.new,ic V]at J;rw[B8 V]at g;by_cases p:b=s;subst p;rw[sr]at g;have:=(S.ct a<|VK.rh J).2.1;omega;rw[B8 p]at g;rw[H.new,ic p]at e;exact S.inj a b J e g
def SR.E7(S:SR E X Z m h σ){s:Nat}{k:VK}{o:AO}(v:(h.o s).k.hV=aa)(f:OR σ (cX X Z m h σ) E.L (LC σ.n m h) k o)(J:mu (h.o s).k k)(D:k.hV=aa):
 SR E X Z m (h.mod s k) (σ.set (m s) o)/\ Ex X Z m h σ X Z m (h.mod s k) (σ.set (m s) o):=by
 have⟨Y,t,n,j,_⟩:=S.ct s<|VK.rh v;have c:∀b,b≠m s->(σ.set (m s) o).a7 b=σ.a7 b:=λb e=>kZ t<|hG e;have I:(σ.set (m s) o).l.length=σ.n:=by simp[St.set,S.wf]
 have q:∀F,((h.mod s k).o F).k.hV=aa->(h.o F).k.hV=aa:=by intro F Q;by_cases V:F=s;subst V;exact v;rwa[H.mod,ic V]at Q
 have C:∀F,((h.mod s k).o F).k.ct=aa->(h.o F).k.ct=aa:=by intro F Q;by_cases V:F=s;subst V;exact VK.rh v;rwa[H.mod,ic V]at Q
 have B:Ex X Z m h σ X Z m (h.mod s k) (σ.set (m s) o):=by refine⟨bu _,λs J=>(S.ct s J).2.1,λb z=>⟨z,c b λd=>j<|d▸z⟩,λb e=>?_,λF=>?_⟩;have⟨L,N,r,P⟩:=e;exact⟨⟨L,N,r,λF Q=>P F<|q F Q⟩,c b<|hG<|P s v⟩;right;by_cases V:F=s;subst V;refine⟨by rw[H.mod,jx],.inl rfl,by rw[H.mod,jx];exact J,by rw[H.mod,jx];exact wH _,λ_ A=>?_⟩;rw[H.mod,jx]at A;exact at6;exact .fN (by rw[H.mod,ic V]) aM λG=>c _ λd=>V (S.inj s F v G d.symm).symm
 refine⟨⟨I,S.ng,S.n0,?_,S.xb,S.zb,λF Q=>?_,λa b y e g=>S.inj a b (q a y) (C b e) g,S.gl.mono B.fs⟩,B⟩;refine E.jN _ _ _ _ σ _ S.dO (bu _) I (λb e x=>c b λd=>?_) aM λb e=>(B.fs b e).1;subst d
 rcases x with x|x|x
 omega;exact n x;exact x.2.2.2 s v aM;have⟨O,w,u,M,W⟩:=S.ct F<|C F Q;refine⟨O,w,u,M,?_⟩;by_cases V:F=s;subst V;rw[H.mod,jx,pS S.wf t];exact OR.mono B.n B.hF B.lc f;rw[H.mod,ic V,c _ λd=>V (S.inj s F v (C F Q) d.symm).symm];exact OR.mono B.n B.hF B.lc W
def SR.fM(S:SR E X Z m h σ)(s:Nat):SR E X Z m (fM h s) σ/\ Ex X Z m h σ X Z m (fM h s) σ:=by
 unfold Vm.fM
 cases f:(h.o s).k with
 |none=>exact⟨S,Ex.refl _ _ _ _ _ λs J=>(S.ct s J).2.1⟩
 |map l=>exact⟨S,Ex.refl _ _ _ _ _ λs J=>(S.ct s J).2.1⟩
 |cells d p e j t=>
  simp only;have q:∀F,((h.cu s ⟨(h.o s).ver,(h.o s).md,.cells d aa e j t⟩).o F).k.hV=aa->F≠s/\ (h.o F).k.hV=aa:=aup;have C:∀F,((h.cu s ⟨(h.o s).ver,(h.o s).md,.cells d aa e j t⟩).o F).k.ct=aa->(h.o F).k.ct=aa:=by intro F Q;by_cases V:F=s;subst V;rw[f];rfl;rwa[ic V]at Q
  have B:Ex X Z m h σ X Z m (h.cu s ⟨(h.o s).ver,(h.o s).md,.cells d aa e j t⟩) σ:=by refine⟨bu _,λs J=>(S.ct s J).2.1,λb z=>⟨z,aM⟩,λb P=>?_,λF=>?_⟩;have⟨L,D,r,c⟩:=P;exact⟨⟨L,D,r,λF Q=>c F (q F Q).2⟩,aM⟩;right;by_cases V:F=s;subst V;exact⟨by rw[jx],.inl rfl,by rw[jx,f];exact⟨aM,aM,aM,aM⟩,by rw[jx];exact auS,λ_ _=>⟨aM,by rw[jx,f];rfl⟩⟩;exact .fN (by rw[ic V]) aM λ_=>rfl
  refine⟨⟨S.wf,S.ng,S.n0,?_,S.xb,S.zb,λF Q=>?_,λa b T P g=>S.inj a b (q a T).2 (C b P) g,S.gl.mono B.fs⟩,B⟩;rw[show(h.cu s ⟨(h.o s).ver,(h.o s).md,.cells d aa e j t⟩).y=h.y from aM];exact E.jN _ _ _ _ σ _ S.dO (bu _) S.wf (λ_ _ _=>rfl) aM λb P=>(B.fs b P).1;have⟨O,w,A,M,N⟩:=S.ct F<|C F Q;refine⟨O,w,A,M,?_⟩;by_cases V:F=s;subst V;rw[jx];rw[f]at N;have⟨l,v,x,n,G,I⟩:=OR.mono B.n B.hF B.lc N;exact⟨l,v,x,λh=>(by cases h),G,I⟩;rw[ic V];exact OR.mono B.n B.hF B.lc N
def Ex.trans{X Z X' Z' W p:aE}{m m' J:Nat->Nat}{h h' I:H}{σ σ' A:St}(a:Ex X Z m h σ X' Z' m' h' σ')(b:Ex X' Z' m' h' σ' W p J I A):Ex X Z m h σ W p J I A:=by
 refine⟨jS a.n b.n,a.b,λx U=>⟨(b.zs x (a.zs x U).1).1,((b.zs x (a.zs x U).1).2).trans (a.zs x U).2⟩,λx U=>?_,λs=>?_⟩;have⟨C,w⟩:=a.fs x U;have⟨j,O⟩:=b.fs x C;exact at6
 rcases a.st s with h1|h1
 left
 rcases b.st s with g1|g1
 omega;have:=g1.ver;omega
 rcases b.st s with g1|g1
 left;have:=h1.ver;omega;right;refine⟨g1.ver.trans h1.ver,?_,h1.k.trans g1.k,jS h1.md g1.md,λl e=>?_⟩;by_cases r:(h.o s).k=.none;exact .inr r;left;have g:=h1.mm.resolve_right r
 rcases g1.mm with g2|g2
 omega;exfalso;have:=h1.k;rw[g2]at this;cases f:(h.o s).k<;>rw[f]at this r<;>simp_all [mu];have g:(h'.o s).md=(h.o s).md:=by have:=h1.md;have:=g1.md;omega
 have⟨C,w⟩:=h1.eq l g;have⟨j,O⟩:=g1.eq (h1.k.ct l) aW;have r:(h.o s).k≠.none:=λr=>by rw[r]at l;cases l
 rw[h1.mm.resolve_right r]at j;exact⟨j.trans C,w.trans O⟩
def SR.cp(S:aK):∀{h:H},SR E X Z m h σ->SR E X Z m (cp h S) σ/\ Ex X Z m h σ X Z m (cp h S) σ:=by
 induction S with
 |nil=>intro h r;exact⟨r,Ex.refl _ _ _ _ _ λs B=>(r.ct s B).2.1⟩
 |cons s S I=>intro h r;have⟨C,g⟩:=r.fM s;have⟨w,k⟩:=I C;exact⟨w,g.trans k⟩
end
def af_(h:H)(s F:Nat):((fM h s).o F).ver=(h.o F).ver/\ ((fM h s).o F).md=(h.o F).md:=by
 unfold fM
 cases f:(h.o s).k with
 |none=>exact⟨aM,aM⟩
 |map l=>exact⟨aM,aM⟩
 |cells C P e j t=>simp only;by_cases B:F=s;subst B;rw[jx];exact at1;rw[ic B];exact at1
def af9(h:H)(s F:Nat):((fM h s).o F).k=match(h.o F).k with
 |.cells C P e j t=>.cells C (P||ax (F=s)) e j t
 |k=>k:=by
 unfold fM
 cases f:(h.o s).k with
 |none=>
  simp only;by_cases B:F=s;subst B;rw[f]
  grind
 |map l=>
  simp only;by_cases B:F=s;subst B;rw[f]
  grind
 |cells C P e j t=>simp only;by_cases B:F=s;subst B;rw[jx,f];simp;rw[ic B];cases(h.o F).k<;>simp[B]
def atQ(S:aK):∀(h:H) (F:Nat),((cp h S).o F).ver=(h.o F).ver/\ ((cp h S).o F).md=(h.o F).md:=by
 induction S with
 |nil=>exact λh F=>⟨aM,aM⟩
 |cons s S I=>intro h F;simp only[cp];rw[(I _ F).1,(I _ F).2];exact af_ h s F
def A7(S:aK):∀(h:H) (F:Nat),((cp h S).o F).k=match(h.o F).k with
 |.cells C P e j l=>.cells C (P||ax (F∈S)) e j l
 |k=>k:=by
 induction S with
 |nil=>intro h F;simp only[cp];cases(h.o F).k<;>simp
 |cons s S I=>intro h F;simp only[cp];rw[I,af9];cases(h.o F).k<;>simp[Bool.or_assoc]
def GG(S:aK):∀(h:H),(cp h S).y=h.y:=by
 induction S with
 |nil=>exact λ_=>rfl
 |cons s S I=>intro h;simp only[cp];rw[I];unfold fM;split<;>rfl
section
variable{E:cI}{X Z:Nat->Prop}{m:Nat->Nat}{h:H}{σ:St}
def atY{α:Type}{x:Option α}{a:α}:ib x=.ok a↔x=ad a:=vY
mutual
def GN(T:SR E X Z m h σ){S':aK}:∀(n:Nat) (v:VV) (r:VV) (S:aK) (a:AV),cq h n v=.ok (r,S)->(∀s∈S,s∈S')->RV E X Z m h σ v a->RF E X Z m (cp h S') σ r a
 |0,v,r,S,a,j,_,_=>by simp[cq]at j
 |n+1,v,r,S,a,j,J,Y=>by
  have n0:=(T.cp S').2;have y:∀(v:VV) (a:AV),RF E X Z m h σ v a->RF E X Z m (cp h S') σ v a:=λv a Y=>n0.rf Y
  cases v<;>simp only[cq]at j<;>try(cases j;done)
  case aN v=>cases j;simp only[RR]at Y|-;exact Y
  case nil=>cases j;simp only[RR,LC]at Y;subst Y;simp only[RR];exact .inl ⟨trivial,by simp[iS]⟩
  case fz N=>cases j;apply y;simp only[RR]at Y|-;exact Y
  case bh s b0 o L=>
   rw[bF]at j;have⟨q,u,j⟩:=j;have⟨e1,e2⟩:=nX u;simp only[RR,LC]at Y
   rcases Y with⟨k1,_⟩|⟨k1,l0,u0,e,B,N,x,k3,k4⟩
   omega;rw[x]at e2
   injection e2 with b1 b2 b3 b4 b5
   have⟨c0,C,c2,c3,l,P,c4,c5,c6,A⟩:=T.cells x;have dC:∀(V:aB),aA V=L->RE σ (cX X Z m (cp h S') σ) E.L (λ_ _=>False) B V ((l.drop<|o*B).take<|L*B)->aA l=aA N*B->s∈S'->RF E X Z m (cp h S') σ (.fz V) a:=by
    intro V I o0 g v0;have m0:cX X Z m (cp h S') σ (m s):=at4;simp only[RR]
    rcases k4 with⟨rfl,y0,⟨p,z0,z,rfl⟩|⟨p,e0,rfl⟩⟩|⟨e0,rfl,f0⟩
    exact .inl ⟨sy I,by simp only[iS];exact C⟩;exact .inl ⟨sy I,by simp only[iS];exact⟨trivial,C,m0,l,e,P,B,c4⟩⟩;right;refine⟨m s,o*B,L,e0,B,l,e,P,B,(l.drop<|o*B).take<|L*B,aM,m0,C,c4,I.symm,?_,c6,λc d=>(f0 c d).2,o0⟩;rw[nI];refine⟨aM,?_⟩;simp only[ep,j5];have:=uY B k3
    grind
   have g:aA l=aA N*B:=A.len;rw[<-b1]at j
   cases l0 with
   |false=>simp only[br,vq,bF]at j;have⟨V,⟨A0,g0,a0⟩,j⟩:=j;rw[u]at g0;cases g0;rw[<-b1]at a0;simp only[br]at a0;rw[dn,oP]at a0;have⟨U,a0⟩:=a0;cases a0;cases j;rw[<-b5]at U|-;have A:RE σ (cX X Z m (cp h S') σ) E.L (λ_ _=>False) B N l:=RE.mono n0.n n0.hF (λ_ _ h=>h) B N l (by simpa using A);exact dC _ auT ((A.drop o).take L) g<|J s aY
   |true=>simp only[a8]at j;rw[dn,oP]at j;have⟨U,j⟩:=j;rw[bF]at j;have⟨p,t0,j⟩:=j;cases j;rw[<-b5]at U t0;simp only[dj]at A;have:=Tu T n B _ p.1 p.2 _ t0 (λs Q=>J s<|by simp[Q])<|(A.drop o).take L;exact dC _ (by rw[this.1];exact auT) this.2 g (J s aY)
  case aR s b0 i o=>
   simp only[bF]at j;have⟨O,d,q,u,j⟩:=j;cases j;have w0:=RJ T (p:=(O,o)) (v:=.aR s b0 i o) (by simp only[oT,d];rfl) Y;have⟨b,k,l,e,P,B,M,d1,d2,d3,d4,d5⟩:=w0;have i0:=sQ T n O q.1 q.2 _ u (λs Q=>J s<|by simp[Q]) d4;unfold qD at d;rw[bF]at d;have⟨w,x0,d⟩:=d;have⟨e1,e2⟩:=nX x0;have j0:=Y;simp only[RR,LC]at j0
   rcases j0 with⟨k1,_⟩|⟨k1,l0,u0,B0,k0,N,x,k3,k4⟩
   omega
   have q0:b=m s:=by rw[k4]at M;injection M with M _;exact M.symm
   have⟨c0,C,c2,c3,_⟩:=T.cells x;have m0:cX X Z m (cp h S') σ b:=by rw[q0];exact at4
   have g:aA q.1=aA O:=by
    have e1:=i0.len
    grind
   simp only[RR];exact⟨b,k,l,e,P,B,M,m0,d1,d2,by rw[g];exact d3,by rw[g];exact d5,by rw[g];exact i0⟩
  case emp B=>
   cases j;apply y;simp only[RR]at Y|-;refine .inl ⟨trivial,?_⟩
   rcases Y with⟨p,rfl⟩|⟨b,l,e,P,k0,rfl,W,G,h4⟩
   exact at1;exact⟨aM,G,W,l,e,P,k0,h4⟩
  case bA O o=>cases j;apply y;simp only[RR]at Y|-;exact Y
  case agg O=>rw[bF]at j;have⟨q,u,j⟩:=j;cases j;simp only[RR]at Y|-;have⟨l,h1,W,G⟩:=Y;exact⟨l,h1,W,sQ T n O q.1 q.2 l u J G⟩
  case bn O=>rw[bF]at j;have⟨q,u,j⟩:=j;cases j;simp only[RR]at Y|-;have⟨l,h1,W,G⟩:=Y;exact⟨l,h1,W,sQ T n O q.1 q.2 l u J G⟩
  case func f p c=>simp only[bF]at j;have⟨q1,r0,q2,s0,j⟩:=j;cases j;simp only[RR]at Y|-;have⟨l,r,h1,h0,W,G⟩:=Y;exact⟨l,r,h1,h0,sQ T n p q1.1 q1.2 l r0 (λs Q=>J s<|by simp[Q]) W,sQ T n c q2.1 q2.2 r s0 (λs Q=>J s<|by simp[Q]) G⟩
termination_by n=>(n,0,0)
def sQ(T:SR E X Z m h σ){S':aK}:∀(n:Nat) (L:aC) (rs:aC) (S:aK) (l:aD),d_ (cq h n) L=.ok (rs,S)->(∀s∈S,s∈S')->fl E X Z m h σ L l->rB E X Z m (cp h S') σ rs l
 |n,[],rs,S,l,j,_,Y=>awL
 |n,v::L,rs,S,l,j,B,Y=>by simp only[d_,bF]at j;have⟨p,M,q,u,j⟩:=j;cases j;simp only[RL]at Y;obtain⟨a,r,rfl,V,e⟩:=Y;exact RL.gb (GN T n v p.1 p.2 a M (λs Q=>B s<|by simp[Q]) V) (sQ T n L q.1 q.2 r u (λs Q=>B s<|by simp[Q]) e)
termination_by n L=>(n,1,aA L)
def Tu(T:SR E X Z m h σ){S':aK}:∀(n sz:Nat) (es:aB) (rs:aB) (S:aK) (l:aD),tY (cq h n) es=.ok (rs,S)->(∀s∈S,s∈S')->RE σ (cX X Z m h σ) E.L (LC σ.n m h) sz es l->
 aA rs=aA es/\ RE σ (cX X Z m (cp h S') σ) E.L (λ_ _=>False) sz rs l
 |n,sz,[],rs,S,l,j,_,v=>by simp only[tY]at j;cases j;simp only[RE]at v|-;exact at6
 |n,sz,c::es,rs,S,l,j,B,v=>by simp only[tY,bF]at j;have⟨p,M,q,u,j⟩:=j;cases j;simp only[RE]at v;obtain⟨a,r,rfl,V,e,d,A,f⟩:=v;have⟨x,o⟩:=Tu T n sz es q.1 q.2 r u (λs Q=>B s<|by simp[Q]) f;have k:=sQ T n c p.1 p.2 a M (λs Q=>B s<|by simp[Q]) A;exact⟨by simp[x],RE.gb V (by have:=RL.len k;omega) d k o⟩
termination_by n sz es=>(n,2,aA es)
end
def RF.rv{v:VV}{a:AV}(Y:RF E X Z m h σ v a):RV E X Z m h σ v a:=RR.mono (bu _) (λb e j=>⟨j,e,aM⟩) (λ_ _ h=>h.elim) v a Y
def Ts(T:SR E X Z m h σ){S':aK}:∀(L:aC) (rs:aC) (S:aK) (l:aD),d_ (nt h) L=.ok (rs,S)->(∀s∈S,s∈S')->fl E X Z m h σ L l->RL σ (cX X Z m (cp h S') σ) E.L LU rs l
 |[],rs,S,l,j,_,Y=>awL
 |v::L,rs,S,l,j,B,Y=>by
  simp only[d_,bF]at j;have⟨p,M,q,u,j⟩:=j;cases j;simp only[RL]at Y;obtain⟨a,r,rfl,V,e⟩:=Y;refine RL.gb ?_<|Ts T L q.1 q.2 r u (λs Q=>B s<|by simp[Q]) e;have P:cq h e8 v=.ok p->RR σ (cX X Z m (cp h S') σ) E.L LU p.1 a:=λM=>RR.mono (bu _) (λb d j=>⟨j,d,aM⟩) (λ_ _ h=>h.elim) _ _<|GN T _ v p.1 p.2 a M (λs Q=>B s<|by simp[Q]) V
  cases v<;>try exact P M
  cases M;simp only[RR]at V|-;exact⟨V.1,V.2.1,aM,aM⟩
def Lw(S:SR E X Z m h σ){v r:VV}{h':H}{a:AV}(j:mO h v=.ok (r,h'))(Y:RV E X Z m h σ v a):SR E X Z m h' σ/\ Ex X Z m h σ X Z m h' σ/\ RF E X Z m h' σ r a:=by unfold mO at j;rw[bF]at j;have⟨p,M,j⟩:=j;cases j;have⟨C,w⟩:=S.cp p.2;exact⟨C,w,GN S _ _ _ _ _ M (λ_ h=>h) Y⟩
end
section
variable{E:cI}{X Z:Nat->Prop}{m:Nat->Nat}{h:H}{σ:St}
def LC.dI(S:SR E X Z m h σ):∀(v:VV) (a:AV),LC σ.n m h v a->de σ.n a=aa:=by
 intro v a Y
 cases v with
 |nil=>simp only[LC]at Y;rw[Y];rfl
 |undef=>simp only[LC]at Y;rw[Y];rfl
 |kT=>exact Y
 |aN _=>exact Y.elim
 |fz _=>exact Y.elim
 |bA _ _=>exact Y.elim
 |emp _=>exact Y.elim
 |agg _=>exact Y.elim
 |bn _=>exact Y.elim
 |func _ _ _=>exact Y.elim
 |yield=>exact Y.elim
 |bh s f o L=>
  rcases Y with⟨_,_,P⟩|⟨_,C,J,e,j,t,V,_,d⟩
  exact P;have x:ah (m s) σ.n=aa:=kz.2 (S.ct s<|by rw[V];rfl).2.1
  rcases d with⟨_,_,⟨p,l,z,rfl⟩|⟨p,I,rfl⟩⟩|⟨I,rfl,_⟩<;>exact x
 |aR s f i o=>
  rcases Y with⟨_,_,P⟩|⟨_,C,J,e,j,t,V,_,d⟩
  exact P;rw[d];exact kz.2 (S.ct s<|by rw[V];rfl).2.1
 |cz s f=>
  rcases Y with⟨_,_,P⟩|⟨_,l,V,d⟩
  exact P;rw[d];exact kz.2 (S.ct s<|by rw[V];rfl).2.1
def RV.dI(S:SR E X Z m h σ){v:VV}{a:AV}(Y:RV E X Z m h σ v a):de σ.n a=aa:=RR.dI (LC.dI S) v a Y
def fl.dI(S:SR E X Z m h σ){v:aC}{a:aD}(Y:fl E X Z m h σ v a):cD σ.n a=aa:=RL.dI (LC.dI S) v a Y
def Made(E:cI)(X Z:Nat->Prop)(m:Nat->Nat)(h:H)(σ:St)(r:R<|AV×AO)(v:VV)(h':H):Prop:=∃a o m',r=.ok (a,o)/\ dM (σ.n+1) o=aa/\ SR E X Z m' h' (σ.push o)/\ Ex X Z m h σ X Z m' h' (σ.push o)/\ RV E X Z m' h' (σ.push o) v a
def zh(S:SR E X Z m h σ){s:Nat}{k:VK}{o:AO}(f:OR σ (cX X Z m h σ) E.L (LC σ.n m h) k o):
 SR E X Z (ri m s σ.n) (h.new s k) (σ.push o)/\ Ex X Z m h σ X Z (ri m s σ.n) (h.new s k) (σ.push o):=
 S.yP (σ1:=σ) rfl S.wf rfl (λ_ _=>.inl aM) f
def vV(h:H)(s:Nat)(k:VK):((h.new s k).o s).ver=(h.o s).ver+1/\ ((h.new s k).o s).k=k:=by rw[H.new,jx];exact at1
def VJ(S:SR E X Z m h σ){s t n:Nat}{cs:aC}{l:aD}(f:fl E X Z m h σ cs l)(B:l.all cT=aa)(hn:aA cs=n)(h0:0<n):
 Made E X Z m h σ (.ok (.aR σ.n 0,.cells l t aa n)) (.aR s ((h.o s).ver+1) 0 0) (h.new s<|.cells aa ab t n [cs]):=by
 have P:=f.len
 have⟨C,w⟩:=zh S (s:=s) (k:=.cells aa ab t n [cs]) (o:=.cells l t aa n) ⟨l,aa,aM,λ_=>rfl,h0,by
  simp only[dj]
  exact RE.one aW hn B f⟩
 refine⟨_,_,_,aM,?_,C,w,?_⟩;simp only[dM];exact wR (wH _) _<|fl.dI S f;simp only[RR,LC];have⟨g,O⟩:=vV h s<|.cells aa ab t n [cs];refine .inr ⟨g.symm,aa,ab,t,n,[cs],O,aY,?_⟩;rw[sr];simp
def Nf(z:aC):∀n,aA (kr z n)=n
 |0=>rfl
 |n+1=>by simp[kr,Nf z n]
def Ng{F:aE}{L:Nat}{loc:VV->AV->Prop}{z:aC}{l:aD}{sz:Nat}(o:RL σ F L loc z l)(B:l.all cT=aa)(hn:aA z=sz):∀n,RE σ F L loc sz (kr z n)<|lI l n
 |0=>RE.jd
 |n+1=>RE.gb (by have:=o.len;omega) hn B o<|Ng o B hn n
def Tt(S:SR E X Z m h σ){v:VV}{cs:aC}{h':H}(j:rP h v=.ok (cs,h')){a:AV}(Y:RV E X Z m h σ v a):
 SR E X Z m h' σ/\ Ex X Z m h σ X Z m h' σ/\ rB E X Z m h' σ cs a.cells/\ a.cells.all cT=aa:=by
 unfold rP at j;simp only[bF]at j;have⟨p,M,C,c,j⟩:=j;cases j;have⟨O,w,D⟩:=Lw S (h':=p.2) (r:=p.1) M Y;have⟨x,o⟩:=Az (λ_ _ h=>h.elim) c D;exact at6
def Tv:∀{O:List (Nat×VV)} {u:List (Nat×AV)} {h:H} {rs:List (Nat×aC)} {h':H},SR E X Z m h σ->Bb h O=.ok (rs,h')->O.map (·.1)=u.map (·.1)->fl E X Z m h σ (O.map (·.2)) (u.map (·.2))->
 SR E X Z m h' σ/\ Ex X Z m h σ X Z m h' σ/\ aA rs=aA u/\ ∀i:Nat,i<aA rs->∃r q,rs[i]?=ad r/\ u[i]?=ad q/\ r.1=q.1/\ rB E X Z m h' σ r.2 q.2.cells/\ q.2.cells.all cT=aa
 |[],[],h,rs,h',S,t,_,_=>by simp only[Bb]at t;cases t;exact⟨S,Ex.refl _ _ _ _ _ λs B=>(S.ct s B).2.1,aM,λi G=>by simp at G⟩
 |[],_::_,_,_,_,_,_,V,_=>by simp at V
 |_::_,[],_,_,_,_,_,V,_=>by simp at V
 |(i,v)::O,(j,a)::u,h,rs,h',S,t,V,Y=>by
  simp only[cL,Je]at V;obtain⟨rfl,V⟩:=V;simp only[cL,RL]at Y;have⟨F,z,e,y,Y⟩:=Y;cases e;simp only[Bb,bF]at t;have⟨p,M,q,N,t⟩:=t;cases t;have⟨C,w,D,f⟩:=Tt S M y;have⟨x,o,T,I⟩:=Tv C N V<|w.rvl Y;refine⟨x,w.trans o,by simp[T],λn U=>?_⟩
  cases n with
  |zero=>exact⟨_,_,aM,aM,aM,o.Yb D,f⟩
  |succ n=>have⟨r,P,g,k,A⟩:=I n (by simpa using U);exact⟨r,P,by simpa using g,by simpa using k,A⟩
def SF{F:aE}{L:Nat}{sz:Nat}:∀{rs:List (Nat×aC)} {u:List (Nat×AV)} {es p:aB} {l:aD},xe sz es rs=.ok p->aA rs=aA u->
 (∀i:Nat,i<aA rs->∃r q,rs[i]?=ad r/\ u[i]?=ad q/\ r.1=q.1/\ RL σ F L (λ_ _=>False) r.2 q.2.cells/\ q.2.cells.all cT=aa)->RE σ F L (λ_ _=>False) sz es l->
 ∃N,fill (λi=>ad (i*sz,sz)) l u=.ok N/\ RE σ F L (λ_ _=>False) sz p N/\ aA p=aA es
 |[],[],es,p,l,t,_,_,s=>by simp only[xe]at t;cases t;exact⟨l,aM,s,aM⟩
 |[],_::_,_,_,_,_,P,_,_=>by simp at P
 |_::_,[],_,_,_,_,P,_,_=>by simp at P
 |(i,x)::rs,(j,a)::u,es,p,l,t,P,M,s=>by
  simp only[xe,dn,bW,kz]at t;obtain⟨⟨z,f⟩,t⟩:=t;have z:=dB z;obtain⟨r,q,T,C,G,Q,Y⟩:=M 0 aY;cases T;cases C;simp only at G Q Y;subst G;have g:aA a.cells=sz:=by have:=Q.len;omega
  have D:=s.len;have o:i*sz+aA a.cells<=aA l:=by rw[g,D,<-lU];exact uY _ f
  have c:=s.set f z g Y Q;have J:iY l (i*sz) a.cells=l.take (i*sz)++(a.cells++l.drop (i*sz+sz)):=by rw[BZ _ _ _ o,g]
  rw[<-J]at c
  obtain⟨N,O,w,A⟩:=SF t (by simpa using P) (λn e=>by
   obtain⟨r,q,T,C,G⟩:=M (n+1) avF
   exact⟨r,q,by simpa using T,by simpa using C,G⟩) c
  refine⟨N,?_,w,by rw[A,lR]⟩;unfold fill;exact at6
end
section
variable{E:cI}{X Z:Nat->Prop}{m:Nat->Nat}{h:H}{σ:St}
def OE{t:Nat}{z:aC}(o:jO E.D t=.ok z):∃a n,zero E.D t=.ok a/\ rB E X Z m h σ z a.cells/\ a.cells.all cT=aa/\ size E.D t=.ok n/\ aA z=n/\ 0<n:=by
 unfold jO at o;rw[bF]at o;obtain⟨A,Q,o⟩:=o;rw[dn]at o;obtain⟨e,o⟩:=o;cases o;obtain⟨a,n,b,i,d,s,I,M⟩:=I' (E:=E) (X:=X) (Z:=Z) (m:=m) (h:=h) (σ:=σ) Q;refine⟨a,n,b,?_,d,s,by simp[I],M⟩;clear Q I d b;revert i;generalize a.cells=l
 induction A generalizing l with
 |nil=>intro i;simp only[RL]at i;subst i;exact RL.jd
 |cons v A k=>
  intro i;simp only[RL]at i;obtain⟨x,r,rfl,V,p⟩:=i;simp only[uS,bW]at e;refine RL.gb ?_<|k e.2 r p
  cases v<;>first|(exact Bool.noConfusion e.1)|skip
  simp only[RR,MG]at V|-;exact V;simp only[RR,LC]at V;subst V;simp only[RR,MG];exact .inl ⟨trivial,by simp[iS]⟩
def QR{n:Nat}{r:aD}:∀(p:aD),cD n p=aa->cD n r=aa->cD n (p++r)=aa
 |[],_,h=>h
 |x::p,A,h=>by simp only[cD,bW]at A;simp only[ck,cD,bW];exact⟨A.1,QR p A.2 h⟩
def RE.dI{F:aE}{L sz:Nat}:∀{es:aB} {l:aD},RE σ F L (λ_ _=>False) sz es l->cD σ.n l=aa
 |[],l,h=>by simp only[RE]at h;subst h;rfl
 |cs::es,l,h=>by simp only[RE]at h;obtain⟨p,r,rfl,_,_,_,A,M⟩:=h;exact QR _ (RL.dI (λ_ _ h=>h.elim) _ _ A)<|RE.dI M
def VL(S:SR E X Z m h σ){s e sz n:Nat}{es:aB}{l:aD}(h0:0<sz)(r:RE σ (cX X Z m h σ) E.L (λ_ _=>False) sz es l)(hn:aA es=n):
 Made E X Z m h σ (.ok (.slice σ.n 0 n (ad n) sz,.cells l e aa sz)) (.bh s ((h.o s).ver+1) 0 n) (h.new s<|.cells ab ab e sz es):=by
 have⟨C,w⟩:=zh S (s:=s) (k:=.cells ab ab e sz es) (o:=.cells l e aa sz) ⟨l,aa,aM,λ_=>rfl,h0,by simpa using r⟩;refine⟨_,_,_,aM,?_,C,w,?_⟩;simp only[dM];exact wR (wH _) _<|RE.dI r;simp only[RR,LC];have⟨g,O⟩:=vV h s<|.cells ab ab e sz es;refine .inr ⟨g.symm,ab,ab,e,sz,es,O,aW,.inr ⟨ad n,?_,λc Q=>by cases Q;omega⟩⟩;rw[sr];simp
def Made.ko{X' Z':aE}{h':H}(k:Ex X Z m h σ X Z m h' σ){r:R (AV×AO)}{v:VV}{I:H}(Y:Made E X Z m h' σ r v I):Made E X Z m h σ r v I:=by have⟨a,o,W,V,p,d,A,M⟩:=Y;exact⟨a,o,W,V,p,d,k.trans A,M⟩
def JV(O:SR E X Z m h σ){T:Vg}{d:Rg}(b0:∀i,RV E X Z m h σ (T i)<|d i){F:Op}{s:Nat}{v:VV}{h':H}(M:h_ E.D h (bS T) F s=.ok (v,h')):
 Made E X Z m h σ (jT E.D (cn E.D d) F σ.n) v h':=by
 have U:=λx=>oW O b0 x
 cases F<;>simp only[h_]at M<;>try(cases M;done)
 case alloc t=>
  simp only[bF]at M;have⟨z,B,n,w,M⟩:=M;cases M;have⟨a,c0,b,u,e,D,I⟩:=I' (E:=E) (X:=X) (Z:=Z) (m:=m) (h:=h) (σ:=σ) B;rw[w]at D;cases D;have g:jT E.D (cn E.D d) (.alloc t) σ.n=.ok (.aR σ.n 0,.cells a.cells t aa n):=by simp only[jT,b,w,ca,aO];rfl
  rw[g];exact VJ O u e I.1 I.2
 case box t x=>
  simp only[bF]at M;have⟨m0,W,n,w,M⟩:=M;rw[dn,bW,kz]at M;have⟨⟨J,Q⟩,M⟩:=M;cases M;have J:=dB J;have⟨u,e⟩:=Az LC.dN W<|U x;have g:jT E.D (cn E.D d) (.box t x) σ.n=.ok (.aR σ.n 0,.cells (cn E.D d x).cells t aa n):=by simp only[jT,w,ca,aO];rfl
  rw[g];exact VJ O u e J Q
 case buildSlice t L S=>
  simp only[bF]at M;have⟨q,N,z,B,p,Y,r,A,M⟩:=M;cases M;rw[dn,oP]at A;have⟨d0,A⟩:=A;have⟨e0,f,P,j⟩:=ya N;have⟨a,c0,b,u,e,D,I,_⟩:=OE (E:=E) (X:=X) (Z:=Z) (m:=m) (h:=h) (σ:=σ) B;rw[P]at D;cases D;have⟨p1,p2⟩:=MX O b0 S.toList;have⟨C,G,k3,k4⟩:=Tv O (h':=p.2) (rs:=p.1) Y p1 p2;have f0:rB E X Z m p.2 σ z a.cells:=G.Yb u;have⟨g0,f1,f2,f3⟩:=SF A k3 k4<|Ng f0 e I L;have g:jT E.D (cn E.D d) (.buildSlice t L S) σ.n=.ok (.slice σ.n 0 L (ad L) q.2,.cells g0 q.1 aa q.2):=by
   have V:sw E.D q.1 L=.ok (lI a.cells L):=by
    unfold sw;simp only[P,ca,aO,b];by_cases Q:L*q.2=0;rw[b8 Q];have:L=0:=awR;subst this;rfl;rw[cG Q];have:aA a.cells=q.2:=by have:=u.len;omega
    exact at6
   simp only[jT,f,P,ca,aO];rw[cG aW];exact at6
  rw[g];exact Made.ko (X':=X) (Z':=Z) G (VL C j f2<|by rw[f3,Nf])
 case makeMap t r=>
  cases r with
  |some x=>simp only[h_]at M;cases M
  |none=>simp only[h_,bF]at M;have⟨n0,i0,M⟩:=M;cases M;have⟨C,G⟩:=zh O (s:=s) (k:=.map []) (o:=.map [] 0) ⟨[],0,aM,by simp only[MR],by simp[wz]⟩;refine⟨_,_,_,aM,aM,C,G,?_⟩;simp only[RR,LC];have⟨g,e2⟩:=vV h s<|.map [];exact .inr ⟨g.symm,[],e2,by rw[sr]⟩
 case makeSlice t l c=>
  simp only[bF]at M;have⟨q,N,z,B,n,w,n2,y,i,j0,M⟩:=M;rw[dn]at M;have⟨W,M⟩:=M;cases M;simp only[bW,kz]at W;have⟨⟨c1,c2⟩,c3⟩:=W;have c1:=dB c1;subst c1;have⟨e0,f,P,j⟩:=ya N;have⟨a,c0,b,u,e,D,I,_⟩:=OE (E:=E) (X:=X) (Z:=Z) (m:=m) (h:=h) (σ:=σ) B;rw[P]at D;cases D;have⟨o0,k0⟩:=My w<|U l;have⟨l0,a0⟩:=My y<|U c;have g:jT E.D (cn E.D d) (.makeSlice t l c) σ.n=.ok (.slice σ.n 0 n (ad n) q.2,.cells (lI a.cells n) q.1 aa q.2):=by
   have V:sw E.D q.1 n=.ok (lI a.cells n):=by
    unfold sw;simp only[P,ca,aO,b];by_cases Q:n*q.2=0;rw[b8 Q];have:n=0:=awR;subst this;rfl;rw[cG Q];have:aA a.cells=q.2:=by have:=u.len;omega
    exact at6
   simp only[jT,f,k0,a0,pI,j0,ca,aO];rw[b8 ⟨Int.natCast_nonneg n,rq _,aW,c3⟩];exact at6
  rw[g];exact VL O j (Ng u e I n)<|Nf z n
end
section
variable{E:cI}{X Z:Nat->Prop}{m:Nat->Nat}{h:H}{σ:St}
def SR.amN(S:SR E X Z m h σ){s:Nat}{k:VK}(v:(h.o s).k.hV=aa)(f:OR σ (cX X Z m h σ) E.L (LC σ.n m h) k<|σ.a7<|m s)(t:k.hV=aa):
 SR E X Z m (h.new s k) σ/\ Ex X Z m h σ X Z m (h.new s k) σ:=by
 have⟨Y,d,n,l,_⟩:=S.ct s<|VK.rh v;have q:∀F,((h.new s k).o F).k.hV=aa->(h.o F).k.hV=aa:=by intro F Q;by_cases V:F=s;subst V;exact v;rwa[H.new,ic V]at Q
 have C:∀F,((h.new s k).o F).k.ct=aa->(h.o F).k.ct=aa:=by intro F Q;by_cases V:F=s;subst V;exact VK.rh v;rwa[H.new,ic V]at Q
 have B:Ex X Z m h σ X Z m (h.new s k) σ:=by refine⟨bu _,λs J=>(S.ct s J).2.1,λb z=>⟨z,aM⟩,λb e=>?_,λF=>?_⟩;have⟨L,N,r,P⟩:=e;exact⟨⟨L,N,r,λF Q=>P F<|q F Q⟩,aM⟩;by_cases V:F=s;subst V;left;rw[H.new,jx];exact nR _;exact .inr<|.fN (by rw[H.new,ic V]) aM λ_=>rfl
 refine⟨⟨S.wf,S.ng,S.n0,E.jN _ _ _ _ σ _ S.dO (bu _) S.wf (λ_ _ _=>rfl) aM λb e=>(B.fs b e).1,S.xb,S.zb,λF Q=>?_,λa b y e g=>S.inj a b (q a y) (C b e) g,S.gl.mono B.fs⟩,B⟩;have⟨O,w,j,M,I⟩:=S.ct F<|C F Q;refine⟨O,w,j,M,?_⟩;by_cases V:F=s;subst V;rw[H.new,jx];exact OR.mono B.n B.hF B.lc f;rw[H.new,ic V];exact OR.mono B.n B.hF B.lc I
def SR.WQ(S:SR E X Z m h σ)(o:AO):SR E X Z m h (σ.push o)/\ Ex X Z m h σ X Z m h (σ.push o)/\ cX X Z m h (σ.push o) σ.n:=by
 have w:(σ.push o).n=σ.n+1:=rfl;have v:∀b,b<σ.n->(σ.push o).a7 b=σ.a7 b:=λb e=>eP e;have Q:Ex X Z m h σ X Z m h (σ.push o):=by refine⟨aW,λs B=>(S.ct s B).2.1,λb z=>⟨z,v b (S.zb b z).2.1⟩,λb e=>?_,λF=>.inr<|.fN aM aM λl=>v _ (S.ct F l).2.1⟩;have⟨L,J,k,P⟩:=e;exact⟨⟨aW,J,k,P⟩,v b L⟩
 refine⟨⟨by simp[St.push,S.wf],by have:=S.ng;omega,by have:=S.n0;omega,?_,λb e=>by have:=S.xb b e;omega,λb e=>?_,λs B=>?_,S.inj,S.gl.mono Q.fs⟩,Q,?_⟩;exact E.jN _ _ _ _ σ _ S.dO aW (by simp[St.push,S.wf]) (λb e _=>v b e) aM λb e=>(Q.fs b e).1;have⟨c,y,a⟩:=S.zb b e
 grind
 have⟨C,x,j,O,N⟩:=S.ct s B;refine⟨C,aW,j,O,?_⟩;rw[v _ x];exact OR.mono Q.n Q.hF Q.lc N;refine⟨aW,λU=>?_,λz=>?_,λs B f=>?_⟩;have:=S.xb _ U;omega;have:=(S.zb _ z).2.1;omega;have:=(S.ct s<|VK.rh B).2.1;omega
def aoJ(l y:aD)(a o sz:Nat)(h1:a+sz<=aA l)(p:o+aA y<=sz):
 iY l (a+o) y=l.take a++(iY ((l.drop a).take sz) o y++l.drop (a+sz)):=by
 have c:aA ((l.drop a).take sz)=sz:=auT;rw[BZ _ _ _ aW,BZ _ _ _ aW];have g:l.take (a+o)=l.take a++(l.drop a).take o:=List.take_add;have C:((l.drop a).take sz).take o=(l.drop a).take o:=by rw[z'];exact aw1
 have G:l.drop (a+o+aA y)=((l.drop a).take sz).drop (o+aA y)++l.drop (a+sz):=by
  have:l.drop a=(l.drop a).take sz++l.drop (a+sz):=by rw[<-ru];exact(Jt sz<|l.drop a).symm
  rw[yn,<-ru]
  grind
 exact at6
def apt(T:SR E X Z m h σ){t:Nat}{p x:VV}{h':H}(M:EK E.D h t p x=.ok h'){a b:AV}(i0:RV E X Z m h σ p a)(e0:RV E X Z m h σ x b):
 ∃σ',wt E.D σ t a b=.ok σ'/\ SR E X Z m h' σ'/\ Ex X Z m h σ X Z m h' σ':=by
 cases p<;>simp only[EK]at M<;>try(cases M;done)
 rename_i s j0 i o;simp only[bF]at M;have⟨Y,U,c,S,q,k0,n,l0,M⟩:=M;rw[dn]at M;have⟨v,M⟩:=M;simp only[bF]at M;have⟨cs,f,g,J,M⟩:=M;cases M;simp only[bW,kz,nM]at v;have⟨⟨d1,d2⟩,d3⟩:=v;have d1:=dB d1;have I:∃O,c.2=O/\ SR E X Z m O σ/\ Ex X Z m h σ X Z m O σ/\ b.cells.all cT=aa/\ (Y.1=aa->O=h/\ fl E X Z m h σ c.1 b.cells)/\ (Y.1=ab->rB E X Z m O σ c.1 b.cells):=by
  cases C:Y.1 with
  |true=>rw[C]at S;simp only[a8,bF]at S;have⟨c1,L,S⟩:=S;cases S;have⟨g1,B⟩:=Az LC.dN L e0;exact⟨h,aM,T,Ex.refl _ _ _ _ _ λs m0=>(T.ct s m0).2.1,B,λ_=>⟨aM,g1⟩,λh=>(by cases h)⟩
  |false=>rw[C]at S;have⟨F,w,N,k4⟩:=Tt T (h':=c.2) (cs:=c.1) S e0;exact⟨_,aM,F,w,k4,λh=>(by cases h),λ_=>N⟩
 obtain⟨O,rfl,s1,W,f0,r1,r2⟩:=I;have⟨e1,e2⟩:=nX k0;rw[vY]at f;have P:=W.rv i0;simp only[RR,LC]at P
 rcases P with⟨F,_⟩|⟨F,n0,o0,e,j,s0,w,N,rfl⟩
 omega;have d:=e2;rw[w]at d
 injection d with b1 b2 b3 G u
 have⟨f1,f2⟩:=nX U;have C:Y.1=q.1:=by
  rcases W.st s with t0|hk
  omega;have hk:=hk.k;rw[f2,e2]at hk;exact hk.1
 have⟨c0,c1,c2,c3,l,u0,c4,c5,c6,c7⟩:=s1.cells w;rw[<-u]at f;have⟨g1,B,g3,g4⟩:=c7.get f;have D:o0=ab:=by rw[b2];exact d3
 have a0:=c5 D;subst a0;have g0:RL σ (cX X Z m c.2 σ) E.L (if n0 then LC σ.n m c.2 else λ_ _=>False) c.1 b.cells:=by grind
 have⟨p0,s2,s3,s4,s5⟩:=Zj J g3 g0 g4 f0;have r0:=g0.len;have A:aA ((l.drop<|i*j).take j)=j:=auT;have Q:=c7.set (i:=i) (cs:=g) (p:=iY ((l.drop<|i*j).take j) o b.cells) N aW aW s3 s2;have z:=aoJ l b.cells (i*j) o j B aW;rw[<-z]at Q;have⟨w1,w2⟩:=s1.E7 (s:=s) (k:=.cells q.1 ab q.2.2.1 q.2.2.2.1<|q.2.2.2.2.set i g) (o:=.cells (iY l (i*j+o) b.cells) e aa j)
  (by rw[w,D];rfl) ⟨_,aa,by rw[<-b3,<-G],λ_=>rfl,by rw[<-G];exact c6,by rw[<-b1,<-G,<-u];exact Q⟩ (by rw[w,<-b1,<-b3,<-G,<-u];simp[mu]) aM
 refine⟨_,?_,w1,W.trans w2⟩;have V:aA b.cells=n:=aW;have b0:∃y r,b.cells=y::r:=by
  cases d0:b.cells with
  |nil=>rw[d0]at V;simp at V;omega
  |cons y r=>exact⟨y,r,aM⟩
 have⟨y,r,h0⟩:=b0;unfold wt;simp only[l0,ca,aO,V,dj];unfold storeCells;rw[h0];simp only[c1,dj,c4];rw[<-h0];have:(aa&&ax (i*j+o+aA b.cells<=aA l)&&b.cells.all AV.dN)=aa:=by simp only[oI,MK f0,uO,c_];omega
 grind
def MR.append:∀{l:List (AV×VV)} {es:List (AV×AV×Nat)} {k:AV} {w:Value} {c:Nat},MR l es->lL w=aa->uw w=aa->MR (l++[(k,.aN w)]) (es++[(k,.aN w,c)])
 |[],es,k,w,c,h,V,a=>by
  simp only[MR]at h;subst h;simp only[b7,MR]
  grind
 |(e,v)::l,es,k,w,c,h,V,a=>by simp only[MR]at h;obtain⟨u,T,r,rfl,rfl,x,o,s⟩:=h;simp only[ck,MR];exact⟨u,T,_,aM,aM,x,o,MR.append s V a⟩
def YS{D:a_}{t:Nat}{k:AV}{w:Value}(h1:lL w=aa)(a:uw w=aa):∀{l N:List (AV×VV)} {es:List (AV×AV×Nat)} (i:Nat),oz (.aN w) D t k l=.ok N->MR l es->
 (findKey D t k es i=.ok ae/\ N=l++[(k,.aN w)])\/ ∃j v,findKey D t k es i=.ok (ad (i+j,v))/\ (∃e,es[j]?=ad e/\ cU e.1 k=aa)/\ MR N (mV (.aN w) j es)
 |[],N,es,i,s,Y=>by simp only[MR]at Y;subst Y;simp only[oz]at s;cases s;exact .inl ⟨aM,aM⟩
 |(A,v)::l,N,es,i,s,Y=>by
  simp only[MR]at Y;obtain⟨u,c,r,rfl,rfl,x,o,T⟩:=Y;simp only[oz,bF]at s;have⟨b,P,s⟩:=s
  cases b with
  |true=>
   simp only[a8]at s;rw[dn]at s;have⟨d,s⟩:=s;cases s;refine .inr ⟨0,.aN u,?_,⟨_,aM,d⟩,?_⟩;simp only[findKey,P,ca,aO,dj];rfl;simp only[mV,MR]
   grind
  |false=>
   simp only[br,bF]at s;have⟨S,Q,s⟩:=s;cases s;have M:findKey D t k ((A,.aN u,c)::r) i=findKey D t k r (i+1):=by simp only[findKey,P,ca,aO];rfl
   rcases YS h1 a (i+1) Q T with⟨O,I⟩|⟨j,v,O,⟨e,I,J⟩,n⟩
   exact at6;refine .inr ⟨j+1,v,by rw[M,O];congr 3;omega,⟨e,by simpa using I,J⟩,?_⟩;simp only[mV,MR]
   grind
def wz.push{es:List (AV×AV×Nat)}{c:Nat}(h:wz es c)(k v:AV):wz (es++[(k,v,c)]) (c+1):=by
 refine⟨?_,λx s=>?_⟩;rw[dg,Cr];refine⟨h.1,aY,λa J b e=>?_⟩;simp only[fv]at J;obtain⟨x,s,rfl⟩:=J;simp only[cL,i_,ku]at e;subst e;have:=h.2 x s;omega
 rcases mF.1 s with s|s
 exact uX<|h.2 x s;exact at6
def NG(v:AV):∀(i:Nat) (es:List<|AV×AV×Nat),(mV v i es).map (·.2.2)=es.map (·.2.2)
 |_,[]=>by unfold mV;rfl
 |0,e::es=>by unfold mV;rfl
 |i+1,e::es=>by unfold mV;simp only[cL,NG v i es]
def wz.set{es:List (AV×AV×Nat)}{c:Nat}(h:wz es c)(v:AV)(i:Nat):wz (mV v i es) c:=by refine⟨by rw[NG];exact h.1,λx s=>?_⟩;have:x.2.2∈(mV v i es).map (·.2.2):=Cq s;rw[NG,fv]at this;have⟨y,Q,e⟩:=this;rw[<-e];exact h.2 y Q
def ajI(S:SR E X Z m h σ){t:Nat}{p k x:VV}{h':H}(M:BB E.D h t p k x=.ok h'){a b c:AV}(u:RV E X Z m h σ p a)(B:RV E X Z m h σ k b)(W:RV E X Z m h σ x c):
 ∃σ',mapUpdate E.D σ t a b c=.ok σ'/\ SR E X Z m h' σ'/\ Ex X Z m h σ X Z m h' σ':=by
 cases p<;>simp only[BB]at M<;>try(cases M;done)
 rename_i s a0;simp only[bF]at M;obtain⟨d0,D,N,l,e0,b0,r,U,M⟩:=M;rw[dn,bW]at M;obtain⟨⟨rfl,F⟩,M⟩:=M;have c0:=uA b0 B;subst c0
 cases x<;>simp only at M<;>try(cases M;done)
 rename_i w;rw[dn,bW]at M;obtain⟨⟨T,q⟩,M⟩:=M;rw[bF]at M;obtain⟨f,A,M⟩:=M;cases M;simp only[RR]at W;obtain⟨rfl,_⟩:=W;obtain⟨G,P⟩:=VN D;have y:=l;unfold o7 at y;simp only[dn]at y;obtain⟨Q,y⟩:=y;have Q:=dB Q;have J:(h.o s).k=.map N:=by grind
 have Y:=u;simp only[RR,LC]at Y
 rcases Y with⟨k1,_⟩|⟨_,f0,k2,rfl⟩
 omega;obtain⟨z0,z1,z2,z3,V⟩:=S.ct s (by rw[J];rfl);rw[J]at V;obtain⟨I,d,z5,g,L⟩:=V;have z:p' σ (.cz<|m s)=.ok (I,d):=by simp only[p',z1,dj,z5]
 rcases YS T q 0 A g with⟨O,rfl⟩|⟨j,v,O,⟨e,q2,i⟩,q3⟩
 obtain⟨n,C⟩:=S.E7 (s:=s) (k:=.map<|N++[(b,.aN w)]) (o:=.map (I++[(b,.aN w,d)])<|d+1) (by rw[J];rfl) ⟨_,_,aM,g.append T q,L.push _ _⟩ (by rw[J];trivial) aM;refine⟨_,?_,n,C⟩;unfold mapUpdate;simp only[G,ca,aO,P,dj,z,U,px,fR,ff,O];rfl;obtain⟨n,C⟩:=S.E7 (s:=s) (k:=.map f) (o:=.map (mV (.aN w) j I) d) (by rw[J];rfl) ⟨_,_,aM,q3,L.set _ _⟩ (by rw[J];trivial) aM;refine⟨_,?_,n,C⟩;unfold mapUpdate;rw[bZ]at O;simp only[G,ca,aO,P,dj,z,U,px,fR,ff,O,q2,i,F,iJ];rfl
end
