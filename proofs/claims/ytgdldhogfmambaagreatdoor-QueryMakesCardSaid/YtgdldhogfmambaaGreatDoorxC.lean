/- The reading V of code on values, second part: what it returns, the machine D returns; its loops and calls as lemmas. No statement of this seat stands here, and no condition. -/
import Derived.Test.YtgdldhogfmambaaGreatDoorxB
open Bool renaming true->aa,false->ab
open Option renaming some->ad,none->ae
open And renaming intro->af
open Nat renaming beq->ag,blt->ah,ble->ai,shiftLeft->aj
open List renaming replicate->ak,range->ao,map->aq,take->ar,drop->au,length->aA
open Go.IntKind renaming wrap->av
open BitVec renaming ofInt->aw
open Decidable renaming decide->ax
open Go.Result renaming andThen_ok->ay
open Go.Sem renaming run_pure->az
set_option linter.all false
noncomputable section
namespace Go.Dt.Vm
section
variable{E:cI}{X Z:Nat->Prop}{m:Nat->Nat}{h:H}{σ:St}
def Ce(E:cI)(X Z:Nat->Prop)(m:Nat->Nat)(h:H)(σ:St)(r:R<|AV×St)(v:VV)(h':H):Prop:=∃a σ' m',r=.ok (a,σ')/\ SR E X Z m' h' σ'/\ Ex X Z m h σ X Z m' h' σ'/\ RV E X Z m' h' σ' v a
def aco{D:a_}{B v:Nat}{O:Nat×Nat}(b:lZ D B v=.ok O):gm D B=.ok O/\ (∃i,rW D O.1=.ok i/\ 0<i.bytes/\ i.bytes<2^14)/\ (∃Y,cP D v=.ok Y/\ vH Y=ab)/\ ∃z,zeroCells D O.1=.ok z:=by unfold lZ at b;simp only[bF]at b;have⟨j,V,i,a,Y,d,z,A,b⟩:=b;rw[dn]at b;exact at6
def Zk(y:SR E X Z m h σ){x:VV}{r:Bool}{new:aB}(U:kF h x=.ok (r,new)){a:AV}(v:RV E X Z m h σ x a){sz:Nat}(J:fW sz new=aa):
 ∃l,pr σ sz a=.ok (l,aA new)/\ RE σ (cX X Z m h σ) E.L (if r then LC σ.n m h else λ_ _=>False) sz new l:=by
 have I:∀(a:AV),iS σ (cX X Z m h σ) a->pr σ sz a=.ok ([],0):=by
  intro a k
  cases a<;>simp only[iS]at k<;>try(exact k.elim)
  rename_i w;cases w<;>simp_all;rfl;obtain⟨rfl,V,Y,l,e,C,z,d⟩:=k;rename_i b o t A;have Q:cellsOf σ b=.ok l:=by unfold cellsOf;rw[b8 V,d]
  simp only[pr,Q,ca,aO,kb];have:fO l o 0=.ok []:=by rw[nI];simp
  exact avO;rfl
 cases x<;>simp only[kF]at U<;>try(cases U;done)
 cases U;simp only[RR,LC]at v;subst v;exact⟨[],aM,RE.jd⟩;rename_i j;cases U;simp only[RR]at v
 rcases v with⟨rfl,Y⟩|⟨b,o,L,t,A,l,e,C,D,u,rfl,g2,g3,g4,g5,g6,g7,a0,W⟩
 exact⟨[],I a Y,RE.jd⟩;subst g5;have Q:cellsOf σ b=.ok l:=by unfold cellsOf;rw[b8 g3,g4]
 cases new with
 |nil=>
  refine⟨[],?_,RE.jd⟩;simp only[pr,Q,ca,aO,f_,kb];have:fO l o 0=.ok []:=by rw[nI];simp
  rw[this];rfl
 |cons c j=>
  have P:A=sz:=by have:=(W.get (i:=0) (cs:=c) aM).1;have J:=dB J;omega
  subst P;refine⟨u,?_,W⟩;simp only[pr,Q,ca,aO,g6];rfl
 rename_i s b0 o L;rw[bF]at U;have⟨q,d0,U⟩:=U;rw[dn,oP]at U;have⟨N,U⟩:=U;cases U;have⟨e1,F⟩:=nX d0;simp only[RR,LC]at v
 rcases v with⟨k1,_⟩|⟨k1,f0,g0,e,A,j,G,k3,k4⟩
 omega;rw[G]at F
 injection F with b1 b2 b3 b4 b5
 rw[<-b5]at N J|-;rw[<-b1];have⟨c0,c1,c2,c3,l,C,c4,c5,c6,T⟩:=y.cells G;have Q:cellsOf σ (m s)=.ok l:=by unfold cellsOf;rw[b8 c1,c4]
 have g:aA ((j.drop o).take L)=L:=auT;have O:=(T.drop o).take L;have B:∀p,fO l p 0=.ok []:=λp=>by rw[nI];simp
 rcases k4 with⟨rfl,i0,⟨p,u,z,rfl⟩|⟨p,t,rfl⟩⟩|⟨t,rfl,f⟩
 exact⟨[],by simp[pr],by simpa using RE.jd⟩;exact avM
 rcases Nat.eq_zero_or_pos L with n|n
 subst n;exact avM;have P:A=sz:=by
  cases S:(j.drop o).take L with
  |nil=>rw[S]at g;simp at g;omega
  |cons c r=>rw[S]at J O;have:=(O.get (i:=0) (cs:=c) aM).1;have J:=dB J;omega
 subst P;refine⟨(l.drop<|o*A).take<|L*A,?_,O⟩;have M:(o+L)*A<=aA j*A:=uY _ k3;rw[wF]at M;have e0:=T.len;have:fO l (o*A) (L*A)=.ok ((l.drop<|o*A).take<|L*A):=by
  rw[nI]
  grind
 simp only[pr,Q,ca,aO,this,g];rfl;cases U;simp only[RR]at v;refine⟨[],?_,RE.jd⟩
 rcases v with⟨p,rfl⟩|⟨b,l,e,C,A,rfl,Y,d,h4⟩
 rfl;exact I _ ⟨aM,d,Y,l,e,C,A,h4⟩
def Qc(S:SR E X Z m h σ){d0 e0 d:Nat}{s x v:VV}{h':H}(M:kR E.D h d0 e0 s x d=.ok (v,h')){a b:AV}(y:RV E X Z m h σ s a)(r0:RV E X Z m h σ x b):
 Ce E X Z m h σ (l_ E.D σ d0 e0 a b) v h':=by
 unfold kR at M;simp only[bF]at M;obtain⟨O,t0,⟨u,C⟩,f0,M⟩:=M;simp only at M;rw[dn,bW,kz]at M;obtain⟨⟨P0,u0⟩,M⟩:=M;obtain⟨v0,⟨i,D,Q0,R0⟩,⟨S0,A,T0⟩,z,g0⟩:=aco t0;obtain⟨i1,B,P,t⟩:=ya v0;obtain⟨M0,j1,F,z1,z2,z3,z4,z5⟩:=I' (E:=E) (X:=X) (Z:=Z) (m:=m) (h:=h) (σ:=σ) g0;rw[P]at z3;cases z3;have U0:aA M0.cells=O.2:=by have:=z1.len;omega
 obtain⟨l,N,i0⟩:=Zk S f0 r0 P0;have j0:=i0.len;have N0:=MK i0.all;have Q:(!(ax (aA C<2^30)&&ax (0<i.bytes/\ i.bytes<2^14/\ 0<O.2)&&!vH S0&&aA M0.cells==O.2))=ab:=at6
 cases s<;>try(cases M;done)
 ·
  simp only[RR,LC]at y;subst y
  cases C with
  |nil=>cases M;refine⟨.aN<|.slice ae 0 0,σ,m,?_,S,Ex.refl _ _ _ _ _ λs w0=>(S.ct s w0).2.1,by simp only[RR,LC]⟩;unfold l_;simp only[B,P,D,A,F,N,ca,aO,Q];rfl
  |cons c C=>cases M;obtain⟨k1,V⟩:=zh S (s:=d) (k:=.cells u ab O.1 O.2<|c::C) (o:=.cells l O.1 aa O.2) ⟨l,aa,aM,λ_=>rfl,t,i0⟩;refine⟨.slice σ.n 0 (aA<|c::C) ae O.2,_,_,?_,k1,V,?_⟩;exact avk;exact auj
 rename_i J ver o L
 cases o with
 |succ o=>cases M
 |zero=>
  simp only[bF]at M;obtain⟨q,V0,M⟩:=M;rw[dn]at M;obtain⟨W,M⟩:=M;cases M;simp only[bW,kz,nM]at W;obtain⟨⟨⟨⟨⟨d1,d2⟩,d3⟩,d4⟩,d5⟩,d6⟩:=W;have d2:q.1=u:=by
   unfold yL at d2
   grind
  have d4:=dB d4;have d5:=dB d5;have d6:=dB d6;obtain⟨g,Y⟩:=nX V0;simp only[RR,LC]at y
  rcases y with⟨k1,_⟩|⟨k1,T,W0,e,X0,j,V,k3,k4⟩
  omega;have k0:=Y;rw[V]at k0
  injection k0 with b1 b2 b3 b4 b5
  rw[<-b5]at d6|-
  rcases k4 with⟨_,h0,_⟩|⟨I,rfl,m0⟩
  omega;have n0:W0=ab:=by rw[b2];exact d3
  have o0:(h.o J).k.hV=aa:=by rw[V,n0];rfl
  obtain⟨c0,c1,c2,c3,n,O0,c4,c5,c6,c7⟩:=S.cells V;have x0:=c5 n0;subst x0;have y0:T=u:=by rw[b1];exact d2
  subst y0;have p0:X0=O.2:=aW;have z0:e=O.1:=aW;subst p0 z0;have Y0:=c7.len;have U:cellsOf σ (m J)=.ok n:=by unfold cellsOf;rw[b8 c1,c4]
  have A0:fO n (0*O.2) (L*O.2)=.ok n:=by
   rw[nI]
   grind
  have B0:=c7.append i0
  have start:∀r,(match I with
   |some c=>
    if L+aA C<=c then aO (storeCells σ (m J) (0*O.2+L*O.2) l) λC0=>.ok (.slice (m J) (0*O.2) (L+aA C) I O.2,C0)
    else .ok (.slice σ.n 0 (L+aA C) ae O.2,σ.push<|.cells (n++l) O.1 aa O.2)
   |none=>
    match σ.a7 (m J)with
    |.cells _ a0 bh D0=>
     if !(a0==O.1&&bh&&D0==O.2&&0*O.2==0)then .error "" else
     if !(l.all AV.dN)then .error ""
     else .ok (.slice σ.n 0 (L+aA C) ae O.2,(σ.set (m J) .c5).push<|.cells (n++l) O.1 aa O.2)
    |_=>.error "":R<|AV×St)=.ok r->l_ E.D σ d0 e0 (.slice (m J) (0*O.2) L I O.2) b=.ok r:=by
   intro r E0;unfold l_;simp only[B,P,D,A,F,N,ca,aO,Q,fR,ff];have:(!(ax (L+aA C<2^30)&&O.2==O.2))=ab:=by simp[d1]
   rw[cG<|by rw[this];simp];simp only[U,A0];rw[<-E0]
   cases I with
   |none=>rfl
   |some c=>simp only;split<;>rfl
  have f:∀G:St,G.n=σ.n->aA G.l=G.n->G.M=σ.M->(∀b,b<σ.n->(G.a7 b=σ.a7 b\/ (h.o J).k.hV=aa/\ b=m J))->
   l_ E.D σ d0 e0 (.slice (m J) (0*O.2) L I O.2) b=.ok (.slice σ.n 0 (L+aA C) ae O.2,G.push<|.cells (n++l) O.1 aa O.2)->
   Ce E X Z m h σ (l_ E.D σ d0 e0 (.slice (m J) (0*O.2) L I O.2) b) (.bh J ((h.o J).ver+1) 0<|L+aA C) (h.new J<|.cells T ab O.1 O.2<|j++C):=by
   intro G g1 g2 F0 g3 g4;obtain⟨w1,w2⟩:=S.yP (s:=J) (k:=.cells T ab O.1 O.2<|j++C) (o:=.cells (n++l) O.1 aa O.2) g1 g2 F0 g3 ⟨_,aa,aM,λ_=>rfl,t,B0⟩;refine⟨_,_,_,g4,w1,w2,?_⟩;simp only[RR,LC];obtain⟨g,Y⟩:=vV h J<|.cells T ab O.1 O.2<|j++C;refine .inr ⟨g.symm,T,ab,O.1,O.2,j++C,Y,by simp only[cN];omega,.inr ⟨ae,?_,λc W=>by cases W⟩⟩;rw[sr];simp
  cases I with
  |none=>
   refine f (σ.set (m J) .c5) aM (by simp[St.set,S.wf]) aM (λb r0=>?_) ?_;by_cases G0:b=m J
   grind
   exact .inl (kZ c1<|hG G0)
   grind
  |some c=>
   obtain⟨Z0,a1⟩:=m0 c aM;by_cases H0:L+aA C<=c;have I0:C=[]:=sy aW;subst I0;have b0:l=[]:=sy (by rw[j0];simp);subst b0;obtain⟨w1,w2⟩:=S.amN (s:=J) (k:=.cells T ab O.1 O.2<|j++[]) o0 ⟨n,aa,c4,λ_=>rfl,t,by simpa using c7⟩ aM;refine⟨.slice (m J) (0*O.2) (L+0) (ad c) O.2,σ,m,?_,w1,w2,?_⟩;apply start;simp only[H0,dj];rfl;simp only[RR,LC];obtain⟨g,Y⟩:=vV h J<|.cells T ab O.1 O.2<|j++[];refine .inr ⟨g.symm,T,ab,O.1,O.2,j++[],Y,aul,.inr ⟨ad c,aY,λl1 f1=>?_⟩⟩
   grind
   refine f σ aM S.wf aM (λb r0=>.inl aM) ?_
   grind
 rename_i h1;rw[dn]at M;obtain⟨w,M⟩:=M;have w:=dB w;subst w;have J0:=y;simp only[RR]at y
 cases C with
 |nil=>
  cases M;have b0:l=[]:=sy (by rw[j0];simp);subst b0;refine⟨a,σ,m,?_,S,Ex.refl _ _ _ _ _ λs w0=>(S.ct s w0).2.1,J0⟩
  rcases y with⟨p,rfl⟩|⟨K0,q0,e,O0,L0,rfl,h2,h3,h4⟩
  exact avk;have U:cellsOf σ K0=.ok q0:=by unfold cellsOf;rw[b8 h3,h4]
  have g0:fO q0 0 0=.ok []:=by rw[nI];simp
  unfold l_;simp only[B,P,D,A,F,N,ca,aO,Q,U,kb,g0];rw[cG aY];simp[storeCells]
 |cons c C=>
  cases M;obtain⟨k1,V⟩:=zh S (s:=d) (k:=.cells u ab O.1 O.2<|c::C) (o:=.cells l O.1 aa O.2) ⟨l,aa,aM,λ_=>rfl,t,i0⟩;refine⟨.slice σ.n 0 (aA<|c::C) ae O.2,_,_,?_,k1,V,?_⟩
  rcases y with⟨p,rfl⟩|⟨K0,q0,e,O0,L0,rfl,h2,h3,h4⟩
  exact avk;have U:cellsOf σ K0=.ok q0:=by unfold cellsOf;rw[b8 h3,h4]
  have g0:fO q0 0 0=.ok []:=by rw[nI];simp
  have h5:¬(0+aA (c::C)<=0):=aY;have h6:(!(ax (0+aA (c::C)<2^30)&&O.2==O.2))=ab:=by simpa using u0
  unfold l_;simp only[B,P,D,A,F,N,ca,aO,Q,U,kb,g0];exact at6;exact auj
def ajO(a b:Nat):om a b=min a b:=by
 unfold om;by_cases h:a<=b;rw[show ai a b=aa from oP.2 h,Jy h];rfl;have:ai a b=ab:=by cases e:ai a b;rfl;exact absurd (oP.1 e) h
 rw[this,Nat.min_eq_right aW];rfl
def aed(S:SR E X Z m h σ){t:Nat}{d x v:VV}{h':H}(p:wY E.D h t d x=.ok (v,h')){a b:AV}(a0:RV E X Z m h σ d a)(i0:RV E X Z m h σ x b):Ce E X Z m h σ (C6 E.D σ t a b) v h':=by
 unfold wY at p;simp only[bF]at p;obtain⟨O,A,⟨j0,C⟩,u,p⟩:=p;obtain⟨x0,k0,I,i⟩:=ya A
 cases d<;>try(cases p;done)
 rename_i s m0 o L;simp only[bF]at p;obtain⟨q,n0,p⟩:=p;rw[dn]at p;obtain⟨b0,p⟩:=p;cases p;simp only[bW,kz,nM]at b0;obtain⟨⟨⟨⟨⟨⟨d0,d1⟩,d2⟩,J⟩,o0⟩,d4⟩,d5⟩:=b0;subst d0;have J:=dB J;obtain⟨l,p0,e0⟩:=Zk S u i0 o0;obtain⟨e1,e2⟩:=nX n0;simp only[RR,LC]at a0
 rcases a0 with⟨k1,_⟩|⟨k1,q0,r0,e,s0,j,w,k3,k4⟩
 omega;have P:=e2;rw[w]at P
 injection P with b1 b2 b3 G b5
 rcases k4 with⟨h0,_⟩|⟨t0,rfl,_⟩
 omega;have D:r0=ab:=by rw[b2];exact d2
 have n:q0=ab:=by rw[b1];exact d1
 subst D n;obtain⟨c0,c1,c2,c3,U,y0,c4,c5,c6,T⟩:=S.cells w;have r:=c5 aM;subst r;have f:s0=O.2:=by rw[G];exact J
 subst f;have u0:=e0.len;have v0:=T.len;generalize w0:om (aA C) L=k;have M:k=min (aA C) L:=by rw[<-w0,ajO]
 have c:=e0.take k;have g:aA (C.take k)=k:=aw5;have N:=c.len;rw[g]at N;have W:o+k<=aA j:=aW;have f0:o*O.2+k*O.2<=aA j*O.2:=by rw[<-wF];exact uY _ W
 have F:RE σ (cX X Z m h σ) E.L (λ_ _=>False) O.2 (zr j o<|C.take k) (iY U (o*O.2)<|l.take<|k*O.2):=by rw[BZ _ _ _ aW,N,<-wF];unfold zr;rw[g];exact(T.take o).append<|c.append<|T.drop<|o+k
 obtain⟨w1,w2⟩:=S.E7 (s:=s) (k:=.cells ab ab q.2.2.1 q.2.2.2.1<|zr q.2.2.2.2 o<|C.take k) (o:=.cells (iY U (o*O.2)<|l.take<|k*O.2) e aa O.2)
  (by rw[w];rfl) ⟨_,aa,by rw[<-b3,<-G],λ_=>rfl,by rw[<-G];exact c6,by rw[<-G,<-b5];exact F⟩ (by rw[w,<-b3,<-G,<-b5];exact⟨aM,aM,aM,by simp only[zr,cN,ep,j5];omega⟩) aM
 refine⟨js k,_,m,?_,w1,w2,Aq _ _⟩;have z:0<k:=aW;have B:∃y V,l.take (k*O.2)=y::V:=by
  cases Y:l.take (k*O.2)with
  |nil=>rw[Y]at N;have:=Nat.mul_pos z i;simp at N;omega
  |cons y V=>exact⟨y,V,aM⟩
 obtain⟨y,V,g0⟩:=B;have Q:=MK c.all;unfold C6;simp only[k0,I,p0,ca,aO];rw[<-M];unfold storeCells;rw[g0];simp only[c1,dj,c4];rw[<-g0];have:(aa&&ax (o*O.2+aA (l.take<|k*O.2)<=aA U)&&(l.take<|k*O.2).all AV.dN)=aa:=by simp only[oI,Q,uO,c_,N];omega
 rw[b8 this];rfl
def Q_{F:aE}{L:Nat}:∀l:aF,RE σ F L (λ_ _=>False) 1 (l.map λb=>[.aN<|.int .u8 b.toNat])<|l.map λc=>bY .u8 c.toNat
 |[]=>RE.jd
 |c::l=>RE.gb (p:=[bY .u8 c.toNat]) aM aM (by simp[cT,AV.dN,cU,kx,bY]) (RL.one<|by simp only[RR];exact auM)<|Q_ l
def adq(S:SR E X Z m h σ){s t:Nat}(e:tw E.D s t=aa)(l:aF):
 Ce E X Z m h σ (EO E.D σ s t<|.aN<|.string ⟨⟨l⟩⟩) (.fz<|l.map λb=>[.aN<|.int .u8 b.toNat]) h:=by
 unfold tw at e;split at e;rename_i V O a;split at e;rename_i d;have⟨C,w,j⟩:=S.WQ<|.cells (l.map λc=>bY .u8 c.toNat) V ab 1;refine⟨.slice σ.n 0 (aA l) ae 1,_,m,?_,C,w,?_⟩;unfold EO;exact at6;simp only[RR];right;refine⟨σ.n,0,aA l,ae,1,_,V,ab,1,l.map λc=>bY .u8 c.toNat,aM,j,nR _,kk,aY,?_,Nat.one_pos,?_,Q_ l⟩;rw[nI]
 grind
 intro c Q;cases Q;cases e;cases e
end
structure Fz(E:cI)(X:Nat->Prop)(σ:St)(y':List<|List VV)(X' K':Nat->Prop)(σ':St):Prop where
 n:σ.n<=σ'.n
 wf:aA σ'.l=σ'.n
 M:σ'.M=σ.M
 dO:E.dO y' X' K' σ'
 xx:∀b,X b->X' b
 xn:∀b,X' b->b<σ'.n/\ (X b\/ σ.n<=b)
 fN:∀b,b<σ.n->¬X b->σ'.a7 b=σ.a7 b
section
variable{E:cI}{X Z:Nat->Prop}{m:Nat->Nat}{h:H}{σ:St}
def SR.Md(S:SR E X Z m h σ){y':aB}{X' K':aE}{σ':St}(k:Fz E X σ y' X' K' σ')(q:∀b,K' b->cX X Z m h σ b\/ (σ.n<=b/\ b<σ'.n/\ ¬X' b)):SR E X' Z m ⟨h.o,y'⟩ σ'/\ Ex X Z m h σ X' Z m ⟨h.o,y'⟩ σ':=by
 have o:∀b,b<σ.n->¬X b->¬X' b:=λb e x i=>by
  rcases(k.xn b i).2 with h1|h1
  exact x h1;omega
 have Q:Ex X Z m h σ X' Z m ⟨h.o,y'⟩ σ':=by refine⟨k.n,λs B=>(S.ct s B).2.1,λb z=>⟨z,k.fN b (S.zb b z).2.1 (S.zb b z).2.2⟩,λb e=>?_,λs=>.inr<|.fN aM aM λl=>k.fN _ (S.ct s l).2.1 (S.ct s l).2.2.1⟩;have⟨L,J,r,P⟩:=e;exact⟨⟨dc L k.n,o b L J,r,P⟩,k.fN b L J⟩
 refine⟨⟨k.wf,jS S.ng k.n,jS S.n0 k.n,?_,λb e=>(k.xn b e).1,λb e=>?_,λs B=>?_,S.inj,S.gl.mono Q.fs⟩,Q⟩;refine E.jN _ _ _ _ σ' _ k.dO (bu _) k.wf (λ_ _ _=>rfl) aM λb e=>?_
 rcases q b e with h1|⟨h1,a,d⟩
 exact(Q.fs b h1).1;refine⟨a,d,λz=>?_,λs B f=>?_⟩;have:=(S.zb b z).2.1;omega;have:=(S.ct s<|VK.rh B).2.1;omega;have⟨c,n,g⟩:=S.zb b e;exact⟨c,dc n k.n,o b n g⟩;have⟨C,w,j,O,N⟩:=S.ct s B;refine⟨C,dc w k.n,o _ w j,O,?_⟩;rw[k.fN _ w j];exact OR.mono Q.n Q.hF Q.lc N
def cI.D8(E:cI):Prop:=∀l b,E.iN l≠.ok b
def cI.callee(E:cI)(X K F:Nat->Prop)(σ:St)(hn:E.n0<=σ.n)(J:∀b,K b->b<σ.n/\ ¬X b):cI where
 D:=E.D
 n0:=σ.n
 L:=E.L
 iN:=E.iN
 dO:=λY p i d=>∃M,Fz E X σ Y M (λb=>K b\/ (¬E.D8/\ i b)) d/\ ∀b,p b↔M b\/ (b<σ.n/\ ¬F b)
 jN:=by
  rintro y p i G d c ⟨M,k,s⟩ h1 a W j v;refine⟨M,⟨jS k.n h1,a,j.trans k.M,?_,k.xx,λb e=>⟨dc (k.xn b e).1 h1,(k.xn b e).2⟩,λb e x=>?_⟩,s⟩;refine E.jN _ _ _ _ d _ k.dO h1 a (λb e C=>W b e ?_) j λb e=>e.imp id λe=>⟨e.1,v b e.2⟩
  rcases C with C|C|C|C
  exact .inl<|dc C hn;exact .inr<|.inl<|(s b).2 (.inl C);exact .inl (J b C).1;exact .inr<|.inr C.2;rw[W b (dc e k.n)<|.inl e,k.fN b e x]
 tC:=by
  rintro y p i d args Q q ⟨M,k,s⟩ N O V r u;have z:∀b,b<σ.n->¬X b->¬M b:=λb e x t=>by
   rcases(k.xn b t).2 with h1|h1
   exact x h1;omega
  have A:¬E.D8:=λl=>l _ _ u
  have⟨c,o,P,B,T,I,n,f,U,S⟩:=E.tC y M (λb=>K b\/ (¬E.D8/\ i b)) d args Q q k.dO N (λb e=>(k.xn b e).1) (λb e=>by
   rcases e with e|e
   exact⟨dc (J b e).1 k.n,z b (J b e).1 (J b e).2⟩
   exact⟨(V b e.2).1,λh=>(V b e.2).2 ((s b).2 (.inl h))⟩) (RL.mono (bu _) (λb e w=>⟨.inr ⟨A,w⟩,e,aM⟩) (λ_ _ h=>h) _ _ r) u
  refine⟨c,λb=>o b\/ (b<σ.n/\ ¬F b),P,⟨o,⟨jS k.n f,U,S.trans k.M,B,λb e=>T b<|k.xx b e,λb e=>⟨(I b e).1,?_⟩,λb e x=>?_⟩,λb=>Ch⟩,λb e=>?_,λb e=>?_,λb e x=>?_,f,U,S⟩
  rcases(I b e).2 with h1|h1
  exact(k.xn b h1).2;exact .inr<|jS k.n h1;rw[n b (dc e k.n)<|z b e x,k.fN b e x]
  rcases(s b).1 e with h1|h1
  exact .inl<|T b h1;exact .inr h1
  rcases e with h1|h1
  refine⟨(I b h1).1,?_⟩
  rcases(I b h1).2 with a|a
  exact .inl<|(s b).2 (.inl a);exact .inr a;exact⟨dc h1.1<|jS k.n f,.inl<|(s b).2 (.inr h1)⟩;exact n b e λh1=>x<|(s b).2 (.inl h1)
def Ki{D:a_}{f:Nat}(e:hK D f=aa)(args:aD):sM D f args=.ok (.enter f args):=by
 unfold hK at e;have a:=e;unfold sM at a|-
 cases j:D.func f with
 |none=>rw[j]at a;cases a
 |some i=>
  rw[j]at a;simp only at a|-;by_cases n:(i.name== "runtime.NumGoroutine")=aa;rw[b8 n]at a;cases a
  grind
def KN(E:cI)(K F:Nat->Prop)(σ:St)(X':Nat->Prop)(σ':St)(b:Nat):Prop:=K b\/ (¬E.D8/\ (F b\/ (σ.n<=b/\ b<σ'.n/\ ¬X' b)))
def wA(D:a_)(f:Nat)(I:List VV)(ys:List<|List VV)(r:VV)(O:List<|List VV)(E:cI)(X K F:Nat->Prop)(σ:St)(args:List AV):Prop:=
 E.D=D->E.dO ys X K σ->aA σ.l=σ.n->E.n0<=σ.n->D.gx<=σ.n->(∀b,X b->b<σ.n)->(∀b,K b->b<σ.n/\ ¬X b)->(∀b,F b->b<σ.n/\ ¬X b)->GL D F σ->RL σ F E.L LU I args->
 ∃a σ' X',dw D f args σ=.ok (.ret a,σ')/\ Fz E X σ O X' (KN E K F σ X' σ') σ'/\ et r=aa/\ RR σ' (λb=>F b\/ (σ.n<=b/\ b<σ'.n/\ ¬X' b)) E.L (λ_ _=>False) r a
def lV(D:a_)(c:VC):Prop:=∀f I P ys r O,c.z f I P ys=.ok (r,O)->hK D f=aa/\ ∀(E:cI) (X K F:Nat->Prop) (σ:St) (args:List AV),E.iN=P->wA D f I ys r O E X K F σ args
def qq(D:a_)(c:VC):Prop:=∀f Q I P h r h',c.i f Q I P h=.ok (r,h')->hK D f=aa/\ ∀(E:cI) (X Z:Nat->Prop) (m:Nat->Nat) (σ:St) (args:List AV),E.D=D->E.iN=P->SR E X Z m h σ->fl E X Z m h σ I args->
 ∃a σ' X' m',dw D f args σ=.ok (.ret a,σ')/\ SR E X' Z m' h' σ'/\ Ex X Z m h σ X' Z m' h' σ'/\ RV E X' Z m' h' σ' r a
def W7{σ σ':St}{F d:aE}{L:Nat}{loc loc':VV->AV->Prop}:∀{J:aC} {l:aD},(eU J).isSome=aa->RL σ F L loc J l->RL σ' d L loc' J l
 |[],l,_,h=>by simp only[RL]at h|-;exact h
 |v::J,l,p,h=>by
  simp only[RL]at h;obtain⟨a,r,rfl,V,j⟩:=h
  cases v<;>simp only[eU]at p<;>try(cases p;done)
  cases M:eU J with
  |none=>rw[M]at p;cases p
  |some q=>refine RL.gb ?_<|W7 (by rw[M];rfl) j;simp only[RR]at V|-;exact V
def amH{σ σ':St}{F Q:aE}{L:Nat}{loc loc':VV->AV->Prop}{v:VV}{a:AV}(p:wc v=aa)(h:RR σ F L loc v a):RR σ' Q L loc' v a:=by
 have s:∀(v:VV) (a:AV),(match v with
  |.aN _=>aa
  |.agg O=>(eU O).isSome
  |_=>ab)=aa->RR σ F L loc v a->RR σ' Q L loc' v a:=by
  intro v a p h
  cases v<;>try(cases p;done)
  simp only[RR]at h|-;exact h;simp only[RR]at h|-;obtain⟨l,V,j,d⟩:=h;exact⟨l,V,j,W7 p d⟩
 cases v<;>try(cases p;done)
 exact at6;exact s _ _ p h;rename_i q;simp only[RR]at h|-;obtain⟨l,V,j,d⟩:=h;refine⟨l,V,j,?_⟩;simp only[wc,kt]at p;clear V j
 induction q generalizing l with
 |nil=>simp only[RL]at d|-;exact d
 |cons v q I=>simp only[RL]at d;obtain⟨a,r,rfl,i,o⟩:=d;exact RL.gb (s v a (p v aY) i)<|I r o λx U=>p x<|by simp[U]
def cI.Mx(E:cI):cI:={E with iN:=vT,tC:=λ_ _ _ _ _ _ _ _ _ _ _ _ q=>by cases q}
def ate{D:a_}{c:VC}(i:lV D c)(J:E.D=D)(A:c.y=E.iN)(S:SR E X Z m h σ){f:Nat}{args:aC}{I:aD}{r:VV}{h':H}(z:Fa c f args h=.ok (r,h'))(L:fl E X Z m h σ args I):
 hK D f=aa/\ ∃a σ' X',dw D f I σ=.ok (.ret a,σ')/\ SR E X' Z m h' σ'/\ Ex X Z m h σ X' Z m h' σ'/\ RV E X' Z m h' σ' r a:=by
 unfold Fa at z;rw[bF]at z;have⟨p,n,z⟩:=z;have⟨j,P⟩:=S.cp p.2;have T:=Ts S (S':=p.2) _ _ _ _ n (λ_ h=>h) L;have d:∀b,cX X Z m (cp h p.2) σ b->b<σ.n/\ ¬X b:=λb e=>⟨e.1,e.2.1⟩;have k:∀b,cX X Z m h σ b->b<σ.n/\ ¬X b:=λb e=>⟨e.1,e.2.1⟩;have v:∀(G:cI) (r:VV) (N:aB),(∀y X K σ,G.dO y X K σ↔E.dO y X K σ)->G.L=E.L->G.D=E.D->G.n0=E.n0->(∀(X K F:aE) (σ:St) (args:aD),wA D f p.1 h.y r N G X K F σ args)->
  ∃a σ' X',dw D f I σ=.ok (.ret a,σ')/\ SR E X' Z m ⟨(cp h p.2).o,N⟩ σ'/\ Ex X Z m h σ X' Z m ⟨(cp h p.2).o,N⟩ σ'/\ RV E X' Z m ⟨(cp h p.2).o,N⟩ σ' r a:=by
  intro G r N O Y h3 h4 W;have⟨a,σ',X',g,C,e3,Q⟩:=W X (cX X Z m (cp h p.2) σ) (cX X Z m (cp h p.2) σ) σ I (h3.trans J) ((O _ _ _ _).2 (by have:=j.dO;rwa[GG]at this)) S.wf (h4▸S.n0) (J▸S.ng) S.xb d d (J▸j.gl)<|Y▸T;refine⟨a,σ',X',g,?_⟩;have⟨x,B⟩:=j.Md (E:=E) ⟨C.n,C.wf,C.M,(O _ _ _ _).1 C.dO,C.xx,C.xn,C.fN⟩ λb e=>by
   rcases e with e|⟨_,e|e⟩
   exact .inl e;exact .inl e;exact .inr e
  refine⟨x,P.trans B,?_⟩;rw[Y]at Q;refine RR.mono (bu _) (λb e t=>⟨?_,e,aM⟩) (λ_ _ h=>h.elim) _ _ Q
  rcases t with t|⟨k1,k2,k3⟩
  exact(B.fs b t).1;refine⟨k2,k3,λw=>?_,λs a0 c0=>?_⟩;have:=(S.zb b w).2.1;omega;have:=(B.b s<|VK.rh a0);omega
 cases V:zm p.1 with
 |false=>rw[V]at z;simp only[br,bF]at z;have⟨q,M,z⟩:=z;cases z;have⟨U,W⟩:=i f p.1 c.y h.y q.1 q.2 M;exact⟨U,v E q.1 q.2 (λ_ _ _ _=>Ch) aM aM aM λX K F σ args=>W E X K F σ args A.symm⟩
 |true=>
  rw[V]at z;simp only[a8,bF]at z;have⟨q,M,z⟩:=z;cases z;have⟨U,W⟩:=i f p.1 vT h.y q.1 q.2 M;refine⟨U,?_⟩
  cases u:wc q.1 with
  |false=>exact v E.Mx q.1 q.2 (λ_ _ _ _=>Ch) aM aM aM λX K F σ args=>W E.Mx X K F σ args rfl
  |true=>
   have⟨a,σ',X',g,C,e3,Q⟩:=W E.Mx X (cX X Z m h σ) (cX X Z m (cp h p.2) σ) σ I aM J S.dO S.wf S.n0 (J▸S.ng) S.xb k d (J▸j.gl) T;refine⟨a,σ',X',g,?_⟩;have⟨x,B⟩:=S.Md (E:=E) ⟨C.n,C.wf,C.M,C.dO,C.xx,C.xn,C.fN⟩ λb e=>by
    rcases e with e|⟨b0,_⟩
    exact .inl e;exact(b0 λl b e=>by cases e).elim
   exact⟨x,B,amH u Q⟩
def atc{c:VC}(y:c.y=E.iN)(S:SR E X Z m h σ){args:aC}{I:aD}{r:VV}{h':H}(z:E9 c args h=.ok (r,h'))(x:fl E X Z m h σ args I):
 ∃a σ' X',fI E.D E.L I σ=.ok (.ret a,σ')/\ SR E X' Z m h' σ'/\ Ex X Z m h σ X' Z m h' σ'/\ RV E X' Z m h' σ' r a:=by
 unfold E9 at z;simp only[bF]at z;have⟨p,M,q,u,z⟩:=z;cases z;have⟨j,C⟩:=S.cp p.2;have D:rB E X Z m (cp h p.2) σ p.1 I:=sQ S _ _ _ _ _ M (λ_ h=>h) x;have⟨σ',X',i,o,s,w,n,f,J,W⟩:=E.tC h.y X (cX X Z m (cp h p.2) σ) σ p.1 I q (by have:=j.dO;rwa[GG]at this) S.wf S.xb (λb e=>⟨e.1,e.2.1⟩) D<|y▸u;have⟨O,l⟩:=j.Md (y':=h.y++[p.1]) (K':=cX X Z m (cp h p.2) σ) ⟨f,J,W,o,s,w,n⟩ λb e=>.inl e;exact⟨_,σ',X',i,O,C.trans l,CO _⟩
end
section
variable{E:cI}{X Z:Nat->Prop}{m:Nat->Nat}{h:H}{σ:St}
def uB{X' Z':aE}{m':Nat->Nat}{h':H}{σ':St}{N:Nat}{T:Vg}{c:Rg}(S:∀i,RV E X' Z' m' h' σ' (T i)<|c i){d:Option Tmp}(C:∀t,d=ad t->t<N){v:VV}{a:AV}(Y:RV E X' Z' m' h' σ' v a):
 ∀i,RV E X' Z' m' h' σ' (dX T d v i) (cZ N c d a i):=by
 intro i
 cases d with
 |none=>exact S i
 |some t=>
  have D:ah t N=aa:=kz.2<|C t aM;simp only[dX,cZ,D,a8]
  cases ag i t with
  |true=>exact Y
  |false=>exact S i
def ET:RV E X Z m h σ .undef AV.undef:=by simp only[RR,LC]
def SR.Kh(S:SR E X Z m h σ)(s:Nat):SR E X Z m (l6 s h) σ/\ Ex X Z m h σ X Z m (l6 s h) σ:=by
 unfold l6;have q:∀F,((h.cu s ⟨(h.o s).ver+1,0,.none⟩).o F).k.hV=aa->F≠s/\ (h.o F).k.hV=aa:=aup;have C:∀F,((h.cu s ⟨(h.o s).ver+1,0,.none⟩).o F).k.ct=aa->F≠s/\ (h.o F).k.ct=aa:=aup;have B:Ex X Z m h σ X Z m (h.cu s ⟨(h.o s).ver+1,0,.none⟩) σ:=by refine⟨bu _,λs J=>(S.ct s J).2.1,λb z=>⟨z,aM⟩,λb e=>?_,λF=>?_⟩;have⟨L,N,r,P⟩:=e;exact⟨⟨L,N,r,λF Q=>P F (q F Q).2⟩,aM⟩;by_cases V:F=s;subst V;left;rw[jx];exact at6;right;exact .fN (by rw[ic V]) aM λ_=>rfl
 refine⟨⟨S.wf,S.ng,S.n0,?_,S.xb,S.zb,λF Q=>?_,λa b T e g=>S.inj a b (q a T).2 (C b e).2 g,S.gl.mono B.fs⟩,B⟩;rw[show(h.cu s ⟨(h.o s).ver+1,0,.none⟩).y=h.y from aM];exact E.jN _ _ _ _ σ _ S.dO (bu _) S.wf (λ_ _ _=>rfl) aM λb e=>(B.fs b e).1;have⟨x,d⟩:=C F Q;have⟨O,w,j,f,I⟩:=S.ct F d;refine⟨O,w,j,f,?_⟩;rw[ic x];exact OR.mono B.n B.hF B.lc I
def ajH(S:SR E X Z m h σ){s t n:Nat}{cs:aC}{l:aD}(f:fl E X Z m h σ cs l)(B:l.all cT=aa)(hn:aA cs=n)(h0:0<n):
 Made E X Z m h σ (.ok (.slice σ.n 0 1 (ad 1) n,.cells l t aa n)) (.bh s ((h.o s).ver+1) 0 1) (h.new s<|.cells aa ab t n [cs]):=by
 have P:=f.len
 have⟨C,w⟩:=zh S (s:=s) (k:=.cells aa ab t n [cs]) (o:=.cells l t aa n) ⟨l,aa,aM,λ_=>rfl,h0,by
  simp only[dj]
  exact RE.one aW hn B f⟩
 refine⟨_,_,_,aM,?_,C,w,?_⟩;simp only[dM];exact wR (wH _) _<|fl.dI S f;simp only[RR,LC];have⟨g,O⟩:=vV h s<|.cells aa ab t n [cs];refine .inr ⟨g.symm,aa,ab,t,n,[cs],O,aY,.inr ⟨ad 1,?_,λc Q=>by cases Q;simp⟩⟩;rw[sr];simp
def abo(E:cI)(X Z:Nat->Prop)(m:Nat->Nat)(h:H)(σ:St)(N:Nat)(T:Rg)(o:Oper)(v:VV)(h':H):Prop:=∃a σ' X' m',ml E.D (dw E.D) (fI E.D) N o T σ=.ok (.go (cZ N T o.dst a) σ')/\ SR E X' Z m' h' σ'/\ Ex X Z m h σ X' Z m' h' σ'/\ RV E X' Z m' h' σ' v a
def abK{P:VT}{c:VC}{Q N:Nat}(f0:lV E.D c)(b0:qq E.D c/\ c.y=E.iN)(c0:P.D=E.D)(S:SR E X Z m h σ){T:Vg}{L:Rg}(g0:∀i,RV E X Z m h σ (T i)<|L i){o:Oper}(d:jo E.D o.op=.cB){v:VV}{h':H}
 (J:CD P c Q T h o.dst o.op=.ok (v,h')):abo E X Z m h σ N L o v h':=by
 have U:=λx=>oW S g0 x;have⟨D,h0,r0,i0,j0,k0⟩:=o;simp only at d J|-
 cases h0<;>simp only[CD]at J<;>try(cases J;done)
 case store t p x=>simp only[bF]at J;have⟨A,B,J⟩:=J;cases J;rw[c0]at B;have⟨z,O,C,G⟩:=apt S B (U p)<|U x;refine⟨AV.undef,z,X,m,?_,C,G,ET⟩;unfold ml execOp;simp only[d,mG,O,ca,aO];rfl
 case mapUpdate t p k x=>simp only[bF]at J;have⟨A,B,J⟩:=J;cases J;rw[c0]at B;have⟨z,O,C,G⟩:=ajI S B (U p) (U k)<|U x;refine⟨AV.undef,z,X,m,?_,C,G,ET⟩;unfold ml execOp;simp only[d,mG,O,ca,aO];rfl
 case convert s t x=>
  have d0:=U x;split at J;rename_i l j;rw[j]at d0;cases J;have l0:tw E.D s t=aa:=by
   unfold jo at d
   grind
  simp only[RR]at d0;have⟨a,z,W,O,C,G,q⟩:=adq S l0 l;refine⟨a,z,X,W,?_,C,G,q⟩;unfold ml execOp;simp only[d,mG,d0.1,O,ca,aO];rfl;cases J
 case call m0=>
  have⟨e0,args,n0⟩:=m0
  cases e0<;>simp only at J<;>try(cases J;done)
  rename_i f;have M:fl E X Z m h σ (args.toList.map<|bS T) (args.toList.map<|cn E.D L):=RL.map U _;have n:=U f;unfold yD at J;split at J
  rename_i g first o0 j
  rw[j]at n;simp only[RR]at n;have⟨l,r,A,_,I,h3⟩:=n;have y:=(I.append M).append h3;have Y:hK E.D g=aa/\ ∃a z F W,dw E.D g ((l++args.toList.map (cn E.D L))++r) σ=.ok (.ret a,z)/\ SR E F Z W h' z/\ Ex X Z m h σ F Z W h' z/\ RV E F Z W h' z v a:=by
   unfold Kj at J
   cases V:P.inl g with
   |true=>rw[V]at J;have⟨w,e⟩:=b0.1 _ _ _ _ _ _ _ J;exact⟨w,e E X Z m σ _ aM b0.2.symm S y⟩
   |false=>rw[V]at J;have⟨w,a,z,F,e,k3,k4,k5⟩:=ate f0 aM b0.2 S J y;exact⟨w,a,z,F,m,e,k3,k4,k5⟩
  have⟨p0,a,z,F,W,w,e,k3,k4⟩:=Y;refine⟨a,z,F,W,?_,e,k3,k4⟩;have c2:=Ki p0<|(l++args.toList.map (cn E.D L))++r;unfold ml execOp;simp only[d,mG,ca];rw[A];simp only[pL,vG,c2,aO,oo,pure,Except.pure,w];rename_i j;rw[j]at n;simp only[RR]at n;have⟨a,z,F,w,e,k3,k4⟩:=atc b0.2 S J M;refine⟨a,z,F,m,?_,e,k3,k4⟩;unfold ml execOp;simp only[d,mG,n.1,ca,pL,aO,oo,pure,Except.pure,w];cases J;rename_i b;split at J;rename_i t u s x A I;have Y:Ce E X Z m h σ (l_ E.D σ t u (cn E.D L s)<|cn E.D L x) v h':=by
   unfold An at J;rw[c0]at J
   cases a0:P.km (dk Q D)with
   |false=>rw[a0]at J;exact Qc S J (U s)<|U x
   |true=>rw[a0]at J;simp only[a8,bF]at J;have⟨p,q0,J⟩:=J;cases J;have⟨a,z,W,O,C,G,q⟩:=Qc S q0 (U s)<|U x;have⟨b1,b2⟩:=C.Kh<|dk Q D;exact⟨a,z,W,O,b1,G.trans b2,b2.rv q⟩
  have⟨a,z,W,O,C,G,q⟩:=Y;exact avp;rename_i t u s x A I;rw[c0]at J;have⟨a,z,W,O,C,G,q⟩:=aed S J (U s)<|U x;exact avp;cases J
def MU:∀(cs new:aD),aA new=aA cs->q_ cs new=new
 |[],[],_=>rfl
 |c::cs,n::new,h=>by simp only[cr,Nat.add_right_cancel_iff]at h;simp[q_,MU cs new h]
def Zi(cs new:aD)(h:aA new=aA cs):iY cs 0 new=new:=by
 cases cs with
 |nil=>exact MU [] new h
 |cons c cs=>exact MU (c::cs) new h
def V'{P:VT}(J:P.D=E.D)(S:SR E X Z m h σ){T:Vg}{d:Rg}(F:∀i,RV E X Z m h σ (T i)<|d i){l:Op}{s:Nat}{v:VV}{h':H}(M:te P h (bS T) l s=.ok (v,h')):
 Made E X Z m h σ (jT E.D (cn E.D d) l σ.n) v h':=by
 have a0:=λx=>oW S F x;unfold te at M
 cases k:P.km s with
 |false=>rw[k,J]at M;exact JV S F M
 |true=>
  rw[k]at M;simp only[a8]at M
  cases N:P.xa s with
  |true=>rw[N]at M;simp only[a8,R6,bF]at M;obtain⟨p,M,b⟩:=M;cases b;rw[J]at M;obtain⟨a,Y,W,C,B,w,D,O⟩:=JV S F M;obtain⟨L,o⟩:=w.Kh s;exact⟨a,Y,W,C,B,L,D.trans o,o.rv O⟩
  |false=>
  rw[N]at M;simp only[br]at M;unfold Ws at M;rw[J]at M
  cases l<;>try(cases M;done)
  case buildSlice t n b0=>
   simp only at M;split at M;rename_i x I;simp only[bF]at M;obtain⟨j,u,z,c0,e0,f,M⟩:=M;rw[dn,bW,oP]at M;obtain⟨⟨Q,e⟩,M⟩:=M;cases M;have Q:=dB Q;obtain⟨y,g2⟩:=Az LC.dN f<|a0 x;obtain⟨f0,g,c,U⟩:=ya u;have d0:=ajH S (s:=s) (t:=j.1) y g2 Q U;obtain⟨a,g0,b,f1,f2,G,f4,_⟩:=OE (E:=E) (X:=X) (Z:=Z) (m:=m) (h:=h) (σ:=σ) c0;rw[c]at G;cases G;have q:aA a.cells=j.2:=by have:=f1.len;omega
   have A:(cn E.D d x).cells.length=j.2:=by have:=y.len;omega
   have e1:jT E.D (cn E.D d) (.buildSlice t 1 b0) σ.n=.ok (.slice σ.n 0 1 (ad 1) j.2,.cells (cn E.D d x).cells j.1 aa j.2):=by
    have V:sw E.D j.1 1=.ok a.cells:=by unfold sw;simp only[c,ca,aO,b];rw[cG aW,b8 q];simp[lI,pure,Except.pure]
    simp only[jT,g,c,ca,aO];rw[cG aW];simp only[V,I,cL,i_,fill];rw[b8 ⟨A,aW⟩,kb,Zi _ _ aW];rfl
   exact at6;cases M
  case makeMap t r=>
   cases r with
   |some x=>cases M
   |none=>simp only[bF]at M;obtain⟨p,M,b⟩:=M;cases b;obtain⟨a,Y,W,C,B,w,D,O⟩:=JV S F M;obtain⟨L,o⟩:=w.Kh s;exact⟨a,Y,W,C,B,L,D.trans o,o.rv O⟩
def WG{P:VT}{c:VC}{z N:Nat}(M:lV E.D c)(G:qq E.D c/\ c.y=E.iN)(J:P.D=E.D)(r:SR E X Z m h σ){T T':Vg}{d:Rg}(S:∀i,RV E X Z m h σ (T i)<|d i){o:Oper}(L:∀t,o.dst=ad t->t<N){h':H}
 (B:ec P c z aa o T h=.ok (T',h')):∃n σ' X' m',ml E.D (dw E.D) (fI E.D) N o d σ=.ok (.go n σ')/\ SR E X' Z m' h' σ'/\ Ex X Z m h σ X' Z m' h' σ'/\ ∀i,RV E X' Z m' h' σ' (T' i) (n i):=by
 have y:Ex X Z m h σ X Z m h σ:=Ex.refl _ _ _ _ _ λs q=>(r.ct s q).2.1;unfold ec at B;rw[J]at B;simp only[a8]at B
 cases Q:jo E.D o.op with
 |pure=>rw[Q]at B;simp only[bF]at B;have⟨v,Y,B⟩:=B;cases B;have⟨a,C,w⟩:=Xp r S Y;refine⟨cZ N d o.dst a,σ,X,m,?_,r,y,uB S L w⟩;unfold ml execOp;simp only[Q,C,ca,aO];rfl
 |je=>rw[Q]at B;simp only[bF]at B;have⟨v,Y,B⟩:=B;cases B;have⟨a,C,w⟩:=XK r S Y;refine⟨cZ N d o.dst a,σ,X,m,?_,r,y,uB S L w⟩;unfold ml execOp;simp only[Q,C,ca,aO];rfl
 |alloc=>rw[Q]at B;simp only[bF]at B;have⟨p,Y,B⟩:=B;cases B;have⟨a,U,m',C,_,w,j,O⟩:=V' J r S Y;refine⟨cZ N d o.dst a,σ.push U,X,m',?_,w,j,uB (λi=>j.rv<|S i) L O⟩;unfold ml execOp;simp only[Q,C,ca,aO];rfl
 |cB=>rw[Q]at B;simp only[bF]at B;have⟨p,Y,B⟩:=B;cases B;have⟨a,σ',X',m',C,w,j,O⟩:=abK (N:=N) M G J r S Q Y;exact⟨_,σ',X',m',C,w,j,uB (λi=>j.rv<|S i) L O⟩
def WH{P:VT}{c:VC}{Q:Nat}{T T':Vg}{o:Oper}{h':H}(B:ec P c Q ab o T h=.ok (T',h')):T'=dX T o.dst .undef/\ h'=h:=by unfold ec at B;simp only[br]at B;cases S:jo P.D o.op<;>rw[S]at B<;>cases B<;>exact⟨aM,aM⟩
def TQ{N:Nat}{T:Vg}{c:Rg}(S:∀i,RV E X Z m h σ (T i)<|c i){ops:aH}{o:Oper}{g:Bool}(W:∀o∈ops,∀t,o.dst=ad t->t<N)(G:rR ops o T=ad g):su N ops.toArray o c=g:=by
 unfold rR at G;unfold su
 cases I:o.guard with
 |none=>rw[I]at G;cases G;rfl
 |some F=>
  have⟨j,k⟩:=F;rw[I]at G;simp only[pA]at G|-
  cases e:(ops[j]?).bind (·.dst)with
  |none=>rw[e]at G;cases G
  |some d=>
   rw[e]at G;simp only at G|-;have Q:d<N:=by
    cases u:ops[j]? with
    |none=>rw[u]at e;cases e
    |some q=>rw[u]at e;exact W q (nO u) d e
   have O:ah d N=aa:=kz.2 Q;rw[O];simp only[a8];have v:=S d;unfold xg at G;split at G;rename_i b r;rw[r]at v;simp only[RR]at v;rw[v.1];cases G;rfl;rename_i r;rw[r]at v;simp only[RR,LC]at v;rw[v];cases G;rfl;cases G
end
theorem RZ{N:Nat}:∀{l:aH},Db N l=aa->∀o∈l,∀t,o.dst=ad t->t<N
 |[],_,o,ho,_,_=>by simp at ho
 |j::l,C,o,ho,t,D=>by
  simp only[Db,bW]at C
  rcases dz.1 ho with rfl|ho
  exact at6;exact RZ C.2 o ho t D
section
variable{E:cI}{X Z:Nat->Prop}{m:Nat->Nat}{h:H}{σ:St}{P:VT}{c:VC}{aN N:Nat}(hz:lV E.D c)(hi:qq E.D c/\ c.y=E.iN)(hD:P.D=E.D)
include hz hi hD
theorem Im{ops:aH}(W:∀o∈ops,∀t,o.dst=ad t->t<N):∀(l:aH) {X:aE} {m:Nat->Nat} {h:H} {σ:St} {T:Vg} {L:Rg} {o:Vo},(∀o∈l,o∈ops)->SR E X Z m h σ->(∀i,RV E X Z m h σ (T i)<|L i)->mv P c aN ops lj l T h=.ok o->
 ∃T' h',o=.bI T' h'/\ ∃n σ' X' m',sk E.D (dw E.D) (fI E.D) N ops.toArray l L σ=.ok (.go n σ')/\ SR E X' Z m' h' σ'/\ Ex X Z m h σ X' Z m' h' σ'/\ ∀i,RV E X' Z m' h' σ' (T' i)<|n i
 |[],X,m,h,σ,T,L,o,_,S,F,Y=>by simp only[mv,lj]at Y;cases Y;exact⟨T,h,aM,L,σ,X,m,aM,S,Ex.refl _ _ _ _ _ λs q=>(S.ct s q).2.1,F⟩
 |o::l,X,m,h,σ,T,L,z,x,S,F,Y=>by
  simp only[mv]at Y
  cases G:rR ops o T with
  |none=>rw[G]at Y;cases Y
  |some g=>
   rw[G]at Y;simp only[bF]at Y;obtain⟨p,M,Y⟩:=Y;have e:=TQ F W G;have J:=W o<|x o aY
   cases g with
   |true=>obtain⟨y,O,Q,k,V,j,w,r⟩:=WG (N:=N) hz hi hD S F J M;obtain⟨T',h',rfl,n,σ',X',m',C,I,f,U⟩:=Im W l (λo B=>x o<|by simp[B]) j r Y;refine⟨T',h',aM,n,σ',X',m',?_,I,w.trans f,U⟩;unfold sk;rw[e];simp only[a8,V,aO,RO.iO];exact C
   |false=>obtain⟨A,b⟩:=WH M;rw[A,b]at Y;have u:=uB (N:=N) (d:=o.dst) (v:=.undef) (a:=AV.undef) F J ET;obtain⟨T',h',rfl,n,σ',X',m',C,I,f,U⟩:=Im W l (λo B=>x o<|by simp[B]) S u Y;refine⟨T',h',aM,n,σ',X',m',?_,I,f,U⟩;unfold sk;rw[e];simp only[br];exact C
end
section
variable{E:cI}{X0 Z:Nat->Prop}{m0:Nat->Nat}{h0:H}{σ0:St}
abbrev kc(E:cI)(X0 Z:Nat->Prop)(m0:Nat->Nat)(h0:H)(σ0:St):VV->AV->Prop:=RR σ0 (cX X0 Z m0 h0 σ0) E.L λ_ _=>True
theorem kc.of{v:VV}{a:AV}(Y:RV E X0 Z m0 h0 σ0 v a):kc E X0 Z m0 h0 σ0 v a:=RR.mono (bu _) (λb e j=>⟨j,e,aM⟩) (λ_ _ _=>trivial) v a Y
theorem VU{t:Nat}:∀{l:aK},D_ t l=ab↔t∉l
 |[]=>by simp[D_]
 |x::l=>by
  simp only[D_,gz,dz,not_or,VU (l:=l)];constructor;rintro⟨V,a⟩;refine⟨λe=>?_,a⟩;exact at6;rintro⟨V,a⟩;refine⟨?_,a⟩
  cases p:ag t x with
  |false=>rfl
  |true=>exact absurd (dB p) V
theorem BJ{T:Vg}{d:Rg}{D:aK}(B:∀r,r∉D->kc E X0 Z m0 h0 σ0 (T r) (d r)){x:Operand}(s:tX D x=aa):kc E X0 Z m0 h0 σ0 (bS T x) (cn E.D d x):=by
 cases x with
 |tmp t=>simp only[tX,nM]at s;exact B t<|VU.1 s
 |const v=>exact kc.of<|N8 v
 |global g=>cases s
 |func f=>cases s
section
variable{X:Nat->Prop}{m:Nat->Nat}{h:H}{σ:St}
theorem KV{α:Type}{x:R α}{a b:α}(h1:x=.ok a)(p:x=.ok b):a=b:=by rw[h1]at p;cases p;rfl
theorem Zr(J:Ex X0 Z m0 h0 σ0 X Z m h σ){s:Nat}(h1:(h0.o s).ver=(h.o s).ver):Ah m0 h0 σ0 m h σ s:=by
 rcases J.st s with k|k
 omega;exact k
theorem TF{X':aE}{m':Nat->Nat}{h':H}{σ':St}(w:Ex X0 Z m0 h0 σ0 X' Z m' h' σ')(f:Ex X' Z m' h' σ' X Z m h σ){s:Nat}(h1:(h0.o s).ver=(h.o s).ver)(a:(h0.o s).md=(h.o s).md)(l:(h0.o s).k.ct=aa):
 σ'.a7 (m0 s)=σ0.a7 (m0 s):=by
 have C:Ah m0 h0 σ0 m' h' σ' s:=by
  rcases w.st s with k|k
  rcases f.st s with g|g
  omega;have:=g.ver;omega;exact k
 have o:Ah m' h' σ' m h σ s:=by
  rcases f.st s with g|g
  have:=C.ver;omega;exact g
 refine(C.eq l ?_).1;have:=C.md;have:=o.md;omega
theorem Vr{D:a_}{σ σ':St}{t b o:Nat}(e:b<σ.n)(I:b<σ'.n)(f:σ'.a7 b=σ.a7 b):jw D σ' t (.aR b o)=jw D σ t (.aR b o):=by
 have:cellsOf σ' b=cellsOf σ b:=by unfold cellsOf;rw[b8 e,b8 I,f]
 simp only[jw,this]
theorem aeY{s ver i:Nat}(h1:(h0.o s).ver=(h.o s).ver)(a:sP (h0.o s).k (h.o s).k){cs:aC}(f:qD h s ver i=.ok cs):qD h0 s ver i=.ok cs:=by
 unfold qD at f|-;rw[bF]at f;have⟨q,M,f⟩:=f;have⟨g,C⟩:=nX M;rw[C]at a
 cases B:(h0.o s).k with
 |none=>rw[B]at a;exact a.elim
 |map _=>rw[B]at a;exact a.elim
 |cells F J e r j=>rw[B]at a;have a:j=q.2.2.2.2:=a;unfold gB;rw[B,h1,g,gX];simp only[a8,aO,a];exact f
theorem ajp(Q:SR E X0 Z m0 h0 σ0)(d0:SR E X Z m h σ)(J:Ex X0 Z m0 h0 σ0 X Z m h σ){t:Nat}{q:Option Nat}(e0:qe E.D t=.ok q){v r:VV}{a:AV}{p:aC×Nat}(M:oT h v=.ok p)(f0:gg q p.1 p.2=.ok r)(a0:RV E X Z m h σ v a)(V:kc E X0 Z m0 h0 σ0 v a)(n:q8 h0 h v=aa){x:AV}(g0:jw E.D σ t a=.ok x):
 kc E X0 Z m0 h0 σ0 r x/\ ∀(X':aE) (m':Nat->Nat) (h':H) (σ':St),Ex X0 Z m0 h0 σ0 X' Z m' h' σ'->Ex X' Z m' h' σ' X Z m h σ->jw E.D σ' t a=.ok x:=by
 have Y:RV E X0 Z m0 h0 σ0 v a/\ oT h0 v=.ok p/\ ∃b o,a=.aR b o/\ b<σ0.n/\ ∀(X':aE) (m':Nat->Nat) (h':H) (σ':St),Ex X0 Z m0 h0 σ0 X' Z m' h' σ'->Ex X' Z m' h' σ' X Z m h σ->σ'.a7 b=σ0.a7 b:=by
  cases v<;>simp only[oT]at M<;>try(cases M;done)
  rename_i s i0 i o;simp only[q8,bW]at n;have g:=dB n.1;have e2:=dB n.2;have D:=Zr J g;rw[bF]at M;have⟨b0,c0,M⟩:=M;have d:=c0;unfold qD at d;rw[bF]at d;have⟨w,j0,_⟩:=d;have⟨w1,w2⟩:=nX j0;have F:=D.k;rw[w2]at F;have C:(h0.o s).k.ct=aa:=by
   cases f:(h0.o s).k with
   |none=>rw[f]at F;exact F.elim
   |map _=>rfl
   |cells _ _ _ _ _=>rfl
  have⟨g1,B⟩:=D.eq C aW;have I:m s=m0 s:=D.mm.resolve_right λk0=>by rw[k0]at C;cases C
  simp only[RR,LC]at a0
  rcases a0 with⟨k1,_⟩|⟨k1,q0,r0,e,l0,s0,G,j,rfl⟩
  omega;refine⟨?_,?_,m s,_,aM,by rw[I];exact(Q.ct s C).2.1,λX' m' h' σ' W U=>by rw[I];exact TF W U g e2 C⟩;simp only[RR,LC];right;rw[G]at B
  cases f:(h0.o s).k with
  |none=>rw[f]at F;exact F.elim
  |map _=>rw[f]at F;exact F.elim
  |cells z y n0 A S=>
   rw[f]at F B;have:=w2.symm.trans G
   injection this with b1 b2 b3 b4 b5
   rw[b1,b3,b4,b5]at F;have⟨f1,f2,f3,f4⟩:=F;refine⟨aW,z,y,n0,A,S,rfl,?_,?_⟩;rw[f4];exact j;rw[I,f3]
  simp only[oT];rw[aeY g B c0];exact M;rename_i b0 o;have u:RV E X0 Z m0 h0 σ0 (.bA b0 o) a:=by simp only[RR]at V|-;exact V
  refine⟨u,by simp only[oT];exact M,?_⟩;simp only[RR]at V;obtain⟨b,k,l,e,t0,l0,rfl,G,j,_⟩:=V;exact⟨b,_,aM,j,λX' m' h' σ' W _=>(W.fs b G).2⟩
 obtain⟨g1,B,b,o,rfl,T,g4⟩:=Y;have⟨u0,f1,f2⟩:=Mm Q e0 B g1 f0;have o0:=dc T J.n;have L:jw E.D σ0 t (.aR b o)=.ok x:=by rw[<-g0];exact(Vr T o0<|g4 X m h σ J<|Ex.refl _ _ _ _ _ λs p0=>(d0.ct s p0).2.1).symm
 have O:=KV f1 L;subst O;refine⟨kc.of f2,λX' m' h' σ' W U=>?_⟩;rw[<-L];exact Vr T (dc T W.n)<|g4 X' m' h' σ' W U
theorem Va{q:Option Nat}{cs:aC}{o:Nat}{r:VV}(l:gg q cs o=.ok r):et r=aa:=by
 unfold gg at l;split at l
 grind
 rw[dn]at l;have⟨_,l⟩:=l;cases l;rfl
theorem akU{a:AV}{r:VV}(l:k9 a=.ok r):et r=aa:=by unfold k9 at l;split at l;rw[dn]at l;have⟨_,l⟩:=l;cases l;rfl;cases l
theorem amF(O:SR E X Z m h σ){T:Vg}{L:Rg}(F:∀i,RV E X Z m h σ (T i)<|L i){l:Op}{r:VV}(M:zz E.D h (bS T) l=.ok r):et r=aa:=by
 cases l<;>simp only[zz]at M<;>try(cases M;done)
 case load t a=>simp only[bF]at M;have⟨q,u,p,C,G⟩:=M;exact Va G
 case convert s d x=>simp only[bF]at M;have⟨a,J,b,e,A⟩:=M;exact akU A
 case lookup t x y ok=>
  simp only[zg,bF]at M;have⟨B,D,f,S,k,V,b,e,M⟩:=M;rw[dn]at M;obtain⟨rfl,M⟩:=M;rw[bF]at M;have⟨w,g,M⟩:=M;have⟨I,c,W,o⟩:=VM O S<|oW O F x
  rcases K8 0 g o with⟨rfl,n⟩|⟨v,j,rfl,Y,Q,n⟩
  simp only[bF]at M;have⟨z,hz,M⟩:=M;have U:=(OF (E:=E) (X:=X) (Z:=Z) (m:=m) (h:=h) (σ:=σ) hz).1;cases ok<;>cases M;exact U;rfl;cases ok<;>cases M<;>rfl
theorem amG(Y:SR E X0 Z m0 h0 σ0)(O:SR E X Z m h σ)(g:Ex X0 Z m0 h0 σ0 X Z m h σ){T:Vg}{L:Rg}(f:∀i,RV E X Z m h σ (T i)<|L i){j:aK}(n:∀r,r∉j->kc E X0 Z m0 h0 σ0 (T r) (L r)){A:Op}
 (I:Nb j A=aa)(e:q8 h0 h (xS T A)=aa){r:VV}(M:zz E.D h (bS T) A=.ok r):
 ∃x,kM E.D σ (cn E.D L) A=.ok x/\ RV E X Z m h σ r x/\ cU x x=aa/\ (qN j A=aa->kc E X0 Z m0 h0 σ0 r x)/\
  ∀(X':aE) (m':Nat->Nat) (h':H) (σ':St),Ex X0 Z m0 h0 σ0 X' Z m' h' σ'->Ex X' Z m' h' σ' X Z m h σ->kM E.D σ' (cn E.D L) A=.ok x:=by
 have⟨x,J,w⟩:=XK O f M;refine⟨x,J,w,RR.refl LC.dN (amF O f M) w,?_⟩
 cases A<;>simp only[zz]at M<;>try(cases M;done)
 case load t a=>simp only[bF]at M;have⟨q,U,p,a0,G⟩:=M;have⟨g1,g2⟩:=ajp Y O g U a0 G (oW O f a) (BJ n I) e J;exact⟨λ_=>g1,g2⟩
 case convert s d y=>refine⟨λB=>by simp[qN]at B,λX' m' h' σ' _ _=>?_⟩;simp only[bF]at M;have⟨a,c0,b,d0,j0⟩:=M;simp only[kM,uA c0<|oW O f y,d0]at J|-;exact J
 case lookup t y k0 ok=>
  refine⟨λB=>by simp[qN]at B,λX' m' h' σ' u y2=>?_⟩;simp only[zg,bF]at M;have⟨l0,e0,n0,S,M⟩:=M;have f0:p' σ' (cn E.D L y)=p' σ (cn E.D L y):=by
   have W:=oW O f y;simp only[xS]at e;generalize o0:bS T y=v at S W e;unfold o7 at S;split at S;simp only[RR]at W;rw[W.1];rfl;rename_i s g0;simp only[q8,bW]at e;have z:=dB e.1;have e2:=dB e.2;have D:=Zr g z;rw[dn]at S;have⟨Q,S⟩:=S;have Q:=dB Q;split at S;rename_i l G;have F:=D.k;rw[G]at F;have C:(h0.o s).k.ct=aa:=by
    cases B:(h0.o s).k with
    |none=>rw[B]at F;exact F.elim
    |map _=>rfl
    |cells _ _ _ _ _=>rfl
   have V:m s=m0 s:=D.mm.resolve_right λi0=>by rw[i0]at C;cases C
   simp only[RR,LC]at W
   rcases W with⟨q1,_⟩|⟨_,p0,q2,q3⟩
   omega;rw[q3,V];have o:=(Y.ct s C).2.1;have e3:=TF u y2 z e2 C;have e4:=(D.eq C aW).1;simp only[p',dc o u.n,dc o g.n,dj,e3,e4];cases S;cases S
  rw[<-J];simp only[kM,DX,f0]
theorem aiL(D:SR E X0 Z m0 h0 σ0)(S:SR E X Z m h σ){T:Vg}{d:Rg}(F:∀i,RV E X Z m h σ (T i)<|d i){a:aK}(u:∀r,r∉a->kc E X0 Z m0 h0 σ0 (T r) (d r)){l:Op}(B:qN a l=aa){r:VV}{x:AV}(p:pe E.D h (bS T) l=.ok r)(U:gy E.D (cn E.D d) l=.ok x):kc E X0 Z m0 h0 σ0 r x:=by
 cases l<;>simp only[qN]at B<;>try(cases B;done)
 case move y=>simp only[pe,gy]at p U;cases p;cases U;exact BJ u B
 case assign y=>simp only[pe,gy]at p U;cases p;cases U;exact BJ u B
 case load=>simp only[pe]at p;cases p
 case nilCheck y=>
  have V:=BJ u B;simp only[pe]at p;simp only[gy]at U;have z:x=cn E.D d y:=by grind
  have L:r=bS T y:=by grind
  rw[z,L];exact V
 case fieldAddr t y f=>
  have V:=BJ u B;simp only[pe,bF]at p;have⟨Y,A,p⟩:=p;simp only[gy]at U;generalize bS T y=v at p V
  cases v<;>simp only[xd]at p<;>try(cases p;done)
  rw[dn]at p;have⟨_,p⟩:=p;cases p;simp only[RR];rename_i O o;have M:RV E X0 Z m0 h0 σ0 (.bA O o) (cn E.D d y):=by simp only[RR]at V|-;exact V
  have⟨k,n,e⟩:=SA (E:=E) A (v:=.bA O o) (r:=r) (h:=h0) (by simp only[xd];exact p) M;rw[KV U n];exact kc.of e
 case indexAddr t y C=>
  have V:=BJ u B;simp only[pe,bF]at p;have⟨q,I,i,hi,p⟩:=p;simp only[gy]at U;have⟨b,g⟩:=Qe hi<|oW S F C;have J:∀v,(∀X Z m h σ,RV E X Z m h σ v (cn E.D d y)↔RR σ (cX X Z m h σ) E.L (λ_ _=>True) v (cn E.D d y))->RR σ0 (cX X0 Z m0 h0 σ0) E.L (λ_ _=>True) v (cn E.D d y)->cF h0 q v i=.ok r->kc E X0 Z m0 h0 σ0 r x:=by intro v w W j;have⟨k,n,e⟩:=Us D I g j<|(w X0 Z m0 h0 σ0).2 W;rw[KV U n];exact kc.of e
  generalize bS T y=v at p V
  cases v with
  |fz a0=>exact J _ (λX Z m h σ=>by simp only[RR]) V p
  |bA O o=>exact J _ (λX Z m h σ=>by simp only[RR]) V p
  |aR s G b0 o=>unfold cF at p;split at p;rw[dn]at p;have⟨_,p⟩:=p;simp only[dn]at p;have⟨_,p⟩:=p;cases p;simp only[RR];exact at6
  |bh s G o Q=>unfold cF at p;split at p;exact at6;rw[dn]at p;have⟨_,p⟩:=p;simp only[bF,dn]at p;have⟨_,_,_,p⟩:=p;cases p;simp only[RR]
  |_=>unfold cF at p;split at p<;>(rw[dn]at p;have⟨_,p⟩:=p;cases p)
end
end
section
variable{E:cI}{X0 Z:Nat->Prop}{m0:Nat->Nat}{h0:H}{σ0:St}{P:VT}{c:VC}{aN N:Nat}(hz:lV E.D c)(hi:qq E.D c/\ c.y=E.iN)(hD:P.D=E.D)(hS0:SR E X0 Z m0 h0 σ0)
def FA(X0 Z:Nat->Prop)(m0:Nat->Nat)(h0:H)(σ0:St)(X:Nat->Prop)(m:Nat->Nat)(h:H)(σ:St)(σ':St):Prop:=∃X' m' h',Ex X0 Z m0 h0 σ0 X' Z m' h' σ'/\ Ex X' Z m' h' σ' X Z m h σ
theorem FA.up{X M:aE}{m J:Nat->Nat}{h h1:H}{σ σ1 σ':St}(x:FA X0 Z m0 h0 σ0 X m h σ σ')(k:Ex X Z m h σ M Z J h1 σ1):FA X0 Z m0 h0 σ0 M J h1 σ1 σ':=by have⟨F,W,Y,B,U⟩:=x;exact⟨F,W,Y,B,U.trans k⟩
theorem an0{r:R AV}{x:AV}(h:r=.ok x)(e:cU x x=aa):NF r x=aa:=by rw[h];exact e
theorem ai3(l:List St):mL.qQ l=aA l:=by
 induction l with
 |nil=>rfl
 |cons x l I=>show Nat.succ (mL.qQ l)=_;rw[I];rfl
theorem Ek{T:Vg}{L:Rg}{D:aK}(B:∀r,r∉D->kc E X0 Z m0 h0 σ0 (T r) (L r)){d:Option Tmp}(C:∀t,d=ad t->t<N){v:VV}{a:AV}{b:Bool}(Y:b=aa->kc E X0 Z m0 h0 σ0 v a):
 ∀r,r∉(bif b then D else match d with|some d=>d::D|none=>D)->kc E X0 Z m0 h0 σ0 (dX T d v r) (cZ N L d a r):=by
 intro r x
 cases d with
 |none=>cases b<;>exact B r x
 |some t=>
  have y:ah t N=aa:=kz.2<|C t aM;simp only[dX,cZ,y,a8]
  cases X:ag r t with
  |true=>
   have e:=dB X;subst e
   cases b with
   |true=>exact Y aM
   |false=>simp at x
  |false=>
   cases b with
   |true=>exact B r x
   |false=>exact B r λh=>x<|by simp[h]
theorem ak9:kc E X0 Z m0 h0 σ0 .undef AV.undef:=by simp only[RR]
include hz hi hD hS0
theorem yI{ops:aH}(W:∀o∈ops,∀t,o.dst=ad t->t<N):∀(p:List cM) (l:aH) (a:Nat) (k:List St) (D:aK) {X:aE} {m:Nat->Nat} {h:H} {σ:St} {T:Vg} {j:Rg} {o:Vo},
 G_ E.D ops p a=aa->l=p.filterMap (λit=>ops[it.i]?)->aA k=a+1->wa E.D D l=aa->
 SR E X Z m h σ->Ex X0 Z m0 h0 σ0 X Z m h σ->(∀s∈k,FA X0 Z m0 h0 σ0 X m h σ s)->(∀i,RV E X Z m h σ (T i)<|j i)->(∀r,r∉D->kc E X0 Z m0 h0 σ0 (T r) (j r))->kD P c aN ops lj h0 l T h=.ok o->
 ∃T' h',o=.bI T' h'/\ ∃n σ' X' m',qA E.D (dw E.D) (fI E.D) N ops.toArray p k j σ=.ok (n,σ')/\ SR E X' Z m' h' σ'/\ Ex X Z m h σ X' Z m' h' σ'/\ ∀i,RV E X' Z m' h' σ' (T' i)<|n i
 |[],l,_,k,D,X,m,h,σ,T,j,o,_,y,_,_,S,_,_,F,_,Y=>by simp only[Jh]at y;subst y;simp only[kD,lj]at Y;cases Y;exact⟨T,h,aM,j,σ,X,m,aM,S,Ex.refl _ _ _ _ _ λs B=>(S.ct s B).2.1,F⟩
 |it::p,l0,a,k,D,X,m,h,σ,T,j,z0,h1,y,b0,c0,S,I,z,F,V,Y=>by
  simp only[G_]at h1
  cases C:ops[it.i]? with
  |none=>rw[C]at h1;cases h1
  |some o=>
  rw[C]at h1;simp only[bW,nj]at h1;obtain⟨⟨i2,i3⟩,A⟩:=h1;simp only[OW,C]at y;subst y;have A0:=Cs i3;have o0:ops.toArray[it.i]?=ad o:=by rw[pA];exact C
  have d0:o∈ops:=nO C;have J:=W o d0;simp only[wa,bW]at c0;obtain⟨r1,r2⟩:=c0;simp only[kD]at Y
  cases p0:rR ops o T with
  |none=>rw[p0]at Y;cases Y
  |some g=>
   rw[p0]at Y;simp only[dn,bF]at Y;obtain⟨e0,q,M,Y⟩:=Y;have B0:=TQ F W p0;rw[qA,o0];simp only[B0]
   cases g with
   |false=>
    obtain⟨q1,q2⟩:=WH M;rw[q1,q2]at Y;simp only[br];have f0:=uB (N:=N) (d:=o.dst) (v:=.undef) (a:=AV.undef) F J ET;have f:=Ek (N:=N) V J (v:=.undef) (a:=AV.undef) (b:=qN D o.op) λ_=>ak9
    cases U:it.cB with
    |false=>rw[U]at A;simp only[br]at A|-;exact yI W p _ a k _ A aM b0 r2 S I z f0 f Y
    |true=>
     rw[U]at A;simp only[a8]at A|-
     exact yI W p _ (a+1) (σ::k) _ A aM (by simp[b0]) r2 S I (λs B=>by
      rcases dz.1 B with rfl|B
      exact⟨X,m,h,I,Ex.refl _ _ _ _ _ λs B=>(S.ct s B).2.1⟩
      exact z s B) f0 f Y
   |true=>
    simp only[a8]
    cases Q:jo E.D o.op with
    |cB=>
     have U:it.cB=aa:=by rw[i2,DG,Q]
     rw[U]at A|-;simp only[a8]at A|-;have G:qN D o.op=ab:=awn;obtain⟨g0,i0,X1,m1,O,s1,e,t1⟩:=WG (N:=N) hz hi hD S F J M;have j0:(o.op.operands.toList.all λx=>de σ.n<|cn E.D j x)=aa:=by rw[kt];exact λx _=>RV.dI S<|oW S F x
     have k0:∃w0,g0=cZ N j o.dst w0:=by
      unfold ml at O;rw[bF]at O;obtain⟨⟨C0,D0⟩,_,O⟩:=O
      cases C0<;>simp only[oo]at O<;>try(cases O;done)
      cases O;exact avb;cases O;exact avb;exact ava;exact ava
     have s0:∃y0,q.1=dX T o.dst y0:=by unfold ec at M;rw[hD,Q]at M;simp only[a8,bF]at M;obtain⟨w,_,M⟩:=M;cases M;exact avb
     obtain⟨w0,t0⟩:=k0;obtain⟨y0,u0⟩:=s0;have f:∀r,r∉(bif qN D o.op then D else match o.dst with|some d=>d::D|none=>D)->kc E X0 Z m0 h0 σ0 (q.1 r) (g0 r):=by rw[t0,u0,G];exact Ek (N:=N) V J (b:=ab) (λh=>by cases h)
     obtain⟨T',h',rfl,n,σ',X',m',e2,s2,x2,t2⟩:=yI W p _ (a+1) (i0::k) _ A aM (by simp[b0]) r2 s1 (I.trans e) (λs B=>by
      rcases dz.1 B with rfl|B
      exact⟨X1,m1,q.2,I.trans e,Ex.refl _ _ _ _ _ λs B=>(s1.ct s B).2.1⟩
      exact(z s B).up e) t1 f Y
     refine⟨T',h',aM,n,σ',X',m',?_,s2,e.trans x2,t2⟩;rw[j0];have v0:ai σ.n i0.n=aa:=oP.2 e.n;simp only[a8,O,aO,RO.iO,v0];exact e2
    |pure=>
     have U:it.cB=ab:=by rw[i2,DG,Q]
     rw[U]at A|-;simp only[br]at A|-;unfold ec at M;rw[hD,Q]at M;simp only[a8,bF]at M;obtain⟨v,L,M⟩:=M;cases M;obtain⟨x,k1,k2⟩:=Xp S F L;have f:=Ek (N:=N) V J (v:=v) (a:=x) (b:=qN D o.op) λE0=>aiL hS0 S F V E0 L k1;obtain⟨T',h',rfl,n,σ',X',m',e2,s2,x2,t2⟩:=yI W p _ a k _ A aM b0 r2 S I z (uB F J k2) f Y;refine⟨T',h',aM,n,σ',X',m',?_,s2,x2,t2⟩;simp only[k1,aO];exact e2
    |je=>
     have U:it.cB=ab:=by rw[i2,DG,Q]
     rw[U]at A|-;simp only[br]at A|-;unfold ec at M;rw[hD,Q]at M;simp only[a8,bF]at M;obtain⟨v,L,M⟩:=M;cases M;have a0:q8 h0 h (xS T o.op)=aa:=by
      rw[hD]at e0;have:gP E.D o.op=aa:=by rw[gP,Q]
      simpa[this]using e0
     have n0:Nb D o.op=aa:=by
      have:gP E.D o.op=aa:=by rw[gP,Q]
      rw[this]at r1;simpa using r1
     obtain⟨x,k1,k2,k3,k4,k5⟩:=amG hS0 S I F V n0 a0 L;have f:=Ek (N:=N) V J (v:=v) (a:=x) (b:=qN D o.op) k4;obtain⟨T',h',rfl,n,σ',X',m',e2,s2,x2,t2⟩:=yI W p _ a k _ A aM b0 r2 S I z (uB F J k2) f Y;refine⟨T',h',aM,n,σ',X',m',?_,s2,x2,t2⟩;have c1:(ah it.lo (mL.qQ k)&&(k.take<|Nat.sub (mL.qQ k) it.lo).all (BW E.D j o.op x))=aa:=by rw[bW,ai3,kz];refine⟨aW,?_⟩;rw[kt];intro s B;obtain⟨X',m',h',y1,y2⟩:=z s<|z_ B;exact an0 (k5 X' m' h' s y1 y2) k3
     simp only[k1,aO,c1,a8];exact e2
    |alloc=>
     have U:it.cB=ab:=by rw[i2,DG,Q]
     rw[U]at A|-;simp only[br]at A|-;have G:qN D o.op=ab:=awn;unfold ec at M;rw[hD,Q]at M;simp only[a8,bF]at M;obtain⟨v,L,M⟩:=M;cases M;obtain⟨x,G0,m1,k1,F0,s1,e,k2⟩:=V' hD S F L;have f:∀r,r∉(bif qN D o.op then D else match o.dst with|some d=>d::D|none=>D)->kc E X0 Z m0 h0 σ0 (dX T o.dst v.1 r) (cZ N j o.dst x r):=by rw[G];exact Ek (N:=N) V J (b:=ab) (λh=>by cases h)
     obtain⟨T',h',rfl,n,σ',X',m',e2,s2,x2,t2⟩:=yI W p _ a k _ A aM b0 r2 s1 (I.trans e) (λs B=>(z s B).up e) (uB (λi=>e.rv<|F i) J k2) f Y;refine⟨T',h',aM,n,σ',X',m',?_,s2,e.trans x2,t2⟩;simp only[k1,aO,F0,a8];exact e2
end
end Go.Dt.Vm
namespace Go.Dt
def Steps(D:a_)(fr:hX)(σ:St)(fr':hX)(σ':St):Prop:=∀n r,(cg D n).run fr' ae σ'=.ok r->∃m,(cg D m).run fr ae σ=.ok r
def Steps.trans{D:a_}{a b c:hX}{σ σ1 d:St}(h:Steps D a σ b σ1)(k:Steps D b σ1 c d):Steps D a σ c d:=λn r x=>by have⟨m,Y⟩:=k n r x;exact h m r Y
def Steps.one{D:a_}{fr fr':hX}{σ σ':St}(h:∀F,dG D F fr ae σ=F.run fr' ae σ'):Steps D fr σ fr' σ':=λn r x=>⟨n+1,by
 show dG D (cg D n) fr ae σ=_
 rw[h];exact x⟩
section
variable{D:a_}{N:Nat}{ds:List bT}{rd:Option Nat}{fn:FuncId}{L:List AV}{σ:St}{k:List fQ}
def Steps.seq(a b:Code):Steps D (cA ds rd fn L<|.code (.seq a b)::k) σ (cA ds rd fn L<|.code a::.code b::k) σ:=Steps.one λ_=>rfl
def Steps.block(id:Nat)(b:Code):Steps D (cA ds rd fn L<|.code (.block id b)::k) σ (cA ds rd fn L<|.code b::.inBlock id::k) σ:=Steps.one λ_=>rfl
def Steps.inBlock(id:Nat):Steps D (cA ds rd fn L<|.inBlock id::k) σ (cA ds rd fn L k) σ:=Steps.one λ_=>rfl
def Steps.scope(b:Code):Steps D (cA ds rd fn L<|.code (.scope b)::k) σ (cA ds rd fn L<|.code b::.inScope b::k) σ:=Steps.one λ_=>rfl
def Steps.code{T T':Rg}{σ':St}{c:Code}(S:TE N T L)(h:dd D (dw D) (fI D) N c T σ=.ok (.bI T' σ')):
 ∃f,TE N T' f/\ ∀k,Steps D (cA ds rd fn L<|.code c::k) σ (cA ds rd fn f k) σ':=by
 have⟨f,j,k⟩:=rK (ds:=ds) (rd:=rd) fn c T L σ _ S h;exact⟨f,j,λq n r x=>k q n r x⟩
def Jc(D:a_)(fr:hX)(σ:St)(r:cY×St):Prop:=∃m,(cg D m).run fr ae σ=.ok (r.1,ae,r.2)
def Steps.dC{fr fr':hX}{σ':St}{r:cY×St}(h:Steps D fr σ fr' σ')(k:Jc D fr' σ' r):Jc D fr σ r:=by have⟨n,X⟩:=k;exact h n _ X
def oB(σ:St):List Nat->St
 |[]=>σ
 |b::l=>oB (σ.set b<|.deferred ae) l
def SQ{r:cY×bM×St}{n:Nat}:∀(bs:aK) (σ:St),(∀b∈bs,b<σ.n/\ σ.a7 b=.deferred (ad []))->bs.Nodup->aA σ.l=σ.n->(cg D n).finish fn L [] ae ae (oB σ bs)=.ok r->
 ∃m,(cg D m).finish fn L (bs.map bT.collected) ae ae σ=.ok r
 |[],σ,_,_,_,h=>⟨n,h⟩
 |b::bs,σ,X,t,P,h=>by
  have⟨V,a⟩:=X b aY;have d:(σ.set b<|.deferred ae).l.length=(σ.set b<|.deferred ae).n:=by simp[St.set,P]
  have⟨m,Y⟩:=SQ bs (σ.set b<|.deferred ae) (λc Q=>by
   have⟨O,w⟩:=X c (by simp[Q]);have C:c≠b:=λe=>(Jp.1 t).1 (e▸Q);refine⟨O,?_⟩;rw[<-w]
   exact kZ V<|hG C) (Jp.1 t).2 d h
  refine⟨m+1,?_⟩;show pR D (cg D m) fn L (bT.collected b::bs.map bT.collected) ae ae σ=_;simp only[pR,St.get,V,a];exact Y
def ae6(n:Nat)(fr:hX)(l:Nat)(e:cY)(c:bM)(σ:St):(cg D<|n+1).endLoop fr l e c σ=tT (cg D n) fr l e c σ:=rfl
def anf(n l:Nat)(args:aD)(σ:St):(cg D<|n+1).round l args σ=uG D (cg D n) l args σ:=rfl
def Xv:∀(l:List<|Tmp×AV) {T:Rg} {L:aD},TE N T L->TE N (BN N T l) (mU l L)
 |[],_,_,h=>h
 |(d,v)::l,_,_,h=>Xv l<|h.cu (ad d) v
def adw{f:FuncId}{g:Func}{c:Code}{args:aD}{r:cY×St}(j:D.func f=ad g)(p:D.pure f=ab)(e:g.body=ad c)
 (h:Jc D (cA [] ae f (args++gF (g.ntmps-aA args)) [.code c]) σ r):dw D f args σ=.ok r:=by
 have⟨m,Y⟩:=h;refine tO.2 ⟨m+1,?_⟩;show lr D (cg D m) f args σ=.ok r;simp only[lr,p,fR,ff,v7,pP,j,e];have S:(cg D m).run {fn:=f,T:=args++gF (g.ntmps-aA args),todo:=[.code c],defers:=[],round:=ae} ae σ=.ok (r.1,ae,r.2):=Y;show((cg D m).run {fn:=f,T:=args++gF (g.ntmps-aA args),todo:=[.code c],defers:=[],round:=ae} ae σ>>=_)=_;rw[S];rfl
end
end Go.Dt
namespace Go.Dt.Vm
def DB(D:a_)(N:Nat)(rd:Option Nat)(fn:FuncId)(ds:List bT)(L:List AV)(σ:St)(c:List fQ)(ds':List bT):Oc->Prop
 |.bI T' σ'=>∃f,TE N T' f/\ ∀k n r,(cg D n).run (cA ds' rd fn f k) ae σ'=.ok r->∃m,(cg D m).run (cA ds rd fn L<|c++k) ae σ=.ok r
 |.exit id T' σ'=>∃f,TE N T' f/\ (∀k e n r,exitTo id k=ad e->(cg D n).run (cA ds' rd fn f e) ae σ'=.ok r->∃m,(cg D m).run (cA ds rd fn L<|c++k) ae σ=.ok r)/\
   ∀k n r,exitTo id k=ae->jI (cg D n) (cA ds' rd fn f k) (ad<|.exit id) ae σ'=.ok r->∃m,(cg D m).run (cA ds rd fn L<|c++k) ae σ=.ok r
 |.ret T' σ'=>∃f,TE N T' f/\ ∀k n r,jI (cg D n) (cA ds' rd fn f k) (ad .ret) ae σ'=.ok r->∃m,(cg D m).run (cA ds rd fn L<|c++k) ae σ=.ok r
 |.bp _ _=>False
section
variable{D:a_}{N:Nat}{rd:Option Nat}{fn:FuncId}{ds ds1 ds':List bT}{L:List AV}{σ:St}
theorem xt{F:gW}{k e:List fQ}{j:Option Code}{σ:St}{r:cY×bM×St}(h:jI F (cA ds rd fn L k) j ae σ=.ok r):jI F (cA ds rd fn L e) j ae σ=.ok r:=by
 unfold jI at h|-
 cases rd with
 |none=>exact h
 |some l=>exact h
theorem DB.ko{c C:List fQ}{o:Oc}(h:DB D N rd fn ds L σ c ds' o)(s:∀k F,dG D F (cA ds rd fn L<|C++k) ae σ=F.run (cA ds rd fn L<|c++k) ae σ):DB D N rd fn ds L σ C ds' o:=by
 cases o with
 |bI d z=>have⟨f,T,h⟩:=h;refine⟨f,T,λk n r x=>?_⟩;have⟨m,Y⟩:=h k n r x;exact⟨m+1,pn (s k) Y⟩
 |exit id d z=>have⟨f,T,V,a⟩:=h;refine⟨f,T,λk A n r e x=>?_,λk n r e x=>?_⟩;have⟨m,Y⟩:=V k A n r e x;exact⟨m+1,pn (s k) Y⟩;have⟨m,Y⟩:=a k n r e x;exact⟨m+1,pn (s k) Y⟩
 |ret d z=>have⟨f,T,h⟩:=h;refine⟨f,T,λk n r x=>?_⟩;have⟨m,Y⟩:=h k n r x;exact⟨m+1,pn (s k) Y⟩
 |bp v z=>exact h.elim
theorem DB.then{c d:List fQ}{T1:Rg}{σ1:St}{o:Oc}(h:DB D N rd fn ds L σ c ds1<|.bI T1 σ1)(k:∀j,TE N T1 j->DB D N rd fn ds1 j σ1 d ds' o):DB D N rd fn ds L σ (c++d) ds' o:=by
 have⟨j,G,h⟩:=h;have k:=k j G
 cases o with
 |bI Z z=>have⟨f,T,k⟩:=k;refine⟨f,T,λq n r x=>?_⟩;have⟨m,Y⟩:=k q n r x;rw[eF];exact h _ m r Y
 |exit id Z z=>
  have⟨f,T,C,w⟩:=k;refine⟨f,T,λq A n r e x=>?_,λq n r e x=>?_⟩
  grind
  grind
 |ret Z z=>have⟨f,T,k⟩:=k;refine⟨f,T,λq n r x=>?_⟩;have⟨m,Y⟩:=k q n r x;rw[eF];exact h _ m r Y
 |bp v z=>exact k.elim
theorem DB.oA{c d:List fQ}{o:Oc}(h:DB D N rd fn ds L σ c ds' o)(t:∀id k,exitTo id (d++k)=exitTo id k)(hn:∀T' σ',o≠.bI T' σ'):DB D N rd fn ds L σ (c++d) ds' o:=by
 cases o with
 |bI T' σ'=>exact(hn _ _ aM).elim
 |exit id T' σ'=>
  have⟨f,T,V,a⟩:=h;refine⟨f,T,λq A n r e x=>?_,λq n r e x=>?_⟩
  grind
  rw[eF];exact a _ n r (by rw[t];exact e)<|xt x
 |ret T' σ'=>have⟨f,T,h⟩:=h;refine⟨f,T,λq n r x=>?_⟩;rw[eF];exact h _ n r<|xt x
 |bp v σ'=>exact h.elim
theorem DB.region{id:Nat}{ops:aG}{d:Bool}{T T1:Rg}{σ1:St}(S:TE N T L)(h:wg D (dw D) (fI D) N ops d T σ=.ok (.go T1 σ1)):DB D N rd fn ds L σ [.code<|.region id ops d] ds (.bI T1 σ1):=by have C:=XS (ds:=ds) (rd:=rd) S h;have⟨j,G,b,U⟩:=C;refine⟨j,G,λk n r x=>(⟨max b n+1,?_⟩:∃m,_)⟩;rw[uI];dsimp only at U;have g:=Ia (D:=D) (gN<|j8 b n).call (gN<|j8 b n).round _ _ _ _ _ _ _ _ U;simp only[dG,cA,tG,g];exact(gN<|j9 b n).run _ _ _ _ x
end
def Cy(E:cI)(X Z:Nat->Prop)(m:Nat->Nat)(h:H)(σ:St)(X' Z':Nat->Prop)(m':Nat->Nat):Vo->Oc->Prop
 |.bI T h',.bI d σ'=>SR E X' Z' m' h' σ'/\ Ex X Z m h σ X' Z' m' h' σ'/\ ∀i,RV E X' Z' m' h' σ' (T i)<|d i
 |.exit i T h',.exit j d σ'=>i=j/\ SR E X' Z' m' h' σ'/\ Ex X Z m h σ X' Z' m' h' σ'/\ ∀i,RV E X' Z' m' h' σ' (T i)<|d i
 |.ret T h',.ret d σ'=>SR E X' Z' m' h' σ'/\ Ex X Z m h σ X' Z' m' h' σ'/\ ∀i,RV E X' Z' m' h' σ' (T i)<|d i
 |_,_=>False
theorem Cy.ko{E:cI}{X Z M z X' Z':aE}{m J m':Nat->Nat}{h h1:H}{σ σ1:St}{o:Vo}{j:Oc}(x:Ex X Z m h σ M z J h1 σ1)(k:Cy E M z J h1 σ1 X' Z' m' o j):Cy E X Z m h σ X' Z' m' o j:=by
 cases o<;>cases j<;>try(exact k.elim)
 exact⟨k.1,x.trans k.2.1,k.2.2⟩;exact⟨k.1,k.2.1,x.trans k.2.2.1,k.2.2.2⟩;exact⟨k.1,x.trans k.2.1,k.2.2⟩
def tE(n:Nat)(Z':Nat->Prop)(σ':St)(bs:List Nat):Prop:=bs.Nodup/\ ∀b∈bs,n<=b/\ Z' b/\ σ'.a7 b=.deferred (ad [])
def FB:Oc->St
 |.bI _ σ=>σ
 |.exit _ _ σ=>σ
 |.ret _ σ=>σ
 |.bp _ σ=>σ
theorem tE.nil{n:Nat}{Z':aE}{σ':St}:tE n Z' σ' []:=⟨Jq,λb e=>by simp at e⟩
theorem tE.then{E:cI}{n:Nat}{h z X' Z':aE}{J m':Nat->Nat}{h1:H}{σ1:St}{o:Vo}{j:Oc}{I u:aK}(hn:n<=σ1.n)(S:SR E h z J h1 σ1)(k:Cy E h z J h1 σ1 X' Z' m' o j)(s:tE n z σ1 I)(y:tE σ1.n Z' (FB j) u):
 tE n Z' (FB j) (u++I):=by
 have F:∀b,z b->Z' b/\ (FB j).a7 b=σ1.a7 b:=by
  cases o<;>cases j<;>try(exact k.elim)
  exact k.2.1.zs;exact k.2.2.1.zs;exact k.2.1.zs
 refine⟨?_,λb X=>?_⟩;rw[Cr];refine⟨y.1,s.1,λa T b X e=>?_⟩;subst e;have:=(y.2 a T).1;have:=(S.zb a (s.2 a X).2.1).2.1;omega
 rcases mF.1 X with X|X
 have⟨O,d,G⟩:=y.2 b X
 grind
 have⟨O,d,G⟩:=s.2 b X;exact at6
theorem TE.aqs{N:Nat}{T:Rg}{L f:aD}(h1:TE N T L)(a:TE N T f):f=L:=by apply List.ext_getElem;rw[h1.1,a.1];intro i C G;have g:=h1.2 i;have k:=a.2 i;exact at6
theorem Hp{step:Vg->H->R Vo}{T:Vg}{h:H}{o:Vo}(l:nA step T h=.ok o):∃n,mg step n T h=.ok o:=by
 unfold nA at l;split at l
 grind
 cases l
section
variable{E:cI}{P:VT}{c:VC}{aN N:Nat}{rd:Option Nat}{fn:FuncId}(hz:lV E.D c)(hi:qq E.D c/\ c.y=E.iN)(hD:P.D=E.D)
include hz hi hD
omit hz hi hD in
theorem Sj:∀{a b:aK},AY a b=aa->a=b
 |[],[],_=>rfl
 |[],_::_,h=>by simp[AY]at h
 |_::_,[],h=>by simp[AY]at h
 |a::l,b::r,h=>by simp only[AY,bW]at h;rw[dB h.1,Sj h.2]
omit hz hi hD in
theorem ZO(l:aH):∀(n i:Nat),i+n=aA l->(B7 i n).filterMap (λi=>l[i]?)=l.drop i
 |0,i,h=>by simp only[B7,Jh];rw[mZ aW]
 |n+1,i,h=>by have hi:i<aA l:=aW;simp only[B7,OW,cx hi];rw[ZO l n (i+1) aW];exact at6
omit hz hi hD in
theorem alq{is:aK}{l:aH}{p:List cM}{r:aK}(h:p.map (·.i)++r=(match is with
 |[]=>B7 0<|aA l
 |is=>is)):vZ is l=(p.filterMap λO=>l[O.i]?)++r.filterMap λi=>l[i]?:=by
 have e:(p.map (·.i)++r).filterMap (λi=>l[i]?)=(p.filterMap λO=>l[O.i]?)++r.filterMap λi=>l[i]?:=by rw[List.filterMap_append,List.filterMap_map];rfl
 rw[<-e,h]
 cases is with
 |nil=>simp only[vZ];rw[ZO l (aA l) 0 aW];rfl
 |cons i is=>rfl
omit hz hi hD in
theorem XL{D:a_}:∀{l r:aH} {A:aK},wa D A (l++r)=aa->wa D A l=aa
 |[],_,_,_=>rfl
 |o::l,r,A,h=>by simp only[ck,wa,bW]at h|-;exact⟨h.1,XL h.2⟩
omit hz hi hD in
theorem RS{ops:aH}{h0:H}{r:aH}{o:Vo}:∀{l:aH} {T:Vg} {h:H},kD P c aN ops lj h0 (l++r) T h=.ok o->∃T1 h1,kD P c aN ops lj h0 l T h=.ok (.bI T1 h1)/\ kD P c aN ops lj h0 r T1 h1=.ok o
 |[],T,h,v=>⟨T,h,aM,v⟩
 |o::l,T,h,v=>by
  simp only[ck,kD]at v|-
  cases G:rR ops o T with
  |none=>rw[G]at v;cases v
  |some g=>rw[G]at v;simp only at v|-;rw[dn,bF]at v;have⟨e,p,M,v⟩:=v;have⟨T1,h1,C,w⟩:=RS v;exact⟨T1,h1,by rw[e,M];exact C,w⟩
omit hz hi hD in
theorem RU{ops:aH}{h0:H}{o:Vo}:∀{l:aH} {T:Vg} {h:H},kD P c aN ops lj h0 l T h=.ok o->mv P c aN ops lj l T h=.ok o
 |[],T,h,v=>v
 |o::l,T,h,v=>by
  simp only[kD]at v;simp only[mv]
  cases G:rR ops o T with
  |none=>rw[G]at v;cases v
  |some g=>rw[G]at v;simp only at v|-;rw[dn,bF]at v;have⟨e,p,M,v⟩:=v;rw[M];exact RU v
omit hz hi hD in
theorem SR.ko{X Z:aE}{m:Nat->Nat}{h:H}{σ:St}(S:SR E X Z m h σ)(T:Vg)(l:aH):SR E X Z m (zw T h l) σ/\ Ex X Z m h σ X Z m (zw T h l) σ:=by
 have r:SR E X Z m h σ/\ Ex X Z m h σ X Z m h σ:=⟨S,Ex.refl _ _ _ _ _ λs B=>(S.ct s B).2.1⟩;unfold zw
 cases BY l with
 |false=>exact r
 |true=>simp only[a8];unfold HX;split;exact r;split;split;exact S.fM _;exact r;exact r
theorem amM{X Z:aE}{m:Nat->Nat}{h:H}{σ:St}{T:Vg}{A:Rg}{ops:aG}{U:Bool}{o:Vo}{x:aK}(I:(Db N ops.toList&&(!U||xT E.D x ops.toList&&wa E.D [] (vZ x ops.toList)))=aa)(S:SR E X Z m h σ)(F:∀i,RV E X Z m h σ (T i)<|A i)
 (v:(bif U then kD P c aN ops.toList lj h (vZ x ops.toList) T h else mv P c aN ops.toList lj ops.toList T<|zw T h ops.toList)=.ok o):
 ∃T' h',o=.bI T' h'/\ ∃n σ' X' m',wg E.D (dw E.D) (fI E.D) N ops U A σ=.ok (.go n σ')/\ SR E X' Z m' h' σ'/\ Ex X Z m h σ X' Z m' h' σ'/\ ∀i,RV E X' Z m' h' σ' (T' i) (n i):=by
 simp only[bW]at I;obtain⟨h1,p⟩:=I;have G:=RZ h1;have Y:ops.toList.toArray=ops:=aY
 cases U with
 |false=>obtain⟨p1,z⟩:=S.ko T ops.toList;obtain⟨T',h',rfl,n,σ',X',m',g,O,w,k3⟩:=Im hz hi hD G ops.toList (λo y=>y) p1 (λi=>z.rv<|F i) v;refine⟨T',h',aM,n,σ',X',m',?_,O,z.trans w,k3⟩;rw[Y]at g;exact g
 |true=>
  simp only[px,jP,bW]at p;obtain⟨p,d⟩:=p;unfold xT at p;simp only[bW,iB]at p;obtain⟨⟨⟨u,e⟩,Q⟩,f⟩:=p;rw[Y]at u e Q f;have t:=alq<|Sj f;have C:=λ{l:aH} {o:Vo} (a0:l=(sd ops<|E.D.cut ops).filterMap λb0=>ops.toList[b0.i]?) (V:wa E.D [] l=aa) (v:kD P c aN ops.toList lj h l T h=.ok o)=>
   yI hz hi hD S G _ _ 0 [σ] [] Q a0 rfl V S (Ex.refl _ _ _ _ _ λs B=>(S.ct s B).2.1)
   (λs B=>by simp only[ku]at B;subst B;exact⟨X,m,h,Ex.refl _ _ _ _ _ λs B=>(S.ct s B).2.1,Ex.refl _ _ _ _ _ λs B=>(S.ct s B).2.1⟩) F (λr _=>kc.of<|F r) v
  rw[t]at d v;simp only[a8]at v
  cases W:ai ops.size (E.D.cut ops)with
  |true=>rw[W]at d v;simp only[a8,Jh,ea]at d v;obtain⟨T',h',rfl,n,σ',X',m',g,k⟩:=C aM d v;refine⟨T',h',aM,n,σ',X',m',?_,k⟩;rw[Y]at g;unfold wg;simp only[a8,u,g,aO,W]
  |false=>
   rw[W]at d v;have e:=e.resolve_left (by rw[W];exact Bool.false_ne_true);have q:ops.size=E.D.cut ops+1:=dB e.1;have J:aA ops.toList=E.D.cut ops+1:=by simpa using q
   have a:([E.D.cut ops].filterMap λi=>ops.toList[i]?)=ops.toList.drop (E.D.cut ops):=by rw[fD aW,mZ aW];exact at6
   simp only[br,a]at d v;obtain⟨T1,c0,O,w⟩:=RS v;obtain⟨d0,M,j,e0,f0,X1,m1,g,s1,x1,t1⟩:=C aM (XL d) O;cases j;obtain⟨T',h',rfl,n,σ',X',m',b,s2,x2,t2⟩:=Im hz hi hD G (ops.toList.drop<|E.D.cut ops) (λo y=>wC y) s1 t1<|RU w;refine⟨T',h',aM,n,σ',X',m',?_,s2,x1.trans x2,t2⟩;rw[Y]at g b;unfold wg;simp only[a8,br,u,g,aO,W,e.1,e.2,iJ];exact b
def Comes(E:cI)(N:Nat)(rd:Option Nat)(fn:FuncId)(X Z:Nat->Prop)(m:Nat->Nat)(h:H)(σ:St)(ds:List bT)(L:List AV)(c:List fQ)(o:Vo):Prop:=∃j X' Z' m' bs,Cy E X Z m h σ X' Z' m' o j/\ (tE σ.n Z' (FB j) bs/\ (rd.isSome=aa->bs=[]))/\ DB E.D N rd fn ds L σ c (bs.map .collected++ds) j
omit hz hi hD in
theorem Comes.ko{X Z:aE}{m:Nat->Nat}{h:H}{σ:St}{ds:aJ}{L:aD}{c T:List fQ}{o:Vo}(f:Comes E N rd fn X Z m h σ ds L c o)(s:∀k F,dG E.D F (cA ds rd fn L<|T++k) ae σ=F.run (cA ds rd fn L<|c++k) ae σ):Comes E N rd fn X Z m h σ ds L T o:=by have⟨j,b,p,W,u,C,w,a⟩:=f;exact⟨j,b,p,W,u,C,w,a.ko s⟩
omit hz hi hD in
theorem Comes.then{X Z:aE}{m:Nat->Nat}{h:H}{σ:St}{ds:aJ}{L:aD}{c d:List fQ}{T1:Vg}{h1:H}{o:Vo}(f:Comes E N rd fn X Z m h σ ds L c<|.bI T1 h1)
 (B:∀{M z:aE} {J:Nat->Nat} {σ1:St} {p:Rg} {j:aD} {ds1:aJ},SR E M z J h1 σ1->(∀b,Z b->z b/\ σ1.a7 b=σ.a7 b)->(∀i,RV E M z J h1 σ1 (T1 i)<|p i)->TE N p j->(rd.isSome=aa->ds1=ds)->Comes E N rd fn M z J h1 σ1 ds1 j d o):Comes E N rd fn X Z m h σ ds L (c++d) o:=by
 have⟨y,M,z,J,I,O,⟨w,t⟩,a⟩:=f
 cases y<;>try(exact O.elim)
 rename_i p σ1;have⟨W,C,U⟩:=O;have⟨j,G,e⟩:=a;have⟨q,F,V,T,u,x,⟨s,l⟩,v⟩:=B W C.zs U G (ds1:=I.map .collected++ds) (λr=>by rw[t r];rfl);refine⟨q,F,V,T,u++I,x.ko C,⟨tE.then C.n W x w s,λr=>by rw[t r,l r];rfl⟩,?_⟩;rw[dg,eF];refine DB.then (ds1:=I.map .collected++ds) (T1:=p) (σ1:=σ1) ⟨j,G,e⟩ λn Y=>?_;rw[TE.aqs G Y];exact v
omit hz hi hD in
theorem Comes.oA{X Z:aE}{m:Nat->Nat}{h:H}{σ:St}{ds:aJ}{L:aD}{c d:List fQ}{o:Vo}(f:Comes E N rd fn X Z m h σ ds L c o)(t:∀id k,exitTo id (d++k)=exitTo id k)(hn:∀T' h',o≠.bI T' h'):Comes E N rd fn X Z m h σ ds L (c++d) o:=by
 have⟨j,F,p,W,u,C,w,a⟩:=f;refine⟨j,F,p,W,u,C,w,a.oA t λT' z e=>?_⟩;subst e
 cases o<;>first|exact C.elim|exact hn _ _ aM
omit hz hi hD in
theorem Comes.fN{X Z:aE}{m:Nat->Nat}{h:H}{σ:St}{T:Vg}{d:Rg}{ds:aJ}{L:aD}{c:List fQ}(S:SR E X Z m h σ)(f:∀i,RV E X Z m h σ (T i)<|d i)(j:TE N d L)(B:∀k F,dG E.D F (cA ds rd fn L<|c++k) ae σ=F.run (cA ds rd fn L k) ae σ):Comes E N rd fn X Z m h σ ds L c (.bI T h):=⟨.bI d σ,X,Z,m,[],⟨S,Ex.refl _ _ _ _ _ λs B=>(S.ct s B).2.1,f⟩,⟨.nil,λ_=>rfl⟩,L,j,λk n r x=>⟨n+1,pn (B k) x⟩⟩
end
section
variable{E:cI}{X Z:Nat->Prop}{m:Nat->Nat}{h:H}{σ:St}
def LC.up{n y:Nat}(hn:n<=y):∀{v:VV} {a:AV},LC n m h v a->LC y m h v a:=by
 intro v a Y
 cases v with
 |nil=>exact Y
 |undef=>exact Y
 |kT=>exact tN hn _ Y
 |aN _=>exact Y
 |fz _=>exact Y
 |bA _ _=>exact Y
 |emp _=>exact Y
 |agg _=>exact Y
 |bn _=>exact Y
 |func _ _ _=>exact Y
 |yield=>exact Y
 |bh s f o L=>exact Y.imp (λh=>⟨h.1,h.2.1,tN hn _ h.2.2⟩) id
 |aR s f i o=>exact Y.imp (λh=>⟨h.1,h.2.1,tN hn _ h.2.2⟩) id
 |cz s f=>exact Y.imp (λh=>⟨h.1,h.2.1,tN hn _ h.2.2⟩) id
def SR.l'{Z':aE}{σ':St}(S:SR E X Z m h σ)(hn:σ.n<=σ'.n)(P:aA σ'.l=σ'.n)(U:σ'.M=σ.M)(B:∀b,b<σ.n->¬Z b->σ'.a7 b=σ.a7 b)(f:∀b,b<σ.n->Z' b->Z b)(e:∀b,Z' b->E.n0<=b/\ b<σ'.n/\ ¬X b):
 SR E X Z' m h σ'/\ (∀v a,RV E X Z m h σ v a->RV E X Z' m h σ' v a)/\ ∀b,cX X Z m h σ b->cX X Z' m h σ' b/\ σ'.a7 b=σ.a7 b:=by
 have W:∀b,cX X Z m h σ b->cX X Z' m h σ' b/\ σ'.a7 b=σ.a7 b:=λb e=>⟨⟨dc e.1 hn,e.2.1,λz=>e.2.2.1<|f b e.1 z,e.2.2.2⟩,B b e.1 e.2.2.1⟩;have I:∀b,b<σ.n->cX X Z m h σ b->cX X Z' m h σ' b/\ b<σ'.n/\ σ'.a7 b=σ.a7 b:=λb e j=>⟨(W b j).1,dc e hn,(W b j).2⟩;refine⟨⟨P,jS S.ng hn,jS S.n0 hn,?_,λb e=>dc (S.xb b e) hn,e,λs Q=>?_,S.inj,S.gl.mono W⟩,λv a Y=>RR.mono hn I (λ_ _ h=>h.up hn) v a Y,W⟩;refine E.jN _ _ _ _ σ _ S.dO hn P (λb e x=>B b e λz=>?_) U λb e=>(W b e).1;have⟨o,n,g⟩:=S.zb b z
 rcases x with x|x|x
 omega;exact g x;exact x.2.2.1 z;have⟨C,w,D,O,N⟩:=S.ct s Q;refine⟨C,dc w hn,D,λz=>O<|f _ w z,?_⟩;rw[B _ w O];exact OR.mono hn I (λ_ _ h=>h.up hn) N
def Ex.l'{g G Z':aE}{q:Nat->Nat}{h0:H}{σ0 σ':St}(x:Ex g G q h0 σ0 X Z m h σ)(S:SR E X Z m h σ)(hn:σ.n<=σ'.n)(B:∀b,b<σ.n->¬Z b->σ'.a7 b=σ.a7 b)(f:∀b,b<σ.n->Z' b->Z b){z:aE}(o:∀b,z b->G b/\ Z' b/\ σ'.a7 b=σ.a7 b)(j:∀b,cX g z q h0 σ0 b->cX g G q h0 σ0 b):
 Ex g z q h0 σ0 X Z' m h σ':=by
 refine⟨jS x.n hn,x.b,λb e=>?_,λb e=>?_,λs=>?_⟩;have⟨C,w,a⟩:=o b e;exact⟨w,a.trans (x.zs b C).2⟩;have⟨C,w⟩:=x.fs b<|j b e;exact⟨⟨dc C.1 hn,C.2.1,λo=>C.2.2.1<|f b C.1 o,C.2.2.2⟩,(B b C.1 C.2.2.1).trans w⟩
 rcases x.st s with k|k
 exact .inl k;refine .inr ⟨k.ver,k.mm,k.k,k.md,λl J=>?_⟩;have⟨O,I⟩:=k.eq l J;refine⟨?_,I⟩;have u:(h0.o s).k≠.none:=λhn=>by rw[hn]at l;cases l
 have Y:=k.mm.resolve_right u;have⟨t,d,M,v,_⟩:=S.ct s<|k.k.ct l;exact at6
def cI.qk(E:cI)(τ:St):cI where
 D:=E.D
 n0:=E.n0
 L:=E.L
 iN:=E.iN
 dO:=λy X K σ=>E.dO y X K σ/\ σ.M=τ.M
 jN:=λy X K K' σ σ' h h1 a d A M=>⟨E.jN y X K K' σ σ' h.1 h1 a d A M,A.trans h.2⟩
 tC:=λy X K σ args I b h h1 a d A M=>by have⟨σ',X',x,o,s,w,n,f,J,W⟩:=E.tC y X K σ args I b h.1 h1 a d A M;exact⟨σ',X',x,⟨o,W.trans h.2⟩,s,w,n,f,J,W⟩
def SR.qk(S:SR E X Z m h σ):SR (E.qk σ) X Z m h σ:=⟨S.wf,S.ng,S.n0,⟨S.dO,aM⟩,S.xb,S.zb,S.ct,S.inj,S.gl⟩
def SR.noM{τ:St}(S:SR (E.qk τ) X Z m h σ):SR E X Z m h σ/\ σ.M=τ.M:=⟨⟨S.wf,S.ng,S.n0,S.dO.1,S.xb,S.zb,S.ct,S.inj,S.gl⟩,S.dO.2⟩
def Ac(rd:Option Nat)(Z:Nat->Prop)(σ:St):Prop:=∀l,rd=ad l->Z l/\ ∃lp,σ.a7 l=.loop lp
def Ac.next{rd:Option Nat}{Z Z':aE}{σ σ':St}(k:Ac rd Z σ)(z:∀b,Z b->Z' b/\ σ'.a7 b=σ.a7 b):Ac rd Z' σ':=λl P=>by have⟨C,o,w⟩:=k l P;exact at6
def uP(E:cI)(N:Nat)(fn:FuncId)(c:Code)(f:Vg->H->R Vo):Prop:=∀(rd:Option Nat) {X Z:Nat->Prop} {m:Nat->Nat} {h:H} {σ:St} {T:Vg} {d:Rg} {L:List AV} {ds:List bT} {o:Vo},
 SR E X Z m h σ->Ac rd Z σ->(∀i,RV E X Z m h σ (T i)<|d i)->TE N d L->f T h=.ok o->Comes E N rd fn X Z m h σ ds L [.code c] o
def lG:Vo->Option Code
 |.bI _ _=>ae
 |.exit i _ _=>ad<|.exit i
 |.ret _ _=>ad .ret
def pU:Vo->H
 |.bI _ h=>h
 |.exit _ _ h=>h
 |.ret _ h=>h
def IA:Vo->Vg
 |.bI T _=>T
 |.exit _ T _=>T
 |.ret T _=>T
def Xw{N:Nat}:∀{O:List Tmp} {e:aC} {I:aD} {T:Vg} {c:Rg},(∀d∈O,d<N)->fl E X Z m h σ e I->(∀i,RV E X Z m h σ (T i)<|c i)->∀i,RV E X Z m h σ (pg (O.zip e) T i)<|BN N c (O.zip I) i
 |[],_,_,_,_,_,_,S=>by simpa[pg,BN]using S
 |d::O,[],I,T,c,C,f,S=>by simp only[RL]at f;subst f;simpa[pg,BN]using S
 |d::O,v::e,I,T,c,C,f,S=>by simp only[RL]at f;obtain⟨a,r,rfl,V,p⟩:=f;simp only[List.zip_cons_cons,pg,BN];exact Xw (λx s=>C x<|by simp[s]) p<|uB S (λt D=>by cases D;exact C d aY) V
def Dp{l:Nat}{lp:jB}(P:l<σ.n)(o:σ.a7 l=.loop lp):getLoop σ l=.ok lp:=by unfold getLoop;exact at6
def anc{D:a_}{lb:Nat}{I:aD}{lp:jB}{g:Func}{n:Nat}{e:cY}{p:bM}{σ':St}(o:getLoop σ lb=.ok lp)(j:D.func lp.fn=ad g)(z:aA lp.params=aA I)
 (r:(cg D n).run (cA [] (ad lb) lp.fn (mU (lp.params.zip I) lp.T) [.code lp.assign,.beginRound,.code lp.body]) ae σ=.ok (e,p,σ')):fI D lb I σ=.ok (e,σ'):=by
 refine Yi.2 ⟨n+1,?_⟩;rw[anf];simp only[uG,o];show(match D.func lp.fn with|ae=>_|ad _=>_)=_;rw[j];show(if aA lp.params=aA I then _ else _)=_;rw[b8 z];have x:(cg D n).run {fn:=lp.fn,T:=mU (lp.params.zip I) lp.T,todo:=[.code lp.assign,.beginRound,.code lp.body],defers:=[],round:=ad lb} ae σ=_:=r;show((cg D n).run _ ae σ>>=_)=_;rw[x];rfl
def ane{N:Nat}{fn:FuncId}{a b:Code}{s0 t0:Vg->H->R Vo}(K0:uP E N fn a s0)(P:uP E N fn b t0){U:List Tmp}(u0:∀d∈U,d<N){lb:Nat}{lp:jB}(h1:lp.fn=fn)(p:lp.params=U)(h3:lp.assign=a)(h4:lp.body=b)(h5:lp.state=.ready)
 {g:Func}(v0:E.D.func fn=ad g){T:Vg}{H0:Rg}(w0:TE N H0 lp.T)(I0:SR E X Z m h σ)(L0:∀i,RV E X Z m h σ (T i)<|H0 i)(M:Z lb)(y0:σ.a7 lb=.loop lp){e:aC}{I:aD}(J0:fl E X Z m h σ e I){o:Vo}(v:fH T U s0 t0 h e=.ok o)
 {X0 Z0:aE}{m0:Nat->Nat}{h0:H}{σ0:St}(x0:Ex X0 Z0 m0 h0 σ0 X Z m h σ)(b0:¬Z0 lb):
 ∃σ' X' Z' m',fI E.D lb I σ=.ok (.ret<|cO (lG o).isNone,σ')/\ SR E X' Z' m' (pU o) σ'/\ Ex X0 Z0 m0 h0 σ0 X' Z' m' (pU o) σ'/\ σ.n<=σ'.n/\ IA o=T/\ (∀b,Z b->Z' b/\ (b≠lb->σ'.a7 b=σ.a7 b))/\ (∀b,cX X Z m h σ b->cX X' Z' m' (pU o) σ' b/\ σ'.a7 b=σ.a7 b)/\
  σ'.a7 lb=.loop {lp with state:=if(lG o).isNone then .ready else .done,pending:=lG o}:=by
 have z0:∀O r,(cg E.D O).run (cA [] (ad lb) fn (mU (U.zip I) lp.T) [.code a,.beginRound,.code b]) ae σ=.ok r->(cg E.D O).run (cA [] (ad lb) lp.fn (mU (lp.params.zip I) lp.T) [.code lp.assign,.beginRound,.code lp.body]) ae σ=.ok r:=λO r Y=>by rw[h1,p,h3,h4];exact Y
 unfold fH at v;rw[dn]at v;have⟨z,v⟩:=v;have z:=dB z;have c0:=(I0.zb lb M).2.1
 cases e1:s0 (pg (U.zip e) T) h with
 |error x=>rw[e1]at v;cases v
 |ok o1=>
  rw[e1]at v
  cases o1 with
  |exit _ _ _=>cases v
  |ret _ _=>cases v
  |bI T1 u=>
   simp only at v
   cases e2:t0 T1 u with
   |error x=>rw[e2]at v;cases v
   |ok o2=>
    rw[e2]at v;have⟨A0,X1,Z1,m1,M0,k1,⟨N0,O0⟩,k3⟩:=K0 (ad lb) I0 (λl t=>by cases t;exact⟨M,lp,y0⟩) (Xw u0 J0 L0) (Xv (U.zip I) w0) e1 (ds:=[]);clear N0
    cases A0<;>try(exact k1.elim)
    rename_i P0 G;have⟨C,A,t1⟩:=k1;have⟨L1,B0,k3⟩:=k3;rw[O0 rfl]at k3;simp only[i_,b7]at k3;have V:=(A.zs lb M).1;have d0:=(A.zs lb M).2;rw[y0]at d0;have W:=(C.zb lb V).2.1;have c:∀(τ:St) (q:AO),lb<τ.n->∀b,b≠lb->(τ.set lb q).a7 b=τ.a7 b:=λτ q M b C0=>kZ M<|hG C0;have e0:∀b,b<G.n->¬Z1 b->(G.set lb<|.loop {lp with state:=.busy}).a7 b=G.a7 b:=λb P D0=>c G _ W b λe=>D0<|e▸V;have⟨s2,r2,f2⟩:=C.l' (Z':=Z1) (σ':=G.set lb<|.loop {lp with state:=.busy}) (bu _) (by simp[St.set,C.wf]) aM e0 (λ_ _ h=>h) C.zb;have f0:(G.set lb<|.loop {lp with state:=.busy}).a7 lb=.loop {lp with state:=.busy}:=pS C.wf W;have g0:=x0.trans A;have x2:Ex X0 Z0 m0 h0 σ0 X1 Z1 m1 u (G.set lb<|.loop {lp with state:=.busy}):=g0.l' (σ':=G.set lb<|.loop {lp with state:=.busy}) C (bu _) e0 (λ_ _ h=>h) (λb P=>⟨P,(g0.zs b P).1,c G _ W b λe=>b0<|e▸P⟩) λ_ h=>h
    have⟨Q,X3,Z3,m3,Q0,y,⟨R0,S0⟩,J⟩:=P (ad lb) s2 (λl t=>by cases t;exact⟨V,_,f0⟩) (λi=>r2 _ _<|t1 i) B0 e2 (ds:=[]);clear R0;rw[S0 rfl]at J;simp only[i_,b7]at J;have i0:getLoop G lb=.ok lp:=Dp W d0;have E0:∀k F,dG E.D F (cA [] (ad lb) fn L1<|.beginRound::k) ae G=F.run (cA [] (ad lb) fn L1 k) ae (G.set lb<|.loop {lp with state:=.busy}):=λk F=>by simp only[dG,cA,i0];show(if lp.state=.ready then _ else _)=_;rw[b8 h5]
    have F0:∀n r,(cg E.D n).run (cA [] (ad lb) fn L1 [.code b]) ae (G.set lb<|.loop {lp with state:=.busy})=.ok r->
     ∃m,(cg E.D m).run (cA [] (ad lb) fn (mU (U.zip I) lp.T) [.code a,.beginRound,.code b]) ae σ=.ok r:=λn r s=>k3 [.beginRound,.code b] (n+1) r (by
     rw[uI,E0]
     exact s)
    have dC:∀(p:H) (D:St) (j:Option Code),SR E X3 Z3 m3 p D->Ex X1 Z1 m1 u (G.set lb<|.loop {lp with state:=.busy}) X3 Z3 m3 p D->
     (∀r,(∀B k,∃n,jI (cg E.D n) (cA [] (ad lb) fn B k) j ae D=.ok r)->∃n,(cg E.D n).run (cA [] (ad lb) fn L1 [.code b]) ae (G.set lb<|.loop {lp with state:=.busy})=.ok r)->
     ∃σ' X' Z' m',fI E.D lb I σ=.ok (.ret<|cO j.isNone,σ')/\ SR E X' Z' m' p σ'/\ Ex X0 Z0 m0 h0 σ0 X' Z' m' p σ'/\ σ.n<=σ'.n/\ (∀b,Z b->Z' b/\ (b≠lb->σ'.a7 b=σ.a7 b))/\ (∀b,cX X Z m h σ b->cX X' Z' m' p σ' b/\ σ'.a7 b=σ.a7 b)/\
      σ'.a7 lb=.loop {lp with state:=if j.isNone then .ready else .done,pending:=j}:=by
     intro f D j L S j0;have⟨k0,l0⟩:=S.zs lb V;rw[f0]at l0;have w:=(L.zb lb k0).2.1;have n0:getLoop D lb=.ok {lp with state:=.busy}:=Dp w l0
     have⟨n,a0⟩:=j0 (.ret<|cO j.isNone,ae,D.set lb<|.loop {lp with state:=if j.isNone then .ready else .done,pending:=j}) λB k=>⟨0,by
      simp only[jI,cA,List.isEmpty_nil,dj,n0]
      rfl⟩
     have⟨O,Y⟩:=F0 n _ a0;have o0:∀b,b<D.n->¬Z3 b->(D.set lb<|.loop {lp with state:=if j.isNone then .ready else .done,pending:=j}).a7 b=D.a7 b:=λb P D0=>c D _ w b λe=>D0<|e▸k0;have⟨s4,r4,f4⟩:=L.l' (Z':=Z3) (σ':=D.set lb<|.loop {lp with state:=if j.isNone then .ready else .done,pending:=j}) (bu _) (by simp[St.set,L.wf]) aM o0 (λ_ _ h=>h) L.zb;have p0:=x2.trans S;refine⟨_,X3,Z3,m3,anc (lp:=lp) (Dp c0 y0) (by rw[h1];exact v0) (by rw[p,z,J0.len])<|z0 O _ Y,s4,?_,jS A.n S.n,λb P=>?_,λb P=>?_,pS L.wf w⟩;exact p0.l' (σ':=D.set lb<|.loop {lp with state:=if j.isNone then .ready else .done,pending:=j}) L (bu _) o0 (λ_ _ h=>h) (λb P=>⟨P,(p0.zs b P).1,c D _ w b λe=>b0<|e▸P⟩) λ_ h=>h;have⟨w1,w2⟩:=A.zs b P;have⟨w3,w4⟩:=S.zs b w1;exact at6;have⟨w1,w2⟩:=A.fs b P;have⟨w3,w4⟩:=f2 b w1;have⟨w5,w6⟩:=S.fs b w3;exact at6
    cases o2 with
    |bI T2 f=>
     cases v
     cases Q<;>try(exact y.elim)
     rename_i q0 D;have⟨L,S,t3⟩:=y;have⟨B,r0,J⟩:=J;have⟨σ',X',Z',m',g1,g2,g3,g4,g5,g6,g7⟩:=dC f D ae L S λr s=>by have⟨n,a0⟩:=s B [];have⟨O,Y⟩:=J [] (n+1) r (by rw[uI];simpa only[dG,cA]using a0);exact⟨O,Y⟩
     exact⟨σ',X',Z',m',g1,g2,g3,g4,aM,g5,g6,g7⟩
    |exit i T2 f=>
     cases v
     cases Q<;>try(exact y.elim)
     rename_i j q0 D;have⟨G0,L,S,t3⟩:=y;subst G0;have⟨B,r0,J,q4⟩:=J;have⟨σ',X',Z',m',g1,g2,g3,g4,g5,g6,g7⟩:=dC f D (ad<|.exit i) L S λr s=>by have⟨n,a0⟩:=s B [];have⟨O,Y⟩:=q4 [] n r aM a0;exact⟨O,Y⟩
     exact⟨σ',X',Z',m',g1,g2,g3,g4,aM,g5,g6,g7⟩
    |ret T2 f=>
     cases v
     cases Q<;>try(exact y.elim)
     rename_i q0 D;have⟨L,S,t3⟩:=y;have⟨B,r0,J⟩:=J;have⟨σ',X',Z',m',g1,g2,g3,g4,g5,g6,g7⟩:=dC f D (ad .ret) L S λr s=>by
      have⟨n,a0⟩:=s B []
      grind
     exact⟨σ',X',Z',m',g1,g2,g3,g4,aM,g5,g6,g7⟩
end
theorem Yj(ch:H->aC->R Vo)(T:Vg)(h:H)(l:aB)(e:aC):ph ch T h (l++[e])=BR ch (ph ch T h l) e:=by simp[ph]
def EJ(o:Vo):LoopState:=if(lG o).isNone then .ready else .done
structure qt(E:cI)(ch:H->List VV->R Vo)(T:Vg)(X Z:Nat->Prop)(m:Nat->Nat)(h1:H)(σ σ0:St)(lb:Nat)(lp:jB)(ys:List<|List VV)(X' K':Nat->Prop)(σ':St)(Xo Zo:Nat->Prop)(mo:Nat->Nat)(o:Vo):Prop where
 ok:ph ch T h1 ys=.ok o
 t:IA o=T
 s:SR E Xo Zo mo (pU o) σ'
 x:Ex X Z m h1 σ Xo Zo mo (pU o) σ'
 n:σ0.n<=σ'.n
 z:∀b,Zo b↔Z b\/ (σ.n<=b/\ b<σ0.n)\/ (σ0.n<=b/\ b<σ'.n/\ ¬X' b/\ ¬K' b)
 x1:∀b,b<σ0.n->(X' b↔¬cX X Z m h1 σ b)
 x2:∀b,Xo b->σ0.n<=b->X' b
 u:∀s,((pU o).o s).k.hV=aa->σ0.n<=mo s->X' (mo s)
 l:σ'.a7 lb=.loop {lp with state:=EJ o,pending:=lG o}
 d:∀b,σ.n<=b->b<σ0.n->b≠lb->σ'.a7 b=σ0.a7 b
section
variable{E:cI}{X Z:Nat->Prop}{m:Nat->Nat}{h1:H}{σ σ0 τ:St}{ch:H->List VV->R Vo}{T:Vg}{lb:Nat}{lp:jB}
variable(hn0:E.n0<=σ.n)(hnn:σ.n<=σ0.n)(hzb:∀b,Z b->b<σ.n)(hlb:σ.n<=lb/\ lb<σ0.n)
include hn0 hnn hzb hlb
theorem qt.jN{ys:aB}{X' K' F:aE}{σ' D:St}{p Y:aE}{r:Nat->Nat}{o:Vo}(k:qt E ch T X Z m h1 σ σ0 lb lp ys X' K' σ' p Y r o)
 (P:σ'.n<=D.n)(e:aA D.l=D.n)(G:∀b,b<σ'.n->(b<σ0.n\/ X' b\/ K' b)->D.a7 b=σ'.a7 b)(w:D.M=σ'.M)(L:∀b,K' b->F b):
 qt E ch T X Z m h1 σ σ0 lb lp ys X' F D p (λb=>Z b\/ (σ.n<=b/\ b<σ0.n)\/ (σ0.n<=b/\ b<D.n/\ ¬X' b/\ ¬F b)) r o:=by
 have B:∀b,b<σ'.n->¬Y b->D.a7 b=σ'.a7 b:=λb hb M=>by by_cases Q:b<σ0.n;exact at6;refine G b hb<|.inr<|Ja λc=>M<|(k.z b).2 (.inr<|.inr ⟨aW,hb,λh=>c<|.inl h,λh=>c<|.inr h⟩)
 have f:∀b,b<σ'.n->(Z b\/ (σ.n<=b/\ b<σ0.n)\/ (σ0.n<=b/\ b<D.n/\ ¬X' b/\ ¬F b))->Y b:=λb hb M=>by
  refine(k.z b).2 ?_
  grind
 have hb:∀b,(Z b\/ (σ.n<=b/\ b<σ0.n)\/ (σ0.n<=b/\ b<D.n/\ ¬X' b/\ ¬F b))->E.n0<=b/\ b<D.n/\ ¬p b:=λb M=>by
  have v:b<σ0.n->E.n0<=b/\ b<D.n/\ ¬p b:=λQ=>by
   have I:b<σ'.n:=dc Q k.n;have⟨O,J,A⟩:=k.s.zb b (f b I M)
   grind
  rcases M with V|V|V
  grind
  exact at6;exact⟨aW,V.2.1,λU=>V.2.2.1<|k.x2 b U V.1⟩
 have⟨S,_,_⟩:=k.s.l' P e w B f hb;refine⟨k.ok,k.t,S,k.x.l' k.s P B f (λb hb=>⟨hb,.inl hb,G b (dc (dc (hzb b hb) hnn) k.n)<|.inl<|dc (hzb b hb) hnn⟩) λ_ h=>h,jS k.n P,λb=>Ch,k.x1,k.x2,k.u,?_,λb h1 j W=>?_⟩;rw[G lb (dc hlb.2 k.n)<|.inl hlb.2];exact k.l;rw[G b (dc j k.n)<|.inl j];exact k.d b h1 j W
theorem qt.kind{ys:aB}{X' K':aE}{σ':St}{p h:aE}{G:Nat->Nat}{o:Vo}(k:qt E ch T X Z m h1 σ σ0 lb lp ys X' K' σ' p h G o){b:Nat}(hb:b<σ'.n)(h0:σ0.n<=b):
 X' b\/ cX p h G (pU o) σ' b\/ h b:=by
 by_cases h1:p b;exact .inl<|k.x2 b h1 h0;by_cases j:h b;exact at6;by_cases W:∃s,((pU o).o s).k.hV=aa/\ G s=b;obtain⟨s,W,rfl⟩:=W;exact .inl<|k.u s W h0;exact .inr<|.inl ⟨hb,h1,j,λs B e=>W ⟨s,B,e⟩⟩
theorem qt.fs{ys:aB}{X' K':aE}{σ':St}{j Y:aE}{G:Nat->Nat}{o:Vo}(k:qt E ch T X Z m h1 σ σ0 lb lp ys X' K' σ' j Y G o)(q:∀b,K' b->b<σ'.n/\ ¬X' b){b:Nat}(hb:K' b):
 cX j Y G (pU o) σ' b:=by
 have⟨C,w⟩:=q b hb;by_cases Q:b<σ0.n;exact(k.x.fs b<|Ja λh=>w<|(k.x1 b Q).2 h).1
 rcases k.kind hn0 hnn hzb hlb C aW with h1|h1|h1
 exact at6;exact h1
 rcases(k.z b).1 h1 with p|p|p
 have:=hzb b p;omega;omega;exact at6
variable{N:Nat}{fn:FuncId}{a b:Code}{fa fb:Vg->H->R Vo}(ha:uP E N fn a fa)(hb:uP E N fn b fb){ps:List Tmp}(hps:∀d∈ps,d<N)
 (hp1:lp.fn=fn)(hp2:lp.params=ps)(hp3:lp.assign=a)(hp4:lp.body=b){g:Func}(hfn:E.D.func fn=ad g){Td:Rg}(hTE:TE N Td lp.T)(hT:∀i,RV E X Z m h1 σ (T i)<|Td i)
 (hM:∀y X K σ,E.dO y X K σ->σ.M=τ.M)
include ha hb hps hp1 hp2 hp3 hp4 hfn hTE hT hM
theorem qt.tC{ys:aB}{X' K':aE}{σ':St}{p Y:aE}{G:Nat->Nat}{o:Vo}(k:qt E (fH T ps fa fb) T X Z m h1 σ σ0 lb lp ys X' K' σ' p Y G o)(j0:aA σ'.l=σ'.n)(q0:∀b,X' b->b<σ'.n)(k0:∀b,K' b->b<σ'.n/\ ¬X' b)
 {args:aC}{I:aD}(l0:RL σ' K' lb (λ_ _=>False) args I){q:Bool}(M:va (ph (fH T ps fa fb) T h1<|ys++[args])=.ok q):
 ∃D B,fI E.D lb I σ'=.ok (.ret<|cO q,D)/\ (∃p Y G o,qt E (fH T ps fa fb) T X Z m h1 σ σ0 lb lp (ys++[args]) B K' D p Y G o)/\ (∀b,X' b->B b)/\ (∀b,B b->b<D.n/\ (X' b\/ σ'.n<=b))/\
  (∀b,b<σ'.n->¬X' b->D.a7 b=σ'.a7 b)/\ σ'.n<=D.n/\ aA D.l=D.n/\ D.M=σ'.M:=by
 rw[Yj,k.ok]at M;have⟨L,w,c,A,d0,e0,O,F,m0,f0,n0⟩:=k;have k:qt E (fH T ps fa fb) T X Z m h1 σ σ0 lb lp ys X' K' σ' p Y G o:=⟨L,w,c,A,d0,e0,O,F,m0,f0,n0⟩
 cases o with
 |exit _ _ _=>cases M
 |ret _ _=>cases M
 |bI g0 J=>
  have w:g0=T:=w;subst w;simp only[BR]at M
  cases C:fH g0 ps fa fb J args with
  |error e=>rw[C]at M;cases M
  |ok V=>
   have v:q=(lG V).isNone:=by rw[C]at M;cases V<;>(cases M;rfl)
   subst v;have U:∀b,K' b->cX p Y G J σ' b:=λb hb=>k.fs hn0 hnn hzb hlb k0 hb;have o0:fl E p Y G J σ' args I:=RL.mono (bu _) (λb hb S=>⟨U b S,hb,aM⟩) (λ_ _ h=>h.elim) _ _<|RL.nT _ _ l0;have a0:Y lb:=(e0 lb).2 (.inr<|.inl hlb);have⟨D,X3,Z3,m3,r1,P,r3,r4,r5,r6,r7,r8⟩:=ane (lp:={lp with state:=.ready,pending:=ae}) ha hb hps hp1 hp2 hp3 hp4 aM hfn hTE c (λi=>A.rv<|hT i) a0 f0 o0 C A (λh=>by have:=hzb lb h;omega);have f:=λ(b:Nat) (hb:b<σ'.n) (Q:σ0.n<=b)=>k.kind hn0 hnn hzb hlb hb Q;refine⟨D,λb=>X' b\/ (σ'.n<=b/\ b<D.n),r1,⟨X3,λb=>Z b\/ (σ.n<=b/\ b<σ0.n)\/ (σ0.n<=b/\ b<D.n/\ ¬(X' b\/ (σ'.n<=b/\ b<D.n))/\ ¬K' b),m3,V,?_⟩,λb hb=>.inl hb,λb hb=>?_,λb hb p0=>?_,r4,P.wf,?_⟩;have b0:∀b,b<D.n->(Z b\/ (σ.n<=b/\ b<σ0.n)\/ (σ0.n<=b/\ b<D.n/\ ¬(X' b\/ (σ'.n<=b/\ b<D.n))/\ ¬K' b))->Z3 b:=λb hb r=>by grind
   have c0:∀b,(Z b\/ (σ.n<=b/\ b<σ0.n)\/ (σ0.n<=b/\ b<D.n/\ ¬(X' b\/ (σ'.n<=b/\ b<D.n))/\ ¬K' b))->b<D.n:=λb r=>by grind
   have⟨s2,_,_⟩:=P.l' (Z':=λb=>Z b\/ (σ.n<=b/\ b<σ0.n)\/ (σ0.n<=b/\ b<D.n/\ ¬(X' b\/ (σ'.n<=b/\ b<D.n))/\ ¬K' b)) (σ':=D) (bu _) P.wf aM (λ_ _ _=>rfl) b0 λb r=>P.zb b<|b0 b (c0 b r) r;refine⟨?_,r5,s2,r3.l' (σ':=D) P (bu _) (λ_ _ _=>rfl) b0 (λb hb=>⟨hb,.inl hb,aM⟩) λ_ h=>h,jS d0 r4,λb=>Ch,λb hb=>?_,λb hb Q=>?_,λs i0 Q=>?_,r8,λb j W h4=>?_⟩;rw[Yj,L];exact C
   grind
   by_cases j:b<σ'.n
   rcases f b j Q with W|W|W
   exact .inl W;exact absurd hb (r7 b W).1.2.1;exact absurd hb (P.zb b (r6 b W).1).2.2;exact .inr ⟨aW,P.xb b hb⟩;have⟨l1,l2,l3,l4,_⟩:=P.ct s<|VK.rh i0;by_cases j:m3 s<σ'.n
   rcases f _ j Q with W|W|W
   exact .inl W;exact absurd aM<|(r7 _ W).1.2.2.2 s i0;exact at6;omega;exact at6
   grind
   by_cases Q:b<σ0.n;have S:cX X Z m h1 σ b:=Ja λh=>p0<|(O b Q).2 h;exact(r7 b (A.fs b S).1).2
   grind
   rw[hM _ _ _ _ P.dO,hM _ _ _ _ c.dO]
def amf:cI where
 D:=E.D
 n0:=σ0.n
 L:=lb
 iN:=λl=>va (ph (fH T ps fa fb) T h1 l)
 dO:=λys X' K' σ'=>∃p h G o,qt E (fH T ps fa fb) T X Z m h1 σ σ0 lb lp ys X' K' σ' p h G o
 jN:=by rintro y X' K' F σ' r ⟨p,h,G,o,k⟩ x s e I n;exact⟨_,_,_,_,k.jN hn0 hnn hzb hlb x s e I n⟩
 tC:=by rintro y X' K' σ' args Q q ⟨p,h,G,o,k⟩ x s e I n;exact k.tC hn0 hnn hzb hlb ha hb hps hp1 hp2 hp3 hp4 hfn hTE hT hM x s e I n
end
def amh{D:a_}{rd:Option Nat}{fn:FuncId}{ds Q:aJ}{L:aD}{σ σ0 B:St}{f:Operand}{O:Array Tmp}{a b:Code}{g lb:Nat}{args:aD}{v:AV}{lp:jB}(d:dw D g args σ0=.ok (.ret v,B))(o:getLoop B lb=.ok lp)(J:lp.state≠.busy)
 (s:∀F k,dG D F (cA ds rd fn L<|.code (.rangeFunc f O a b)::k) ae σ=(rQ F (.enter g args) σ0>>=λx=>F.endLoop (cA Q rd fn L k) lb x.1 ae x.2))(k:List fQ)(n:Nat)(r:cY×bM×St)
 (A:(cg D n).run (cA Q rd fn L (match lp.pending with|none=>k|some c=>.code c::k)) ae (B.set lb<|.loop {lp with state:=.exhausted})=.ok r):
 ∃m,(cg D m).run (cA ds rd fn L<|.code (.rangeFunc f O a b)::k) ae σ=.ok r:=by
 have⟨m,Y⟩:=tO.1 d;have S:rQ (cg D<|max m (n+1)) (.enter g args) σ0=.ok (.ret v,B):=adz Y<|j8 _ _;have e:(cg D<|max m (n+1)).endLoop (cA Q rd fn L k) lb (.ret v) ae B=.ok r:=by
  refine(gN<|j9 m<|n+1).endLoop _ _ _ _ _ _ ?_;rw[ae6];simp only[tT,o];show(if lp.state=.busy then _ else _)=_;rw[cG J]
  cases p:lp.pending with
  |none=>rw[p]at A;exact A
  |some c=>rw[p]at A;exact A
 refine⟨max m (n+1)+1,?_⟩;rw[uI,s,S];exact e
section
variable{E:cI}{X Z:Nat->Prop}{m:Nat->Nat}{h:H}{σ:St}
def XB{c:VC}(z:lV E.D c){N:Nat}{fn:FuncId}{a b:Code}{u n:Vg->H->R Vo}(z0:∀τ,uP (E.qk τ) N fn a u)(P:∀τ,uP (E.qk τ) N fn b n){U:List Tmp}(W:∀d∈U,d<N){g0:Func}(t:E.D.func fn=ad g0)
 (S:SR E X Z m h σ){T:Vg}{y:Rg}{L:aD}(A0:∀i,RV E X Z m h σ (T i)<|y i)(B0:TE N y L){g:Nat}{first cap:aC}{l r:aD}(C0:fl E X Z m h σ first l)(D0:fl E X Z m h σ cap r){o:Vo}(Y:lH c (.func g first cap) T h (fH T U u n)=.ok o)
 {σ0:St}{lb:Nat}{lp:jB}(G:lp.fn=fn)(x:lp.params=U)(a0:lp.assign=a)(b0:lp.body=b)(c0:lp.T=L)(d0:lp.state=.ready)(e0:lp.pending=ae)
 (hn:σ.n<=σ0.n)(u0:aA σ0.l=σ0.n)(E0:σ0.M=σ.M)(V:∀b,b<σ.n->σ0.a7 b=σ.a7 b)(f:σ.n<=lb/\ lb<σ0.n)(f0:σ0.a7 lb=.loop lp):
 hK E.D g=aa/\ IA o=T/\ ∃v B,dw E.D g (l++[.yield lb]++r) σ0=.ok (.ret v,B)/\ getLoop B lb=.ok {lp with state:=EJ o,pending:=lG o}/\ ∃X' m',SR E X' (λb=>Z b\/ (σ.n<=b/\ b<σ0.n/\ b≠lb)) m' (pU o) (B.set lb<|.loop {lp with state:=.exhausted,pending:=lG o})/\
  Ex X Z m h σ X' (λb=>Z b\/ (σ.n<=b/\ b<σ0.n/\ b≠lb)) m' (pU o) (B.set lb<|.loop {lp with state:=.exhausted,pending:=lG o})/\ ∀b,σ.n<=b->b<σ0.n->b≠lb->(B.set lb<|.loop {lp with state:=.exhausted,pending:=lG o}).a7 b=σ0.a7 b:=by
 simp only[lH,bF]at Y;have⟨p,F0,q,G0,w,i0,Y⟩:=Y;have⟨H0,j0⟩:=z _ _ _ _ w.1 w.2 i0;have⟨C,x1⟩:=S.cp<|p.2++q.2;have l0:rB E X Z m (cp h<|p.2++q.2) σ p.1 l:=sQ S _ _ _ _ _ F0 (λ_ h=>by simp[h]) C0;have m0:rB E X Z m (cp h<|p.2++q.2) σ q.1 r:=sQ S _ _ _ _ _ G0 (λ_ h=>by simp[h]) D0;have D:∀b,Z b->b<σ.n:=λb P=>(S.zb b P).2.1;have O:∀b,b<σ.n->(Z b\/ (σ.n<=b/\ b<σ0.n))->Z b:=λb P z=>z.resolve_right λh=>aW;have⟨s2,_,_⟩:=C.qk.l' (Z':=λb=>Z b\/ (σ.n<=b/\ b<σ0.n)) (σ':=σ0) hn u0 E0 (λb P _=>V b P) O λb z=>by
  rcases z with z|z
  have⟨z1,z2,z3⟩:=S.zb b z;exact⟨z1,dc z2 hn,z3⟩;exact⟨jS S.n0 z.1,z.2,λn0=>by have:=S.xb b n0;omega⟩
 have I0:Ex X Z m (cp h<|p.2++q.2) σ X Z m (cp h<|p.2++q.2) σ:=Ex.refl _ _ _ _ _ λs J=>(C.ct s J).2.1;have x2:Ex X Z m (cp h<|p.2++q.2) σ X (λb=>Z b\/ (σ.n<=b/\ b<σ0.n)) m (cp h<|p.2++q.2) σ0:=I0.l' C.qk hn (λb P _=>V b P) O (λb z=>⟨z,.inl z,V b<|D b z⟩) λ_ h=>h;have k0:qt (E.qk σ) (fH T U u n) T X Z m (cp h<|p.2++q.2) σ σ0 lb lp [] (λb=>b<σ0.n/\ ¬cX X Z m (cp h<|p.2++q.2) σ b) (cX X Z m (cp h<|p.2++q.2) σ) σ0 X (λb=>Z b\/ (σ.n<=b/\ b<σ0.n)) m (.bI T<|cp h<|p.2++q.2):=by refine⟨aM,aM,s2,x2,bu _,λb=>⟨λz=>z.elim .inl λh=>.inr<|.inl h,λz=>z.elim .inl λh=>h.elim .inr λh=>aW⟩,λb P=>⟨λh=>h.2,λh=>⟨P,h⟩⟩,λb n0 h0=>?_,λs J h0=>?_,?_,λ_ _ _ _=>rfl⟩;have:=S.xb b n0;omega;have:=(C.ct s<|VK.rh J).2.1;omega;rw[f0];show AO.loop lp=AO.loop {lp with state:=.ready,pending:=ae};rw[<-d0,<-e0]
 have o0:∀i,RV (E.qk σ) X Z m (cp h<|p.2++q.2) σ (T i) (y i):=λi=>x1.rv<|A0 i;have M:RL σ0 (cX X Z m (cp h<|p.2++q.2) σ) lb LU (p.1++.yield::q.1) (l++[.yield lb]++r):=by
  have v0:∀{w0:aC} {I:aD},rB E X Z m (cp h<|p.2++q.2) σ w0 I->RL σ0 (cX X Z m (cp h<|p.2++q.2) σ) lb LU w0 I:=λp0=>RL.mono hn (λb P p0=>⟨p0,dc P hn,V b P⟩) (λ_ _ h=>h.elim) _ _<|RL.nT _ _ p0
  rw[eF];refine RL.append (v0 l0)<|RL.gb ?_<|v0 m0;simp only[RR];exact⟨trivial,f.2,aM,aM⟩
 have⟨v,B,J0,e1,e2,_,_⟩:=j0 (amf (E:=E.qk σ) (X:=X) (Z:=Z) (m:=m) (h1:=cp h<|p.2++q.2) (σ:=σ) (σ0:=σ0) (τ:=σ) (T:=T) (lb:=lb) (lp:=lp) S.n0 hn D f (z0 σ) (P σ) W G x a0 b0 t (c0▸B0) o0 λ_ _ _ _ h=>h.2)
  (λb=>b<σ0.n/\ ¬cX X Z m (cp h<|p.2++q.2) σ b) (cX X Z m (cp h<|p.2++q.2) σ) (cX X Z m (cp h<|p.2++q.2) σ) σ0 _ aM aM ⟨_,_,_,_,k0⟩ u0 (bu _) (jS S.ng hn) (λb P=>P.1)
  (λb P=>⟨dc P.1 hn,λh=>h.2 P⟩) (λb P=>⟨dc P.1 hn,λh=>h.2 P⟩) (C.gl.mono λb P=>⟨P,V b P.1⟩) M
 have⟨x0,q0,y0,j,k⟩:=e2.dO;have r0:j=o:=by have:=k.ok;exact at6
 subst r0;refine⟨H0,k.t,v,B,e1,Dp (dc f.2 k.n) k.l,?_⟩;have F:lb<B.n:=dc f.2 k.n;have s0:q0 lb:=(k.z lb).2 (.inr<|.inl f);have Q:∀b,b≠lb->(B.set lb<|.loop {lp with state:=.exhausted,pending:=lG j}).a7 b=B.a7 b:=λb t0=>kZ F<|hG t0;have J:∀b,b<B.n->¬q0 b->(B.set lb<|.loop {lp with state:=.exhausted,pending:=lG j}).a7 b=B.a7 b:=λb _ z=>Q b λe=>z<|e▸s0;have A:∀b,(Z b\/ (σ.n<=b/\ b<σ0.n/\ b≠lb))->q0 b:=λb z=>(k.z b).2 (z.elim .inl λh=>.inr<|.inl ⟨h.1,h.2.1⟩);have⟨s3,_,_⟩:=k.s.l' (Z':=λb=>Z b\/ (σ.n<=b/\ b<σ0.n/\ b≠lb)) (σ':=B.set lb<|.loop {lp with state:=.exhausted,pending:=lG j}) (bu _) (by simp[St.set,k.s.wf]) aM J (λb _ z=>A b z) λb z=>k.s.zb b<|A b z;have x3:Ex X Z m (cp h<|p.2++q.2) σ x0 (λb=>Z b\/ (σ.n<=b/\ b<σ0.n/\ b≠lb)) y0 (pU j) (B.set lb<|.loop {lp with state:=.exhausted,pending:=lG j}):=k.x.l' (σ':=B.set lb<|.loop {lp with state:=.exhausted,pending:=lG j}) k.s (bu _) J (λb _ z=>A b z) (λb z=>⟨z,.inl z,Q b λe=>by have:=D b z;omega⟩) λ_ h=>h
 exact⟨x0,y0,s3.noM.1,x1.trans x3,λb h1 h2 h3=>by rw[Q b h3];exact k.d b h1 h2 h3⟩
def XA{N:Nat}{rd:Option Nat}{fn:FuncId}{ds:aJ}{L:aD}{T:Vg}{c:Rg}{f:Operand}{O:Array Tmp}{a b:Code}{g lb:Nat}{args:aD}{v:AV}{lp:jB}{o:Vo}{σ0 B:St}{X' Z':aE}{m':Nat->Nat}{bs:aK}
 (S:∀i,RV E X Z m h σ (T i)<|c i)(j:TE N c L)(D:IA o=T)(Q:dw E.D g args σ0=.ok (.ret v,B))(G:getLoop B lb=.ok {lp with state:=EJ o,pending:=lG o})
 (p:∀F k,dG E.D F (cA ds rd fn L<|.code (.rangeFunc f O a b)::k) ae σ=(rQ F (.enter g args) σ0>>=λx=>F.endLoop (cA (bs.map .collected++ds) rd fn L k) lb x.1 ae x.2))
 (s:SR E X' Z' m' (pU o)<|B.set lb<|.loop {lp with state:=.exhausted,pending:=lG o})(x:Ex X Z m h σ X' Z' m' (pU o)<|B.set lb<|.loop {lp with state:=.exhausted,pending:=lG o})
 (t:tE σ.n Z' (B.set lb<|.loop {lp with state:=.exhausted,pending:=lG o}) bs)(e:rd.isSome=aa->bs=[]):Comes E N rd fn X Z m h σ ds L [.code<|.rangeFunc f O a b] o:=by
 have w:=amh Q G (by show EJ o≠_;cases o<;>simp[EJ,lG]) p
 cases o with
 |bI d Y=>have D:d=T:=D;subst D;exact⟨.bI c _,X',Z',m',bs,⟨s,x,λi=>x.rv<|S i⟩,⟨t,e⟩,L,j,λk n r A=>w k n r A⟩
 |exit i d Y=>have D:d=T:=D;subst D;refine⟨.exit i c _,X',Z',m',bs,⟨aM,s,x,λi=>x.rv<|S i⟩,⟨t,e⟩,L,j,λk M n r J A=>w k (n+1) r ?_,λk n r J A=>w k (n+1) r ?_⟩;show(cg E.D<|n+1).run (cA _ rd fn L<|.code (.exit i)::k) ae _=_;rw[uI];simp only[dG,cA,J];exact A;show(cg E.D<|n+1).run (cA _ rd fn L<|.code (.exit i)::k) ae _=_;rw[uI];simp only[dG,cA,J];exact xt A
 |ret d Y=>have D:d=T:=D;subst D;exact⟨.ret c _,X',Z',m',bs,⟨s,x,λi=>x.rv<|S i⟩,⟨t,e⟩,L,j,λk n r A=>w k (n+1) r<|xt A⟩
def ami{c:VC}(b0:lV E.D c){N:Nat}{fn:FuncId}{a b:Code}{c0 d0:Vg->H->R Vo}(e0:∀τ,uP (E.qk τ) N fn a c0)(e:∀τ,uP (E.qk τ) N fn b d0){O:Array Tmp}(P:∀d∈O.toList,d<N){g0:Func}(s:E.D.func fn=ad g0)
 (rd:Option Nat)(S:SR E X Z m h σ)(Q:Ac rd Z σ){T:Vg}{f0:Rg}{L:aD}{ds:aJ}(B:∀i,RV E X Z m h σ (T i)<|f0 i)(j:TE N f0 L){f:Operand}{o:Vo}(Y:lH c (bS T f) T h (fH T O.toList c0 d0)=.ok o):
 Comes E N rd fn X Z m h σ ds L [.code<|.rangeFunc f O a b] o:=by
 have t:=oW S B f
 cases x:bS T f<;>rw[x]at Y t<;>try(cases Y;done)
 rename_i g first k0
 simp only[RR]at t;have⟨l,r,I,_,h0,i0⟩:=t;have j0:dV E.D L f=.func (.func g) l r:=by rw[j.eval];exact I
 have J:hK E.D g=aa->∀lb,pL E.D (.func (.func g) l r) [.yield lb]=.ok (.enter g<|l++[.yield lb]++r):=λU lb=>by have c2:=Ki U<|l++[.yield lb]++r;simp only[pL,vG,c2,aO,oo,pure,Except.pure]
 cases rd with
 |none=>
  obtain⟨lp,p⟩:∃lp:jB,lp={state:=.ready,pending:=ae,fn,T:=L,params:=O.toList,assign:=a,body:=b,defers:=σ.n}:=⟨_,aM⟩;have u:(σ.push<|.deferred<|ad []).n=σ.n+1:=rfl;have M:((σ.push<|.deferred<|ad []).push<|.loop lp).a7 (σ.n+1)=.loop lp:=by rw[<-u];exact kk
  have V:((σ.push<|.deferred<|ad []).push<|.loop lp).a7 σ.n=.deferred (ad []):=by rw[eP aW,kk]
  have⟨U,D,v,W,q,C,m0,n0,G,z,e5⟩:=XB b0 e0 e P s S B j h0 i0 Y (σ0:=(σ.push<|.deferred<|ad []).push<|.loop lp) (lb:=σ.n+1) (lp:=lp) (by rw[p]) (by rw[p]) (by rw[p]) (by rw[p]) (by rw[p]) (by rw[p]) (by rw[p])
   (show σ.n<=σ.n+2 by omega) (by simp[St.push,S.wf]) aM (λb e=>by rw[eP aW,eP e]) ⟨aW,show σ.n+1<σ.n+2 by omega⟩ M
  refine XA (bs:=[σ.n]) B j D q C (λF k=>?_) G z ⟨aY,λb e=>?_⟩ (λh=>by cases h);simp only[dG,cA,j0,J U];rw[<-p];rfl;have e:b=σ.n:=avF;subst e;exact⟨bu _,.inr ⟨bu _,show σ.n<σ.n+2 by omega,aW⟩,by rw[e5 _ (bu _) (show σ.n<σ.n+2 by omega) aW];exact V⟩
 |some y=>
  have⟨w,r0,A⟩:=Q y aM;have a0:getLoop σ y=.ok r0:=Dp (S.zb y w).2.1 A;obtain⟨lp,p⟩:∃lp:jB,lp={state:=.ready,pending:=ae,fn,T:=L,params:=O.toList,assign:=a,body:=b,defers:=r0.defers}:=⟨_,aM⟩;have⟨U,D,v,W,q,C,m0,n0,G,z,e5⟩:=XB b0 e0 e P s S B j h0 i0 Y (σ0:=σ.push<|.loop lp) (lb:=σ.n) (lp:=lp) (by rw[p]) (by rw[p]) (by rw[p]) (by rw[p]) (by rw[p]) (by rw[p]) (by rw[p])
   (show σ.n<=σ.n+1 by omega) (by simp[St.push,S.wf]) aM (λb e=>eP e) ⟨aW,show σ.n<σ.n+1 by omega⟩ kk
  refine XA (bs:=[]) B j D q C (λF k=>?_) G z .nil<|λ_=>rfl;simp only[dG,cA,j0,J U,a0];rw[p];rfl
end
section
variable{P:VT}{c:VC}{aN N:Nat}{fn:FuncId}
def tP{D:a_}(W:lV D c)(G:qq D c)(q:P.D=D){g0:Func}(l:D.func fn=ad g0){d0:Nat->aK}:∀(code:Code),nn D N d0 code=aa->∀(E:cI),E.D=D->c.y=E.iN->uP E N fn code (cv P c aN d0 code)
 |.skip,I,E,y,A,M,X,Z,m,h,σ,T,V,L,ds,o,S,Q,B,p,Y=>awF
 |.label _,I,E,y,A,M,X,Z,m,h,σ,T,V,L,ds,o,S,Q,B,p,Y=>awF
 |.ret,I,E,y,A,M,X,Z,m,h,σ,T,V,L,ds,o,S,Q,B,p,Y=>by simp only[cv]at Y;cases Y;exact⟨.ret V σ,X,Z,m,[],⟨S,Ex.refl _ _ _ _ _ λs i0=>(S.ct s i0).2.1,B⟩,⟨.nil,λ_=>rfl⟩,L,p,λk n r x=>⟨n+1,xt x⟩⟩
 |.exit id,I,E,y,A,M,X,Z,m,h,σ,T,V,L,ds,o,S,Q,B,p,Y=>by simp only[cv]at Y;cases Y;refine⟨.exit id V σ,X,Z,m,[],⟨aM,S,Ex.refl _ _ _ _ _ λs i0=>(S.ct s i0).2.1,B⟩,⟨.nil,λ_=>rfl⟩,L,p,λk j0 n r g x=>⟨n+1,pn (fr':=cA ds M fn L j0) (λF=>?_) x⟩,λk n r g x=>⟨n+1,?_⟩⟩;simp only[dG,cA,tG,g];rw[uI];simp only[dG,cA,tG,g];exact xt x
 |.seq a b,I,E,y,A,M,X,Z,m,h,σ,T,V,L,ds,o,S,Q,B,p,Y=>by
  simp only[nn,bW]at I;simp only[cv]at Y;refine Comes.ko (c:=[.code a]++[.code b]) ?_<|λk F=>rfl
  cases k0:cv P c aN d0 a T h with
  |error e=>rw[k0]at Y;cases Y
  |ok o1=>
   rw[k0]at Y;have k:=tP W G q l a I.1 E y A M S Q B p k0 (ds:=ds)
   cases o1 with
   |bI J O=>exact k.then λC z1 U l1 _=>tP W G q l b I.2 E y A M C (Q.next z1) U l1 Y
   |exit i J O=>cases Y;exact k.oA (λid k=>rfl) (λ_ _ e=>by cases e)
   |ret J O=>cases Y;exact k.oA (λid k=>rfl) (λ_ _ e=>by cases e)
 |.cond v a b,I,E,y,A,M,X,Z,m,h,σ,T,V,L,ds,o,S,Q,B,p,Y=>by
  simp only[nn,bW]at I;simp only[cv]at Y;have⟨t,O,h2,h3⟩:=Rx Y<|oW S B v;have g:dV E.D L v=cO t:=by rw[p.eval];exact O
  cases t with
  |true=>refine Comes.ko (tP W G q l a I.1 E y A M S Q B p h3 (ds:=ds))<|λk F=>?_;simp only[dG,cA,tG,g];rfl
  |false=>refine Comes.ko (tP W G q l b I.2 E y A M S Q B p h3 (ds:=ds))<|λk F=>?_;simp only[dG,cA,tG,g];rfl
 |.block id b,I,E,y,A,M,X,Z,m,h,σ,T,V,L,ds,o,S,Q,B,p,Y=>by
  simp only[nn]at I;simp only[cv]at Y;refine Comes.ko (c:=[.code b]++[.inBlock id]) ?_<|λk F=>rfl
  cases b0:cv P c aN d0 b T h with
  |error e=>rw[b0]at Y;cases Y
  |ok o1=>
   rw[b0]at Y;have k:=tP W G q l b I E y A M S Q B p b0 (ds:=ds)
   cases o1 with
   |bI J O=>cases Y;exact k.then λC _ U l1 _=>Comes.fN C U l1 λk F=>rfl
   |exit i J O=>
    have⟨c0,X1,Z1,m1,h0,k1,k2,k3⟩:=k
    cases c0<;>try(exact k1.elim)
    rename_i j e0 u;have⟨l0,C,x1,U⟩:=k1;subst l0;have⟨L1,a0,q1,q2⟩:=k3;simp only[cJ]at Y
    cases z:ag i id with
    |true=>rw[z]at Y;have z:=dB z;subst z;cases Y;refine⟨.bI e0 u,X1,Z1,m1,h0,⟨C,x1,U⟩,k2,L1,a0,λk n r x=>?_⟩;rw[eF];exact q1 _ k n r (by simp[exitTo]) x
    |false=>
     rw[z]at Y;cases Y;have f0:i≠id:=λe=>by subst e;rw[gX]at z;cases z
     refine⟨.exit i e0 u,X1,Z1,m1,h0,⟨aM,C,x1,U⟩,k2,L1,a0,λk j0 n r g x=>?_,λk n r g x=>?_⟩;rw[eF];exact q1 _ j0 n r (by simp[exitTo,hG f0,g]) x;rw[eF];exact q2 _ n r (by simp[exitTo,hG f0,g])<|xt x
   |ret J O=>
    cases Y;have⟨c0,X1,Z1,m1,h0,k1,k2,k3⟩:=k
    cases c0<;>try(exact k1.elim)
    have⟨L1,a0,q1⟩:=k3;refine⟨_,X1,Z1,m1,h0,k1,k2,L1,a0,λk n r x=>?_⟩;rw[eF];exact q1 _ n r<|xt x
 |.loop b,I,E,y,A,M,X,Z,m,h,σ,T,V,L,ds,o,S,Q,B,p,Y=>by
  simp only[nn]at I;simp only[cv]at Y;have⟨n,w⟩:=Hp Y;clear Y;have m0:∀n {X Z:aE} {m:Nat->Nat} {h:H} {σ:St} {T:Vg} {V:Rg} {L:aD} {ds:aJ},SR E X Z m h σ->Ac M Z σ->(∀i,RV E X Z m h σ (T i)<|V i)->TE N V L->mg (cv P c aN d0 b) n T h=.ok o->
   Comes E N M fn X Z m h σ ds L ([.code b]++[.inLoop b]) o:=by
   intro n
   induction n with
   |zero=>intro X Z m h σ T V L ds _ _ _ _ w;cases w
   |succ n p0=>
    intro X Z m h σ T V L ds S Q B p w;unfold mg at w
    cases b0:cv P c aN d0 b T h with
    |error e=>rw[b0]at w;cases w
    |ok o1=>
     rw[b0]at w;have k:=tP W G q l b I E y A M S Q B p b0 (ds:=ds)
     cases o1 with
     |bI J O=>exact k.then λC z1 U l1 _=>Comes.ko (p0 C (Q.next z1) U l1 w)<|λk F=>rfl
     |exit i J O=>cases w;exact k.oA (λid k=>rfl) (λ_ _ e=>by cases e)
     |ret J O=>cases w;exact k.oA (λid k=>rfl) (λ_ _ e=>by cases e)
  exact Comes.ko (m0 n S Q B p w (ds:=ds))<|λk F=>rfl
 |.scope b,I,E,y,A,M,X,Z,m,h,σ,T,V,L,ds,o,S,Q,B,p,Y=>by
  simp only[nn]at I;simp only[cv]at Y;have k:=tP W G q l b I E y A M S Q B p Y (ds:=ds);refine Comes.ko (c:=[.code b]++[.inScope b]) ?_<|λk F=>rfl
  cases o with
  |bI J O=>exact k.then λC _ U l1 _=>Comes.fN C U l1 λk F=>rfl
  |exit id J u=>exact k.oA (λid k=>rfl) (λ_ _ e=>by cases e)
  |ret J u=>exact k.oA (λid k=>rfl) (λ_ _ e=>by cases e)
 |.region id q0 u0,I,E,y,A,M,X,Z,m,h,σ,T,V,L,ds,o,S,Q,B,p,Y=>by simp only[nn]at I;simp only[cv]at Y;obtain⟨v0,w0,rfl,n0,o0,r0,s0,e1,e2,e3,e4⟩:=amM (E:=E) (y▸W) ⟨y▸G,A⟩ (q.trans y.symm) (by rw[y];exact I) S B Y;exact⟨.bI n0 o0,r0,Z,s0,[],⟨e2,e3,e4⟩,⟨.nil,λ_=>rfl⟩,DB.region p e1⟩
 |.rangeFunc f x0 a b,I,E,y,A,M,X,Z,m,h,σ,T,V,L,ds,o,S,Q,B,p,Y=>by
  simp only[nn,bW]at I;simp only[cv]at Y;exact ami (E:=E) (y▸W) (λτ=>tP W G q l a I.1.2 (E.qk τ) y A) (λτ=>tP W G q l b I.2 (E.qk τ) y A)
   (λd t0=>kz.1<|kt.1 I.1.1 d t0) (by rw[y];exact l) M S Q B p Y
 |.goto _,I,E,y,A,M,X,Z,m,h,σ,T,V,L,ds,o,S,Q,B,p,Y=>by simp[cv]at Y
 |.refuse _,I,E,y,A,M,X,Z,m,h,σ,T,V,L,ds,o,S,Q,B,p,Y=>by simp[cv]at Y
end
section
variable{E:cI}{X Z:Nat->Prop}{m:Nat->Nat}{h:H}{σ:St}
def SR.aod{Z':aE}(S:SR E X Z' m h σ)(f:∀b,Z b->Z' b):SR E X Z m h σ/\ ∀v a,RV E X Z' m h σ v a->RV E X Z m h σ v a:=by have⟨C,w,_⟩:=S.l' (Z':=Z) (σ':=σ) (bu _) S.wf aM (λ_ _ _=>rfl) (λb _ e=>f b e) λb e=>S.zb b<|f b e;exact⟨C,w⟩
def Zw(bs:aK):∀σ:St,(oB σ bs).n=σ.n/\ (oB σ bs).l.length=aA σ.l/\ (oB σ bs).M=σ.M:=by
 induction bs with
 |nil=>exact λσ=>⟨aM,aM,aM⟩
 |cons b bs I=>intro σ;have⟨V,a,d⟩:=I<|σ.set b<|.deferred ae;simp only[oB];exact⟨V,by rw[a];simp[St.set],d⟩
def NS:∀(bs:aK) (σ:St) (b:Nat),(∀x∈bs,x<σ.n)->b∉bs->(oB σ bs).a7 b=σ.a7 b
 |[],_,_,_,_=>rfl
 |x::bs,σ,b,s,P=>by simp only[oB];rw[NS bs (σ.set x<|.deferred ae) b (λy Q=>s y<|by simp[Q])<|λh=>P<|by simp[h]];exact kZ (s x aY) λe=>P<|by simp[e]
def SR.apx(S:SR E X Z m h σ){bs:aK}(e:∀b∈bs,Z b):SR E X Z m h (oB σ bs)/\ (∀v a,RV E X Z m h σ v a->RV E X Z m h (oB σ bs) v a)/\ ∀b,¬Z b->(oB σ bs).a7 b=σ.a7 b:=by
 have⟨g,C,G⟩:=Zw bs σ;have O:∀x∈bs,x<σ.n:=λx s=>(S.zb x<|e x s).2.1;have o:∀b,¬Z b->(oB σ bs).a7 b=σ.a7 b:=λb z=>NS bs σ b O λY=>z<|e b Y;have⟨T,w,_⟩:=S.l' (Z':=Z) (σ':=Dt.oB σ bs) (by rw[g];exact auS) (by rw[C,g];exact S.wf) G (λb _ z=>o b z) (λ_ _ h=>h) λb I=>by rw[g];exact S.zb b I
 exact at6
def Nj(O:SR E X Z m h σ){T:Vg}{c:Rg}(S:∀i,RV E X Z m h σ (T i)<|c i){P:VT}(o:P.D=E.D){ρ:Type}:∀{rs:List ResultVar} {L:aC},lK P h T rs=.ok L->
 L.all et=aa/\ ∃I,fl E X Z m h σ L I/\ ∀k:aD->R ρ,lf E.D σ c k rs=k I
 |[],L,s=>by simp only[lK]at s;cases s;exact⟨aM,[],RL.jd,λk=>rfl⟩
 |.tmp t::l,L,s=>by simp only[lK]at s;rw[dn,bF]at s;obtain⟨w,r,s,j⟩:=s;cases j;obtain⟨n,I,d,D⟩:=Nj (ρ:=ρ) O S o s;refine⟨by simp only[uS,w,n,iJ],c t::I,RL.gb (S t) d,λk=>?_⟩;simp only[lf,D]
 |.cell a t::l,L,s=>by simp only[lK,bF]at s;obtain⟨q,M,p,G,v,Y,r,s,j⟩:=s;cases j;rw[o]at M;obtain⟨n,I,d,D⟩:=Nj (ρ:=ρ) O S o s;obtain⟨x,C,e⟩:=Mm O M G (S a) Y;refine⟨by simp only[uS,Va Y,n,iJ],x::I,RL.gb e d,λk=>?_⟩;simp only[lf,C,aO,D]
def alh{q:aC}{I:aD}(hn:q.all et=aa)(x:fl E X Z m h σ q I):RV E X Z m h σ (pc q) (ou I):=by
 have bn:∀{q:aC} {I:aD},q.all et=aa->fl E X Z m h σ q I->RV E X Z m h σ (.bn q) (.tuple I):=by intro q I hn x;simp only[RR];exact⟨I,aM,RL.refl LC.dN hn x,x⟩
 cases q with
 |nil=>simp only[RL]at x;subst x;exact bn aM RL.jd
 |cons v q=>
  have P:=x;simp only[RL]at x;obtain⟨a,r,rfl,V,p⟩:=x
  cases q with
  |nil=>simp only[RL]at p;subst p;exact V
  |cons w q=>have o:=p;simp only[RL]at o;obtain⟨b,C,rfl,_,_⟩:=o;exact bn hn P
def alc{q:aC}(hn:q.all et=aa):et (pc q)=aa:=by
 cases q with
 |nil=>rfl
 |cons v q=>
  cases q with
  |nil=>simpa[pc]using hn
  |cons _ _=>rfl
def YC{P:VT}{c:VC}{z f:Nat}(d0:lV E.D c)(k0:qq E.D c/\ c.y=E.iN)(e0:P.D=E.D)(l0:SR E X Z m h σ){args:aC}{I:aD}(m0:fl E X Z m h σ args I){v:VV}{h':H}(Y:jf P c z f args h=.ok (v,h')):
 hK E.D f=aa/\ et v=aa/\ ∃a σ' X' m',dw E.D f I σ=.ok (.ret a,σ')/\ SR E X' Z m' h' σ'/\ Ex X Z m h σ X' Z m' h' σ'/\ RV E X' Z m' h' σ' v a:=by
 unfold jf at Y;rw[e0]at Y
 cases y:E.D.func f with
 |none=>rw[y]at Y;cases Y
 |some fn=>
  rw[y]at Y;simp only at Y
  cases p:fn.body with
  |none=>rw[p]at Y;cases Y
  |some code=>
   rw[p]at Y;simp only at Y;rw[dn]at Y;have⟨n0,Y⟩:=Y;simp only[bW,oP,nM]at n0;have⟨⟨⟨c1,c2⟩,c3⟩,c4⟩:=n0;have o0:=m0.len;have f0:∀i,RV E X Z m h σ (gK args i) (mH I i):=by
    intro i;unfold gK mH
    cases S:args[i]? with
    |some v=>have⟨a,J,k2⟩:=m0.get S;simp only[List.getD,S,J,Option.getD];exact k2
    |none=>have:I[i]?=ae:=at6;simp only[List.getD,S,this,Option.getD];exact ET
   have r0:=TE.start (args:=I) (n:=fn.ntmps) aW
   cases u:cv P c z (P.gk f) code (gK args) h with
   |error e=>rw[u]at Y;cases Y
   |ok o=>
    rw[u]at Y;have⟨p0,X',c0,m',bs,J,⟨k2,_⟩,q⟩:=tP (N:=fn.ntmps) (fn:=f) d0 k0.1 e0 y code c1 E aM k0.2 ae l0 (λl M=>by cases M) f0 r0 u (ds:=[]);have dC:∀(T:Vg) (V:H) (L:Rg) (G:St) (F:aD),SR E X' c0 m' V G->Ex X Z m h σ X' c0 m' V G->(∀i,RV E X' c0 m' V G (T i)<|L i)->tE σ.n c0 G bs->TE fn.ntmps L F->
     (aO (lK P V T fn.results.toList) λq0=>(.ok (pc q0,V):R<|VV×H))=.ok (v,h')->
     et v=aa/\ ∃a σ',(∃n,(cg E.D n).finish f F (bs.map bT.collected) ae ae G=.ok (.ret a,ae,σ'))/\ SR E X' Z m' h' σ'/\ Ex X Z m h σ X' Z m' h' σ'/\ RV E X' Z m' h' σ' v a:=by
     intro T V L G F j C B W g Q;rw[bF]at Q;have⟨q0,g0,Q⟩:=Q;cases Q;have⟨s2,h0,g2⟩:=j.apx (bs:=bs) λb p=>(W.2 b p).2.1;have⟨t,A,r1,r2⟩:=Nj (ρ:=cY×St) s2 (λi=>h0 _ _<|B i) e0 g0;have a0:=alh t r1;have⟨s3,i0⟩:=s2.aod (Z:=Z) λb p=>(C.zs b p).1;refine⟨alc t,ou A,Dt.oB G bs,?_,s3,?_,i0 _ _ a0⟩;have b0:=A5 (D:=E.D) (σ:=Dt.oB G bs) (r:=(.ret<|ou A,Dt.oB G bs)) y g (r2 _) 0;exact SQ bs G (λb p=>⟨(j.zb b (W.2 b p).2.1).2.1,(W.2 b p).2.2⟩) W.1 j.wf b0;have⟨e1,_,_⟩:=Zw bs G;refine⟨by rw[e1];exact C.n,C.b,λb p=>⟨p,?_⟩,λb p=>?_,λs=>?_⟩;rw[NS bs G b (λx s0=>(j.zb x (W.2 x s0).2.1).2.1) λw=>?_];exact(C.zs b p).2;have:=(W.2 b w).1;have:=(l0.zb b p).2.1;omega;have⟨f1,f2⟩:=C.fs b p;refine⟨⟨by rw[e1];exact f1.1,f1.2.1,λd0=>f1.2.2.1 (C.zs b d0).1,f1.2.2.2⟩,?_⟩;rw[g2 b f1.2.2.1];exact f2
     rcases C.st s with k|k
     exact .inl k;refine .inr ⟨k.ver,k.mm,k.k,k.md,λM t0=>?_⟩;have⟨q1,q2⟩:=k.eq M t0;refine⟨?_,q2⟩;have U:(h.o s).k≠.none:=λU=>by rw[U]at M;cases M
     have w:=k.mm.resolve_right U;have:=(j.ct s<|k.k.ct M).2.2.2.1;exact at6
    have u0:∀O,(∃a σ',(cg E.D O).run (cA [] ae f (I++gF (fn.ntmps-aA I))<|[.code code]++[]) ae σ=.ok (.ret a,ae,σ'))->True:=λ_ _=>trivial;have d:∀a σ' O,(cg E.D O).run (cA [] ae f (I++gF (fn.ntmps-aA I))<|[.code code]++[]) ae σ=.ok (.ret a,ae,σ')->dw E.D f I σ=.ok (.ret a,σ'):=by intro a σ' O w;refine tO.2 ⟨O+1,?_⟩;show lr E.D (cg E.D O) f I σ=_;simp only[lr,c4,fR,ff,v7,pP,y,p];have j0:(cg E.D O).run {fn:=f,T:=I++gF (fn.ntmps-aA I),todo:=[.code code],defers:=[],round:=ae} ae σ=.ok (.ret a,ae,σ'):=w;show((cg E.D O).run {fn:=f,T:=I++gF (fn.ntmps-aA I),todo:=[.code code],defers:=[],round:=ae} ae σ>>=_)=_;rw[j0];rfl
    cases o with
    |bI T V=>
     cases p0<;>try(exact J.elim)
     rename_i L G;have⟨j,C,B⟩:=J;have⟨F,g,q⟩:=q;have⟨t,a,σ',⟨n,U⟩,q1,q2,q3⟩:=dC T V L G F j C B k2 g Y
     have⟨O,w⟩:=q [] (n+1) (.ret a,ae,σ') (by
      rw[uI];simp only[dG,cA,jI,ea]
      exact U)
     exact⟨c3,t,a,σ',X',m',d a σ' O w,q1,q2,q3⟩
    |ret T V=>
     cases p0<;>try(exact J.elim)
     rename_i L G;have⟨j,C,B⟩:=J;have⟨F,g,q⟩:=q;have⟨t,a,σ',⟨n,U⟩,q1,q2,q3⟩:=dC T V L G F j C B k2 g Y
     have⟨O,w⟩:=q [] n (.ret a,ae,σ') (by
      simp only[jI,cA,ea]
      exact U)
     exact⟨c3,t,a,σ',X',m',d a σ' O w,q1,q2,q3⟩
    |exit i T V=>cases Y
end
def nK(a B:cV):Prop:=∀l b,a l=.ok b->B l=.ok b
theorem nK.refl(a:cV):nK a a:=λ_ _ h=>h
structure qv(c c':VC):Prop where
 z:∀f gp a a' y r,nK a a'->c.z f gp a y=.ok r->c'.z f gp a' y=.ok r
 i:∀f b gp a a' h r,nK a a'->c.i f b gp a h=.ok r->c'.i f b gp a' h=.ok r
 y:nK c.y c'.y
theorem qv.trans{a b c:VC}(h:qv a b)(k:qv b c):qv a c:=⟨λ_ _ _ _ _ _ l e=>k.z _ _ _ _ _ _ (nK.refl _)<|h.z _ _ _ _ _ _ l e,λ_ _ _ _ _ _ _ l e=>k.i _ _ _ _ _ _ _ (nK.refl _)<|h.i _ _ _ _ _ _ _ l e,λl b e=>k.y l b<|h.y l b e⟩
structure ql(A:Nat->cV)(a:cV):Prop where
 up:∀n m,n<=m->nK (A n) (A m)
 lim:∀l b,a l=.ok b->∃n,A n l=.ok b
theorem ql.const(a:cV):ql (λ_=>a) a:=⟨λ_ _ _=>nK.refl a,λ_ _ h=>⟨0,h⟩⟩
structure Fm(s:Nat->VC)(l:VC):Prop where
 le:∀n m,n<=m->qv (s n) (s m)
 z:∀f gp A a y r,ql A a->l.z f gp a y=.ok r->∃n,(s n).z f gp (A n) y=.ok r
 i:∀f b gp A a h r,ql A a->l.i f b gp a h=.ok r->∃n,(s n).i f b gp (A n) h=.ok r
 y:ql (λn=>(s n).y) l.y
structure Ct{α:Type}(F:VC->R α):Prop where
 mono:∀c c',qv c c'->∀a,F c=.ok a->F c'=.ok a
 pN:∀s l,Fm s l->∀a,F l=.ok a->∃n,F (s n)=.ok a
structure ks(A:VC->cV):Prop where
 mono:∀c c',qv c c'->nK (A c) (A c')
 pN:∀s l,Fm s l->ql (λn=>A<|s n) (A l)
theorem ks.of{A:VC->cV}(h:∀l,Ct λc=>A c l):ks A:=⟨λc T Q l b e=>(h l).mono c T Q b e,λs l k=>⟨λn m r l b e=>(h l).mono _ _ (k.le n m r) b e,λN b e=>(h N).pN s l k b e⟩⟩
theorem ks.y:ks λc=>c.y:=⟨λ_ _ h=>h.y,λ_ _ k=>k.y⟩
theorem ks.const(a:cV):ks λ_=>a:=⟨λ_ _ _=>nK.refl a,λ_ _ _=>ql.const a⟩
theorem Ct.const{α:Type}(x:R α):Ct λ_=>x:=⟨λ_ _ _ _ h=>h,λ_ _ _ _ h=>⟨0,h⟩⟩
theorem Ct.bind{α β:Type}{F:VC->R α}{G:α->VC->R β}(W:Ct F)(Q:∀a,Ct<|G a):Ct λc=>aO (F c) λa=>G a c:=by refine⟨λc T S a h=>?_,λs l k a h=>?_⟩;rw[bF]at h|-;have⟨b,V,p⟩:=h;exact⟨b,W.mono c T S b V,(Q b).mono c T S a p⟩;simp only[bF]at h;have⟨b,V,p⟩:=h;have⟨t,g⟩:=W.pN s l k b V;have⟨B,C⟩:=(Q b).pN s l k a p;refine⟨max t B,?_⟩;rw[bF];exact⟨b,W.mono _ _ (k.le _ _<|j8 _ _) b g,(Q b).mono _ _ (k.le _ _<|j9 _ _) a C⟩
theorem Ct.z(f:Nat)(I:aC){A:VC->cV}(X:ks A)(y:aB):Ct λc=>c.z f I (A c) y:=⟨λc T Q _ h=>Q.z _ _ _ _ _ _ (X.mono c T Q) h,λs l k r h=>k.z f I _ _ y r (X.pN s l k) h⟩
theorem Ct.i(f b:Nat)(I:aC){A:VC->cV}(X:ks A)(h:H):Ct λc=>c.i f b I (A c) h:=⟨λc T Q _ e=>Q.i _ _ _ _ _ _ _ (X.mono c T Q) e,λs l k r e=>k.i f b I _ _ h r (X.pN s l k) e⟩
theorem Ct.bif{α:Type}{F G:VC->R α}(b:Bool)(W:Ct F)(Q:Ct G):Ct λc=>bif b then F c else G c:=by cases b;exact Q;exact W
section
variable(P:VT)(aN:Nat)
theorem atd(f:Nat)(args:aC)(h:H):Ct λc=>Fa c f args h:=by unfold Fa;exact(Ct.const _).bind λp=>Ct.bif _ ((Ct.z f p.1 (ks.const _) h.y).bind λq=>Ct.const _)<|(Ct.z f p.1 ks.y h.y).bind λq=>Ct.const _
theorem atb(args:aC)(h:H):Ct λc=>E9 c args h:=by unfold E9;exact(Ct.const _).bind λp=>Ct.bind (F:=λc=>c.y<|h.y++[p.1]) ⟨λc T Q b e=>Q.y _ _ e,λs l k b e=>k.y.lim _ _ e⟩ λq=>Ct.const _
theorem adu(d:Option Tmp)(f:VV)(args:aC)(h:H):Ct λc=>yD P c aN d f args h:=by
 unfold yD
 cases f<;>first|exact Ct.const _|exact atb _ _|skip
 unfold Kj;exact Ct.bif _ (Ct.i _ _ _ ks.y _)<|atd _ _ _
theorem abI(T:Vg)(h:H)(d:Option Tmp)(l:Op):Ct λc=>CD P c aN T h d l:=by
 unfold CD
 cases l<;>try exact Ct.const _
 rename_i Y;simp only
 cases Y.callee<;>try exact Ct.const _
 exact adu P aN _ _ _ _
theorem WE(g:Bool)(o:Oper)(T:Vg)(h:H):Ct λc=>ec P c aN g o T h:=by unfold ec;cases jo P.D o.op;exact Ct.const _;exact Ct.const _;exact Ct.const _;exact(Ct.bif g (abI P aN T h o.dst o.op)<|Ct.const _).bind λp=>Ct.const _
theorem YQ(ops:aH):∀(l:aH) (T:Vg) (h:H),Ct λc=>mv P c aN ops lj l T h
 |[],T,h=>Ct.const _
 |o::l,T,h=>by
  unfold mv
  cases rR ops o T with
  |none=>exact Ct.const _
  |some g=>exact(WE P aN g o T h).bind λp=>YQ ops l p.1 p.2
theorem RQ(ops:aH)(h0:H):∀(l:aH) (T:Vg) (h:H),Ct λc=>kD P c aN ops lj h0 l T h
 |[],T,h=>Ct.const _
 |o::l,T,h=>by
  unfold kD
  cases rR ops o T with
  |none=>exact Ct.const _
  |some g=>exact Ct.bif _ ((WE P aN g o T h).bind λp=>RQ ops h0 l p.1 p.2)<|Ct.const _
theorem VA{step:Vg->H->R Vo}:∀(n:Nat) {T:Vg} {h:H} {o:Vo},mg step n T h=.ok o->mg step (n+1) T h=.ok o
 |0,_,_,_,h=>by cases h
 |n+1,T,h,o,l=>by
  unfold mg at l|-
  cases s:step T h with
  |error e=>rw[s]at l;cases l
  |ok E=>
   rw[s]at l
   cases E with
   |bI p V=>exact VA n l
   |exit i p V=>exact l
   |ret p V=>exact l
theorem Vz{step:Vg->H->R Vo}{n m:Nat}(I:n<=m){T:Vg}{h:H}{o:Vo}(l:mg step n T h=.ok o):mg step m T h=.ok o:=by
 induction I with
 |refl=>exact l
 |step _ k=>exact VA _ k
theorem Ho{step:Vg->H->R Vo}{T:Vg}{h:H}{o:Vo}{n:Nat}(l:mg step n T h=.ok o):nA step T h=.ok o:=by have x:∃r n,mg step n T h=.ok r:=⟨o,n,l⟩;unfold nA;rw[w_ x];have⟨m,Y⟩:=x.choose_spec;have g:=Vz (j8 n m) l;have C:=Vz (j9 n m) Y;exact at6
theorem Mo{F:Vg->H->VC->R Vo}(W:∀T h,Ct<|F T h):∀(n:Nat) (T:Vg) (h:H),Ct λc=>mg (λT h=>F T h c) n T h
 |0,T,h=>Ct.const _
 |n+1,T,h=>by
  have k:Ct λc=>aO (F T h c) λo=>match o with
   |.bI T h=>mg (λT h=>F T h c) n T h
   |o=>.ok o:=(W T h).bind λo=>by
    cases o with
    |bI T h=>exact Mo W n T h
    |exit i T h=>exact Ct.const _
    |ret T h=>exact Ct.const _
  have e:(λc=>mg (λT h=>F T h c) (n+1) T h)=λc=>aO (F T h c) λo=>match o with
   |.bI T h=>mg (λT h=>F T h c) n T h
   |o=>.ok o:=by
   funext c;show(match F T h c with|.ok (.bI T h)=>mg (λT h=>F T h c) n T h|r=>r)=_
   cases F T h c with
   |error e=>rfl
   |ok o=>cases o<;>rfl
  rw[e];exact k
theorem aju{F:Vg->H->VC->R Vo}(W:∀T h,Ct<|F T h)(T:Vg)(h:H):Ct λc=>nA (λT h=>F T h c) T h:=by refine⟨λc C Q a e=>?_,λs l k a e=>?_⟩;have⟨n,r⟩:=Hp e;exact Ho<|(Mo W n T h).mono c C Q a r;have⟨n,r⟩:=Hp e;have⟨m,Y⟩:=(Mo W n T h).pN s l k a r;exact⟨m,Ho Y⟩
theorem Nn{J:VC->H->aC->R Vo}(r:∀h e,Ct λc=>J c h e):∀(l:aB) {x:VC->R Vo},Ct x->Ct λc=>l.foldl (BR<|J c)<|x c
 |[],x,s=>s
 |e::l,x,s=>by
  refine Nn r l (x:=λc=>BR (J c) (x c) e) ?_
  have k:Ct λc=>aO (x c) λo=>match o with
   |.bI _ h=>J c h e
   |_=>.error "":=Ct.bind s λo=>by
    cases o with
    |bI _ h=>exact r h e
    |exit i T h=>exact Ct.const _
    |ret T h=>exact Ct.const _
  have g:(λc=>BR (J c) (x c) e)=λc=>aO (x c) λo=>match o with
   |.bI _ h=>J c h e
   |_=>.error "":=by
   funext c
   cases x c with
   |error e=>rfl
   |ok o=>cases o<;>rfl
  rw[g];exact k
theorem am8(T:Vg)(O:List Tmp){u J:VC->Vg->H->R Vo}(b:∀T h,Ct λc=>u c T h)(X:∀T h,Ct λc=>J c T h)(h:H)(e:aC):Ct λc=>fH T O (u c) (J c) h e:=by
 unfold fH;refine Ct.bif _ ?_<|Ct.const _
 have k:Ct λc=>aO (u c (pg (O.zip e) T) h) λo=>match o with
  |.bI p V=>aO (J c p V) λo=>lk T<|.ok o
  |_=>.error "":=(b _ _).bind λo=>by
   cases o with
   |bI p V=>exact(X p V).bind λo=>Ct.const _
   |exit i T h=>exact Ct.const _
   |ret T h=>exact Ct.const _
 have g:(λc=>(match u c (pg (O.zip e) T) h with
  |.ok (.bI p V)=>lk T<|J c p V
  |.ok _=>.error ""
  |x=>x))=λc=>aO (u c (pg (O.zip e) T) h) λo=>match o with
   |.bI p V=>aO (J c p V) λo=>lk T<|.ok o
   |_=>.error "":=by
  funext c
  cases u c (pg (O.zip e) T) h with
  |error e=>rfl
  |ok o=>
   cases o with
   |bI p V=>show lk T (J c p V)=aO (J c p V) λo=>lk T<|.ok o;cases J c p V<;>rfl
   |exit i T h=>rfl
   |ret T h=>rfl
 exact(np Ct g).mpr k
theorem amg(f:VV)(T:Vg)(h:H){J:VC->H->aC->R Vo}(x:∀h e,Ct λc=>J c h e):Ct λc=>lH c f T h (J c):=by
 unfold lH
 cases f<;>try exact Ct.const _
 refine(Ct.const _).bind λp=>(Ct.const _).bind λq=>Ct.bind (Ct.z _ _ (ks.of λl=>?_) _) λr=>Nn x _<|Ct.const _;exact Ct.bind (Nn x l<|Ct.const _) λo=>Ct.const _
theorem tQ(l:Nat->aK):∀(code:Code) (T:Vg) (h:H),Ct λc=>cv P c aN l code T h
 |.skip,T,h=>Ct.const _
 |.label _,T,h=>Ct.const _
 |.ret,T,h=>Ct.const _
 |.exit id,T,h=>Ct.const _
 |.seq a b,T,h=>by
  have k:Ct λc=>aO (cv P c aN l a T h) λo=>match o with
   |.bI T h=>cv P c aN l b T h
   |o=>.ok o:=(tQ l a T h).bind λo=>by
    cases o with
    |bI T h=>exact tQ l b T h
    |exit i T h=>exact Ct.const _
    |ret T h=>exact Ct.const _
  have e:(λc=>cv P c aN l (.seq a b) T h)=λc=>aO (cv P c aN l a T h) λo=>match o with
   |.bI T h=>cv P c aN l b T h
   |o=>.ok o:=by
   funext c;show dL (cv P c aN l a T h) (cv P c aN l b)=_
   cases cv P c aN l a T h with
   |error e=>rfl
   |ok o=>cases o<;>rfl
  rw[e];exact k
 |.cond v a b,T,h=>by show Ct λc=>wX (bS T v) (cv P c aN l a T h)<|cv P c aN l b T h;unfold wX;split;exact Ct.bif _ (tQ l a T h)<|tQ l b T h;exact Ct.const _
 |.block id b,T,h=>by
  have k:Ct λc=>aO (cv P c aN l b T h) λo=>cJ id (.ok o):=(tQ l b T h).bind λo=>Ct.const _;have e:(λc=>cv P c aN l (.block id b) T h)=λc=>aO (cv P c aN l b T h) λo=>cJ id (.ok o):=by funext c;show cJ id (cv P c aN l b T h)=_;cases cv P c aN l b T h<;>rfl
  rw[e];exact k
 |.loop b,T,h=>aju (λT h=>tQ l b T h) T h
 |.scope b,T,h=>tQ l b T h
 |.region _ y U,T,h=>Ct.bif U (RQ P aN _ _ _ _ _)<|YQ P aN _ _ _ _
 |.rangeFunc f O a b,T,h=>amg (bS T f) T h<|am8 T O.toList (λT h=>tQ l a T h) λT h=>tQ l b T h
 |.goto _,T,h=>Ct.const _
 |.refuse _,T,h=>Ct.const _
theorem Ys(f:Nat)(args:aC)(h:H):Ct λc=>jf P c aN f args h:=by
 unfold jf
 cases P.D.func f with
 |none=>exact Ct.const _
 |some i=>
  simp only
  cases i.body with
  |none=>exact Ct.const _
  |some v=>
   simp only;refine Ct.bif _ ?_<|Ct.const _;have k:Ct λc=>aO (cv P c aN (P.gk f) v (gK args) h) λo=>ki P i.results.toList (.ok o):=(tQ P aN (P.gk f) v (gK args) h).bind λo=>Ct.const _;have e:(λc=>ki P i.results.toList<|cv P c aN (P.gk f) v (gK args) h)=λc=>aO (cv P c aN (P.gk f) v (gK args) h) λo=>ki P i.results.toList (.ok o):=by funext c;cases cv P c aN (P.gk f) v (gK args) h<;>rfl
   rw[e];exact k
theorem Yt(f:Nat)(args:aC)(h:H){A:VC->cV}(X:ks A):Ct λc=>jf P {c with y:=A c} aN f args h:=by refine⟨λc T Q r e=>(Ys P aN f args h).mono {c with y:=A c} {T with y:=A T} ⟨Q.z,Q.i,X.mono c T Q⟩ r e,λs l k r e=>?_⟩;exact(Ys P aN f args h).pN (λn=>{s n with y:=A (s n)}) {l with y:=A l} ⟨λn m Z=>⟨(k.le n m Z).z,(k.le n m Z).i,(X.pN s l k).up n m Z⟩,k.z,k.i,X.pN s l k⟩ r e
end
theorem Rc(I:aC){A:VC->cV}(X:ks A):∀(gs:aK) (y:aB),Ct λc=>nk c.z I (A c) gs y
 |[],y=>Ct.const _
 |g::gs,y=>(Ct.z g I X y).bind λp=>by
  cases DE p.1 with
  |none=>exact Ct.const _
  |some n=>exact Ct.bif _ (Rc I X gs p.2)<|Ct.const _
theorem NQ(P:VT)(f:Nat)(I:aC){A:VC->cV}(X:ks A)(y:aB):Ct λc=>(wq P c).z f I (A c) y:=by
 unfold wq;simp only
 cases P.la f with
 |some g=>exact Ct.const _
 |none=>
  simp only
  cases P.fL f with
  |some g=>exact Ct.bif _ (Rc I X g.2 y)<|Ct.const _
  |none=>exact(Yt P (P.h5 f) f I _ X).bind λp=>Ct.const _
theorem NP(P:VT)(f b:Nat)(I:aC){A:VC->cV}(X:ks A)(h:H):Ct λc=>(wq P c).i f b I (A c) h:=by
 unfold wq;simp only
 cases P.nv f with
 |some g=>exact Ct.const _
 |none=>exact Yt P b f I h X
theorem Zs(P:VT){c T:VC}(Q:qv c T):qv (wq P c) (wq P T):=by have D:∀a B,nK a B->qv {c with y:=a} {T with y:=B}:=λa B h=>⟨Q.z,Q.i,h⟩;exact⟨λf I a B y r h e=>(NQ P f I ks.y y).mono _ _ (D a B h) r e,λf b I a B J r h e=>(NP P f b I ks.y J).mono _ _ (D a B h) r e,Q.y⟩
theorem Cb(P:VT):∀n,qv (iz P n) (iz P n)/\ qv (iz P n) (iz P<|n+1)
 |0=>⟨⟨λ_ _ _ _ _ _ _ h=>(by cases h),λ_ _ _ _ _ _ _ _ h=>(by cases h),λ_ _ h=>(by cases h)⟩,⟨λ_ _ _ _ _ _ _ h=>(by cases h),λ_ _ _ _ _ _ _ _ h=>(by cases h),λ_ _ h=>(by cases h)⟩⟩
 |n+1=>⟨Zs P (Cb P n).1,Zs P (Cb P n).2⟩
theorem yf(P:VT){n m:Nat}(h:n<=m):qv (iz P n) (iz P m):=by
 induction h with
 |refl=>exact(Cb P _).1
 |step _ I=>exact I.trans (Cb P _).2
theorem IQ(P:VT):∀m,(∀f I A a y r,ql A a->(iz P m).z f I a y=.ok r->∃k,(iz P m).z f I (A k) y=.ok r)/\ ∀f b I A a h r,ql A a->(iz P m).i f b I a h=.ok r->∃k,(iz P m).i f b I (A k) h=.ok r
 |0=>⟨λ_ _ _ _ _ _ _ h=>(by cases h),λ_ _ _ _ _ _ _ _ h=>(by cases h)⟩
 |m+1=>by
  have k:∀{A:Nat->cV} {a:cV},ql A a->Fm (λn=>{iz P m with y:=A n}) {iz P m with y:=a}:=λ{A a} X=>⟨λn M Z=>⟨(Cb P m).1.z,(Cb P m).1.i,X.up n M Z⟩,(IQ P m).1,(IQ P m).2,X⟩
  exact⟨λf I A a y r X e=>(NQ P f I ks.y y).pN _ _ (k X) r e,λf b I A a h r X e=>(NP P f b I ks.y h).pN _ _ (k X) r e⟩
open Classical in
def vW(P:VT):VC where
 z:=λf I a y=>if h:∃r n,(iz P n).z f I a y=.ok r then .ok h.choose else .error ""
 i:=λf b I a h=>if x:∃r n,(iz P n).i f b I a h=.ok r then .ok x.choose else .error ""
 y:=λ_=>.error ""
theorem Oa{P:VT}{f:Nat}{I:aC}{a:cV}{y:aB}{r:VV×aB}:(vW P).z f I a y=.ok r↔∃n,(iz P n).z f I a y=.ok r:=by unfold vW;simp only;constructor;intro h;exact avj;rintro⟨n,h⟩;have x:∃r n,(iz P n).z f I a y=.ok r:=⟨r,n,h⟩;rw[w_ x];have⟨m,Y⟩:=x.choose_spec;have V:=(yf P<|j8 n m).z _ _ _ _ _ _ (nK.refl _) h;have p:=(yf P<|j9 n m).z _ _ _ _ _ _ (nK.refl _) Y;exact at6
theorem N9{P:VT}{f b:Nat}{I:aC}{a:cV}{h:H}{r:VV×H}:(vW P).i f b I a h=.ok r↔∃n,(iz P n).i f b I a h=.ok r:=by unfold vW;simp only;constructor;intro h;exact avj;rintro⟨n,X⟩;have x:∃r n,(iz P n).i f b I a h=.ok r:=⟨r,n,X⟩;rw[w_ x];have⟨m,Y⟩:=x.choose_spec;have V:=(yf P<|j8 n m).i _ _ _ _ _ _ _ (nK.refl _) X;have p:=(yf P<|j9 n m).i _ _ _ _ _ _ _ (nK.refl _) Y;exact at6
theorem ZX(P:VT)(A:Nat->cV)(a:cV)(l:ql A a):Fm (λn=>{iz P n with y:=A n}) {vW P with y:=a}:=by refine⟨λn m X=>⟨(yf P X).z,(yf P X).i,l.up n m X⟩,λf I B b y r C e=>?_,λf q I B b h r C e=>?_,l⟩;have⟨m,Y⟩:=Oa.1 e;have⟨k,v⟩:=(IQ P m).1 f I B b y r C Y;exact⟨max m k,(yf P<|j8 m k).z _ _ _ _ _ _ (C.up _ _<|j9 m k) v⟩;have⟨m,Y⟩:=N9.1 e;have⟨k,v⟩:=(IQ P m).2 f q I B b h r C Y;exact⟨max m k,(yf P<|j8 m k).i _ _ _ _ _ _ _ (C.up _ _<|j9 m k) v⟩
theorem Ca{P:VT}{f:Nat}{I:aC}{a:cV}{y:aB}{r:VV×aB}(h:(wq P<|vW P).z f I a y=.ok r):(vW P).z f I a y=.ok r:=by have⟨n,X⟩:=(NQ P f I ks.y y).pN _ _ (ZX P _ _<|ql.const a) r h;exact Oa.2 ⟨n+1,X⟩
theorem ZY{P:VT}{f b:Nat}{I:aC}{a:cV}{J:H}{r:VV×H}(h:(wq P<|vW P).i f b I a J=.ok r):(vW P).i f b I a J=.ok r:=by have⟨n,X⟩:=(NP P f b I ks.y J).pN _ _ (ZX P _ _<|ql.const a) r h;exact N9.2 ⟨n+1,X⟩
def yt(P:VT):Prop:=(∀f g,P.la f=ad g->∀I r,g I=.ok r->hK P.D f=aa/\ ∀(E:cI) (X K F:Nat->Prop) (σ:St) (args:List AV) (y:List<|List VV),wA P.D f I y r y E X K F σ args)/\
 ∀f g,P.fL f=ad g->∀c,lV P.D c->∀I z y r y',zp g.1 I=aa->nk c.z I z g.2 y=.ok (r,y')->hK P.D f=aa/\ ∀(E:cI) (X K F:Nat->Prop) (σ:St) (args:List AV),E.iN=z->wA P.D f I y r y' E X K F σ args
def yl(P:VT):Prop:=∀f g,P.nv f=ad g->∀b I h r h',g b I h=.ok (r,h')->hK P.D f=aa/\ ∀(E:cI) (X Z:Nat->Prop) (m:Nat->Nat) (σ:St) (args:List AV),E.D=P.D->SR E X Z m h σ->fl E X Z m h σ I args->
 ∃a σ' X' m',dw P.D f args σ=.ok (.ret a,σ')/\ SR E X' Z m' h' σ'/\ Ex X Z m h σ X' Z m' h' σ'/\ RV E X' Z m' h' σ' r a
theorem agN{h:H}:∀{n:Nat} {v r:VV} {S:aK},cq h n v=.ok (r,S)->et r=aa
 |0,v,r,S,j=>by simp[cq]at j
 |n+1,v,r,S,j=>by
  cases v<;>simp only[cq,vq,bF]at j<;>try(cases j;done)
  all_goals first|(cases j;rfl)|skip
  have⟨q,_,j⟩:=j;cases M:q.1<;>rw[M]at j;simp only[br,bF]at j;have⟨X,_,j⟩:=j;cases j;rfl;simp only[a8,dn,bF]at j;have⟨_,p,_,j⟩:=j;cases j;rfl;have⟨X,_,q,_,j⟩:=j;cases j;rfl;have⟨q,_,j⟩:=j;cases j;rfl;have⟨q,_,j⟩:=j;cases j;rfl;have⟨q,_,I,_,j⟩:=j;cases j;rfl
theorem Oe{P:VT}(u:yt P)(A:yl P):∀n,lV P.D (iz P n)/\ qq P.D (iz P n)
 |0=>⟨λf I a y r i0 h=>(by cases h),λf b I a h r j0 e=>(by cases e)⟩
 |n+1=>by
  have⟨a0,k0⟩:=Oe u A n;refine⟨λf I L y r i0 x=>?_,λf b I L h r j0 x=>?_⟩
  change(match P.la f with
   |some g=>aO (g I) λr=>.ok (r,y)
   |none=>match P.fL f with
    |some g=>bif zp g.1 I then nk (iz P n).z I L g.2 y else .error ""
    |none=>aO (jf P {iz P n with y:=L} (P.h5 f) f I<|.empty y) λp=>aO (cq p.2 e8 p.1) λq=>.ok (q.1,p.2.y))=_ at x
  cases J:P.la f with
  |some g=>rw[J]at x;simp only[bF]at x;have⟨r0,b0,x⟩:=x;cases x;have⟨t,k3⟩:=u.1 f g J I r b0;exact⟨t,λE X K F σ args _=>k3 E X K F σ args y⟩
  |none=>
   rw[J]at x;simp only at x
   cases W:P.fL f with
   |some g=>
   rw[W]at x;simp only at x;rw[dn]at x;exact u.2 f g W (iz P n) a0 I L y r i0 x.1 x.2
   |none=>
   rw[W]at x;simp only[bF]at x;have⟨p,w,q,V,x⟩:=x;cases x;have C:∀(E:cI) (X K F:aE) (σ:St) (args:aD),E.iN=L->wA P.D f I y q.1 p.2.y E X K F σ args:=by
    intro E X K F σ args c0 o m0 d0 l e0 n0 k o0 b0 G;have T:SR (E.callee X K F σ l k) (λb=>X b\/ (b<σ.n/\ ¬F b)) (λ_=>False) (λ_=>0) (.empty y) σ:=by
     refine⟨d0,by show E.D.gx<=σ.n;rw[o];exact e0,bu _,⟨X,⟨bu _,d0,aM,?_,λ_ h=>h,λb d=>⟨n0 b d,.inl d⟩,λ_ _ _=>rfl⟩,λb=>Ch⟩,λb d=>?_,λb d=>d.elim,λs Q=>(by cases Q),λs s0 Q=>(by cases Q),?_⟩;exact E.jN _ _ _ _ σ _ m0 (bu _) d0 (λ_ _ _=>rfl) aM λb d=>.inl d
     grind
     rw[show(E.callee X K F σ l k).D=P.D from o];refine b0.mono λb j=>⟨⟨(o0 b j).1,?_,λh=>h,λs Q=>(by cases Q)⟩,aM⟩;exact at6
    have M:fl (E.callee X K F σ l k) (λb=>X b\/ (b<σ.n/\ ¬F b)) (λ_=>False) (λ_=>0) (.empty y) σ I args:=by refine RL.mono (bu _) (λb d j=>⟨⟨d,?_,λh=>h,λs Q=>(by cases Q)⟩,d,aM⟩) (λv a N=>by rw[N.1,N.2];exact aM) I args G;exact at6
    have i:lV (E.callee X K F σ l k).D {iz P n with y:=L}:=by show lV E.D _;rw[o];exact a0
    have U:qq (E.callee X K F σ l k).D {iz P n with y:=L}:=by show qq E.D _;rw[o];exact k0
    have⟨t,k2,a,B,X2,l0,e1,Y,x1,v1⟩:=YC i ⟨U,c0.symm⟩ (by show P.D=E.D;exact o.symm) T M w;have f0:=GN Y (S':=q.2) e8 p.1 q.1 q.2 a V (λ_ h=>h) v1;have⟨X1,S,l2⟩:=Y.dO;have c:∀b,b<B.n->¬X2 b->F b\/ (σ.n<=b/\ b<B.n/\ ¬X1 b):=λb d h2=>by grind
    refine⟨a,B,X1,by rw[<-o];exact e1,⟨S.n,S.wf,S.M,?_,S.xx,S.xn,S.fN⟩,agN V,?_⟩;refine E.jN _ _ _ _ B _ S.dO (bu _) S.wf (λ_ _ _=>rfl) aM λb d=>?_
    rcases d with d|⟨p0,d⟩
    exact .inl d;exact .inr ⟨p0,c b d.1 d.2.1⟩;exact RR.mono (bu _) (λb d j=>⟨c b j.1 j.2.1,d,aM⟩) (λ_ _ h=>h) _ _ f0
   refine⟨?_,C⟩;unfold jf at w
   cases j:P.D.func f with
   |none=>rw[j]at w;cases w
   |some g0=>
    rw[j]at w;simp only at w
    cases d:g0.body with
    |none=>rw[d]at w;cases w
    |some O=>rw[d]at w;simp only at w;rw[dn]at w;simp only[bW]at w;exact w.1.1.2
  change(match P.nv f with
   |some g=>g b I h
   |none=>jf P {iz P n with y:=L} b f I h)=_ at x
  cases J:P.nv f with
  |some g=>
  rw[J]at x;have⟨t,k2⟩:=A f g J b I h r j0 x;exact⟨t,λE X Z m σ args o _ T G=>k2 E X Z m σ args o T G⟩
  |none=>
  rw[J]at x;simp only at x;have h0:hK P.D f=aa:=by
   unfold jf at x
   cases j:P.D.func f with
   |none=>rw[j]at x;cases x
   |some g0=>
    rw[j]at x;simp only at x
    cases d:g0.body with
    |none=>rw[d]at x;cases x
    |some O=>rw[d]at x;simp only at x;rw[dn]at x;simp only[bW]at x;exact x.1.1.2
  refine⟨h0,λE X Z m σ args o c0 T G=>?_⟩;have i:lV E.D {iz P n with y:=L}:=by rw[o];exact a0
  have U:qq E.D {iz P n with y:=L}:=by rw[o];exact k0
  have⟨_,_,a,B,q0,l0,e1,Y,x1,v1⟩:=YC i ⟨U,c0.symm⟩ o.symm T G x;exact⟨a,B,q0,l0,by rw[<-o];exact e1,Y,x1,v1⟩
theorem EV{P:VT}(p:yt P)(A:yl P):lV P.D (vW P)/\ qq P.D (vW P):=by refine⟨λf I a y r N h=>?_,λf b I a h r Y e=>?_⟩;have⟨n,X⟩:=Oa.1 h;exact(Oe p A n).1 f I a y r N X;have⟨n,X⟩:=N9.1 e;exact(Oe p A n).2 f b I a h r Y X
end Go.Dt.Vm
namespace Go.Dt
section
variable{ρ:Type}{D:a_}
def bL{α:Type}{a b:α}(h:a=b):a=b:=h
@[simp] def aea{α:Type}(a b:α):(bif aa then a else b)=a:=bL aM
@[simp] def AK{α:Type}(a b:α):(bif ab then a else b)=b:=bL aM
@[simp] def nU{α β:Type}(a:α)(f:α->R β):aO (.ok a:R α) f=f a:=bL aM
@[simp] def C5(b:Bool)(x y:R ρ):vj (cO b) x y=bif b then x else y:=bL aM
@[simp] def L9(T:Rg)(σ:St):ui.bI T σ=.ok (.bI T σ):=bL aM
@[simp] def aiF(T:Rg)(σ:St):ui.ret T σ=.ok (.ret T σ):=bL aM
@[simp] def UN(id:Nat)(T:Rg)(σ:St):ui.exit id T σ=.ok (.exit id T σ):=bL aM
@[simp] def acq(k:K ρ)(id:Nat)(T:Rg)(σ:St):k.iO (.exit id T σ)=k.exit id T σ:=bL aM
@[simp] def xq(f:Rg->St->R ρ)(k:K ρ):(DP f k).bI=f:=bL aM
@[simp] def xr(f:Rg->St->R ρ)(k:K ρ):(DP f k).ret=k.ret:=bL aM
@[simp] def U'(f:Rg->St->R ρ)(k:K ρ):(DP f k).exit=k.exit:=bL aM
@[simp] def aiI(id:Nat)(k:K ρ):(DL id k).bI=k.bI:=bL aM
@[simp] def UP(id B:Nat)(k:K ρ)(T:Rg)(σ:St):(DL id k).exit B T σ=if B=id then k.bI T σ else k.exit B T σ:=by
  show(match ag B id with|aa=>_|ab=>_)=_;rw[beq_eq]
  grind
def Xq(N:Nat)(T:Rg)(d:Tmp)(v:AV)(i:Nat):cZ N T (ad d) v i=if i=d then(if d<N then v else T i)else T i:=by
 simp only[cZ,beq_eq,blt_eq]
 grind
def pf{N:Nat}{T:Rg}{d:Tmp}{v:AV}(h:d<N):cZ N T (ad d) v d=v:=by rw[Xq];simp[h]
def jL{N:Nat}{T:Rg}{d:Tmp}{v:AV}{i:Nat}(h:i≠d):cZ N T (ad d) v i=T i:=by rw[Xq];simp[h]
@[simp] def aii(k:IntKind)(a b:Int):hP .add k k a b=.ok (bY k<|k.wrap<|a+b):=by simp[hP]
@[simp] def air(k:IntKind)(a b:Int):hP .sub k k a b=.ok (bY k<|k.wrap<|a-b):=by simp[hP]
@[simp] def aio(k:IntKind)(a b:Int):hP .mul k k a b=.ok (bY k<|k.wrap<|a*b):=by simp[hP]
def aiq(k:IntKind)(a b:Int)(h:b≠0):hP .rem k k a b=.ok (bY k<|a.tmod b):=by simp[hP,h]
@[simp] def aij(k:IntKind)(a b:Int):hP .eql k k a b=.ok (cO<|a==b):=by simp[hP]
@[simp] def aip(k:IntKind)(a b:Int):hP .neq k k a b=.ok (cO<|a !=b):=by simp[hP]
@[simp] def ain(k:IntKind)(a b:Int):hP .lss k k a b=.ok (cO<|ax<|a<b):=by simp[hP]
@[simp] def aim(k:IntKind)(a b:Int):hP .leq k k a b=.ok (cO<|ax<|a<=b):=by simp[hP]
@[simp] def ail(k:IntKind)(a b:Int):hP .gtr k k a b=.ok (cO<|ax<|a>b):=by simp[hP]
@[simp] def aik(k:IntKind)(a b:Int):hP .geq k k a b=.ok (cO<|ax<|a>=b):=by simp[hP]
@[simp] def apu(a b:aF):zK .eql a b=.ok (cO<|a==b):=bL aM
@[simp] def apv(a b:aF):zK .neq a b=.ok (cO<|!(a==b)):=bL aM
end
end Go.Dt
namespace Go.Dt.Vm
abbrev iV(n:Int):VV:=.aN<|.int .i64 n
abbrev uV(n:Int):VV:=.aN<|.int .u64 n
abbrev bV(b:Bool):VV:=.aN<|.bool b
abbrev sV(l:List UInt8):VV:=.aN<|.string ⟨⟨l⟩⟩
section
variable(P:VT)(c:VC)(aN:Nat)(od:Nat->List Nat)(T:Vg)(h:H)
theorem aeF:cv P c aN od .skip T h=.ok (.bI T h):=bL aM
theorem aeC:cv P c aN od .ret T h=.ok (.ret T h):=bL aM
theorem aey(i:Nat):cv P c aN od (.exit i) T h=.ok (.exit i T h):=bL aM
theorem aeE(a b:Code):cv P c aN od (.seq a b) T h=dL (cv P c aN od a T h) (cv P c aN od b):=bL aM
theorem aew(v:Operand)(a b:Code):cv P c aN od (.cond v a b) T h=wX (bS T v) (cv P c aN od a T h) (cv P c aN od b T h):=bL aM
theorem aev(i:Nat)(b:Code):cv P c aN od (.block i b) T h=cJ i (cv P c aN od b T h):=bL aM
theorem aeD(b:Code):cv P c aN od (.scope b) T h=cv P c aN od b T h:=bL aM
theorem aez(b:Code):cv P c aN od (.loop b) T h=nA (cv P c aN od b) T h:=bL aM
theorem aeB(i:Nat)(l:aH)(w:BY l=ab):cv P c aN od (.region i l.toArray ab) T h=mv P c aN l lj l T h:=by have:cv P c aN od (.region i l.toArray ab) T h=mv P c aN l lj l T (zw T h l):=rfl;rw[this];unfold zw;rw[w];rfl
theorem RH(i:Nat)(l:aH)(d:Option Tmp)(t:Nat)(x:Tmp)(ty:Nat)(p:String)(a:Array Edge)(g:Option<|Nat×Bool):cv P c aN od (.region i (⟨d,.slice t (.tmp x) ae ae ae,ty,p,a,g⟩::l).toArray ab) T h=mv P c aN (⟨d,.slice t (.tmp x) ae ae ae,ty,p,a,g⟩::l) lj (⟨d,.slice t (.tmp x) ae ae ae,ty,p,a,g⟩::l) T (HX T h [⟨d,.slice t (.tmp x) ae ae ae,ty,p,a,g⟩]):=rfl
theorem aex(i:Nat)(l:aH):cv P c aN od (.region i l.toArray aa) T h=kD P c aN l lj h (vZ (od i) l) T h:=bL aM
theorem acb(f:Vg->H->R Vo):dL (.ok<|.bI T h) f=f T h:=bL aM
theorem acd(f:Vg->H->R Vo):dL (.ok<|.ret T h) f=.ok (.ret T h):=bL aM
theorem aca(i:Nat)(f:Vg->H->R Vo):dL (.ok<|.exit i T h) f=.ok (.exit i T h):=bL aM
theorem ac_(i:Nat):cJ i (.ok<|.bI T h)=.ok (.bI T h):=bL aM
theorem ada(i:Nat):cJ i (.ok<|.ret T h)=.ok (.ret T h):=bL aM
theorem ac9(i j:Nat):cJ i (.ok<|.exit j T h)=if j=i then .ok (.bI T h)else .ok (.exit j T h):=by show(bif ag j i then _ else _)=_;exact at6
theorem aeb{α:Type}(b:Bool)(x y:R α):wX (bV b) x y=bif b then x else y:=bL aM
theorem ab_(b:Bool)(x y:R Vo)(f:Vg->H->R Vo):dL (bif b then x else y) f=bif b then dL x f else dL y f:=avc
theorem ac8(b:Bool)(x y:R Vo)(i:Nat):cJ i (bif b then x else y)=bif b then cJ i x else cJ i y:=avc
theorem aqX:lj T h=.ok (.bI T h):=bL aM
variable(ops:List Oper)(k:Vg->H->R Vo)(d:Option Tmp)(op:Op)(ty:Nat)(p:String)(a:Array Edge)(l:List Oper)
theorem al5:mv P c aN ops k [] T h=k T h:=bL aM
theorem al3:mv P c aN ops k (⟨d,op,ty,p,a,ae⟩::l) T h=aO (ec P c aN aa ⟨d,op,ty,p,a,ae⟩ T h) λp=>mv P c aN ops k l p.1 p.2:=bL aM
def tZ(ops:List Oper)(j:Nat):Option Nat:=(ops[j]?).bind (·.dst)
def yR(T:Vg)(w:Bool):Option Nat->Option Bool
 |ad d=>xg (T d) w
 |ae=>ae
def LS{α:Type}(g:Option Bool)(f:Bool->R α):R α:=match g with
 |ad b=>f b
 |ae=>.error ""
theorem TP(j:Nat)(w:Bool):rR ops ⟨d,op,ty,p,a,ad (j,w)⟩ T=yR T w (tZ ops j):=by cases Z:(ops[j]?).bind (·.dst)<;>simp[rR,tZ,yR,Z]
theorem al4(j:Nat)(w:Bool):mv P c aN ops k (⟨d,op,ty,p,a,ad (j,w)⟩::l) T h=LS (yR T w<|tZ ops j) λg=>aO (ec P c aN g ⟨d,op,ty,p,a,ae⟩ T h) λp=>mv P c aN ops k l p.1 p.2:=by rw[mv,TP];cases yR T w (tZ ops j)<;>rfl
theorem g_0(o:Oper):tZ (o::l) 0=o.dst:=bL aM
theorem g_s(o:Oper)(j:Nat):tZ (o::l) (j+1)=tZ l j:=by simp[tZ]
theorem ag3(w:Bool)(d:Nat):yR T w (ad d)=xg (T d) w:=bL aM
theorem ag5(b:Bool):xg (bV b) aa=ad b:=bL aM
theorem ag4(b:Bool):xg (bV b) ab=ad (!b):=bL aM
theorem ag7(b x w:Bool):xg (bif b then bV x else .undef) w=ad (b&&(bif w then x else !x)):=avc
theorem ag6(w:Bool):xg .undef w=ad ab:=bL aM
theorem ahY{α:Type}(b:Bool)(f:Bool->R α):LS (ad b) f=f b:=bL aM
theorem as1(h0:H):kD P c aN ops k h0 [] T h=k T h:=bL aM
theorem asZ(h0:H):kD P c aN ops k h0 (⟨d,op,ty,p,a,ae⟩::l) T h=bif !gP P.D op||q8 h0 h (xS T op)then aO (ec P c aN aa ⟨d,op,ty,p,a,ae⟩ T h) λp=>kD P c aN ops k h0 l p.1 p.2 else .error "":=bL aM
theorem as0(h0:H)(j:Nat)(w:Bool):kD P c aN ops k h0 (⟨d,op,ty,p,a,ad (j,w)⟩::l) T h=LS (yR T w<|tZ ops j) λg=>bif !g||!gP P.D op||q8 h0 h (xS T op)then aO (ec P c aN g ⟨d,op,ty,p,a,ae⟩ T h) λp=>kD P c aN ops k h0 l p.1 p.2 else .error "":=by rw[kD,TP];cases yR T w (tZ ops j)<;>rfl
variable(g:Bool)
def jG{α:Type}(g:Bool)(x y:R α):R α:=bif g then x else y
theorem rU{α:Type}(x y:R α):jG aa x y=x:=bL aM
theorem Up{α:Type}(x y:R α):jG ab x y=y:=bL aM
@[congr] theorem atT{α:Type}{g Z:Bool}{x M y y':R α}(o:g=Z)(U:Z=aa->x=M)(Q:Z=ab->y=y'):jG g x y=jG Z M y':=by subst o;cases g;exact Q aM;exact U aM
theorem ah0(b:Bool)(x y:VV):jG b (.ok x) (.ok y)=.ok (bif b then x else y):=avc
theorem ahZ(b:Bool)(x y:VV)(h:H):jG b (.ok (x,h)) (.ok (y,h))=.ok (bif b then x else y,h):=avc
def lM(T:Vg)(h:H)(d:Option Tmp)(g:Bool)(x:R VV):R (Vg×H):=aO (jG g x<|.ok .undef) λv=>.ok (dX T d v,h)
theorem aqR(x:Operand):ec P c aN g ⟨d,.move x,ty,p,a,ae⟩ T h=lM T h d g (.ok<|bS T x):=bL aM
theorem aqw(x:Operand):ec P c aN g ⟨d,.assign x,ty,p,a,ae⟩ T h=lM T h d g (.ok<|bS T x):=bL aM
theorem aqS(x y z:Operand):ec P c aN g ⟨d,.pick x y z,ty,p,a,ae⟩ T h=lM T h d g (M' (bS T x) (bS T y)<|bS T z):=bL aM
theorem aqx(o:BinOp)(t u:Nat)(x y:Operand):ec P c aN g ⟨d,.binOp o t x y u,ty,p,a,ae⟩ T h=lM T h d g (ky P.D o t (bS T x) (bS T y)<|pX x||pX y):=bL aM
theorem aqU(o:UnOp)(t:Nat)(x:Operand):ec P c aN g ⟨d,.unOp o t x,ty,p,a,ae⟩ T h=lM T h d g (xN (bS T x)<|unOp o):=bL aM
theorem aqF(t f:Nat)(x:Operand):ec P c aN g ⟨d,.fieldAddr t x f,ty,p,a,ae⟩ T h=lM T h d g (aO (vv P.D t f) λoff=>xd h off<|bS T x):=bL aM
theorem aqG(t:Nat)(x y:Operand):ec P c aN g ⟨d,.indexAddr t x y,ty,p,a,ae⟩ T h=lM T h d g (aO (sh P.D t) λq=>aO (Bi<|bS T y) λi=>cF h q (bS T x) i):=bL aM
theorem aqE(x:Operand)(i:Nat):ec P c aN g ⟨d,.extract x i,ty,p,a,ae⟩ T h=lM T h d g (yN (bS T x) i):=bL aM
theorem aqz(t:Nat)(O:List<|Nat×Operand):ec P c aN g ⟨d,.build t O.toArray,ty,p,a,ae⟩ T h=lM T h d g (ga P.D t<|O.map λq=>(q.1,bS T q.2)):=bL aM
theorem aqI(t:Nat)(x:Operand):ec P c aN g ⟨d,.call ⟨.builtin .len,#[x],#[t]⟩,ty,p,a,ae⟩ T h=lM T h d g (match oh P.D t with
 |aa=>xN (bS T x)<|nz P.D t
 |ab=>aO (gm P.D t) λ_=>rZ h<|bS T x):=bL aM
theorem aqJ(t:Nat)(x:Operand):ec P c aN g ⟨d,.load t x,ty,p,a,ae⟩ T h=lM T h d g (aO (qe P.D t) λq=>aO (oT h<|bS T x) λp=>gg q p.1 p.2):=bL aM
def lq(T:Vg)(h:H)(d:Option Tmp)(g:Bool)(x:R<|VV×H):R (Vg×H):=aO (jG g x<|.ok (.undef,h)) λp=>.ok (dX T d p.1,p.2)
omit P c aN d g ty p a T h in
theorem D7(P:VT)(h:H)(e:Operand->VV)(op:Op){s:Nat}(B:P.km s=ab):te P h e op s=h_ P.D h e op s:=by unfold te;rw[B];rfl
omit P c aN d g ty p a T h in
theorem acm(P:VT)(h:H)(t u:Nat)(x y:VV){s:Nat}(B:P.km s=ab):An P h t u x y s=kR P.D h t u x y s:=by unfold An;rw[B];rfl
theorem aqu(t:Nat)(B:P.km (dk aN d)=ab):ec P c aN g ⟨d,.alloc t,ty,p,a,ae⟩ T h=lq T h d g (h_ P.D h (bS T) (.alloc t)<|dk aN d):=awp
theorem aqy(t:Nat)(x:Operand)(B:P.km (dk aN d)=ab):ec P c aN g ⟨d,.box t x,ty,p,a,ae⟩ T h=lq T h d g (h_ P.D h (bS T) (.box t x)<|dk aN d):=awp
theorem aqA(t n:Nat)(O:Array<|Nat×Operand)(B:P.km (dk aN d)=ab):ec P c aN g ⟨d,.buildSlice t n O,ty,p,a,ae⟩ T h=lq T h d g (h_ P.D h (bS T) (.buildSlice t n O)<|dk aN d):=awp
theorem aqT(t:Nat)(x y:Operand):ec P c aN g ⟨d,.store t x y,ty,p,a,ae⟩ T h=lq T h d g (aO (EK P.D h t (bS T x)<|bS T y) λh=>.ok (.undef,h)):=bL aM
theorem aqC(f:Operand)(Q:List Operand)(W:Array Nat):ec P c aN g ⟨d,.call ⟨.value f,Q.toArray,W⟩,ty,p,a,ae⟩ T h=lq T h d g (yD P c aN d (bS T f) (Q.map<|bS T) h):=bL aM
theorem aqv(t u:Nat)(x y:Operand)(B:P.km (dk aN d)=ab):ec P c aN g ⟨d,.call ⟨.builtin .append,#[x,y],#[t,u]⟩,ty,p,a,ae⟩ T h=lq T h d g (kR P.D h t u (bS T x) (bS T y)<|dk aN d):=by rw[<-acm P h t u _ _ B];exact bL aM
theorem an_(g:Bool)(x:R VV):lM T h d g x=aO (jG g x<|.ok .undef) λv=>.ok (dX T d v,h):=bL aM
theorem abJ(g:Bool)(x:R<|VV×H):lq T h d g x=aO (jG g x<|.ok (.undef,h)) λp=>.ok (dX T d p.1,p.2):=bL aM
end
section
variable(T:Vg)(h:H)
theorem aeU(i:Nat):bS T (.tmp i)=T i:=bL aM
theorem aeQ(f:Nat):bS T (.func f)=.func f [] []:=bL aM
theorem aeR(k:IntKind)(n:Int):bS T (.const<|.int k n)=.aN (.int k n):=bL aM
theorem aeP(b:Bool):bS T (.const<|.bool b)=bV b:=bL aM
theorem aeS:bS T (.const<|.slice ae 0 0)=.nil:=bL aM
theorem aeT(s:ByteArray):bS T (.const<|.string s)=.aN (.string s):=bL aM
theorem Bg(i:Nat):pX (.tmp i)=ab:=bL aM
theorem Bf(v:Value):pX (.const v)=aa:=bL aM
theorem HO(d:Nat)(v:VV):dX T (ad d) v d=v:=by simp[dX]
theorem HN{d i:Nat}{v:VV}(hn:i≠d):dX T (ad d) v i=T i:=by
 have:ag i d=ab:=by
  cases w:ag i d with
  |false=>rfl
  |true=>exact absurd (dB w) hn
 simp[dX,this]
theorem alA(v:VV):dX T ae v=T:=bL aM
theorem a_0(v:VV)(l:aC):gK (v::l) 0=v:=bL aM
theorem a_s(v:VV)(l:aC)(i:Nat):gK (v::l) (i+1)=gK l i:=by simp[gK]
variable(D:a_)
theorem alI(v:Value):hc (.aN v)=ad (.aN v):=bL aM
theorem acR(op:BinOp)(t:Nat)(k A:IntKind)(a b:Int)(c:Bool):ky D op t (.aN<|.int k a) (.aN<|.int A b) c=aO (hP op k A a b) k9:=bL aM
theorem acT(op:BinOp)(t:Nat)(a b:aF)(c:Bool):ky D op t (sV a) (sV b) c=aO (zK op a b) k9:=bL aM
theorem akW(k:IntKind)(n:Int):k9 (bY k n)=.ok (.aN<|.int k n):=bL aM
theorem akV(b:Bool):k9 (cO b)=.ok (bV b):=bL aM
theorem akX(l:aF):k9 (NR l)=.ok (sV l):=bL aM
theorem aqr(b:Bool):xN (bV b) (unOp .not)=.ok (bV<|!b):=bL aM
theorem aie(k:IntKind)(n:Int):Bi (.aN<|.int k n)=.ok n:=bL aM
theorem alE(b:Bool)(x y:VV):M' (bV b) x y=.ok (bif b then x else y):=avc
theorem atZ(b x:Bool):(bif b then bV aa else(bif !b then bV x else .undef))=bV (b||x):=avc
theorem afC(a:VV)(l:aC):yN (.bn<|a::l) 0=.ok a:=bL aM
theorem afD(a b:VV)(l:aC):yN (.bn<|a::b::l) 1=.ok b:=bL aM
theorem afE(a b c:VV)(l:aC):yN (.bn<|a::b::c::l) 2=.ok c:=bL aM
theorem afF(a b c d:VV)(l:aC):yN (.bn<|a::b::c::d::l) 3=.ok d:=bL aM
theorem ai6(es:aB):rZ h (.fz es)=.ok (iV<|aA es):=bL aM
theorem ai7:rZ h .nil=.ok (iV 0):=bL aM
theorem afN(cs:aC)(o off:Nat):xd h off (.bA cs o)=.ok (.bA cs<|o+off):=bL aM
theorem aeG(cs:aC)(o:Nat):oT h (.bA cs o)=.ok (cs,o):=bL aM
end
def aS(P:VT)(f:Nat)(Q:List VV)(r:VV):Prop:=∀a y,(vW P).z f Q a y=.ok (r,y)
def cW(P:VT)(a:cV):VC:={vW P with y:=a}
section
variable{P:VT}{a:cV}{aN:Nat}{d:Option Tmp}{h:H}{f:Nat}
def zP(P:VT)(a:cV)(h:H)(f:Nat)(p:List VV×List Nat):R (VV×H):=
 bif zm p.1 then aO ((vW P).z f p.1 vT h.y) λq=>.ok (q.1,⟨(bif wc q.1 then h else cp h p.2).o,q.2⟩)
  else aO ((vW P).z f p.1 a h.y) λq=>.ok (q.1,⟨(cp h p.2).o,q.2⟩)
def og(P:VT)(f:Nat):Bool:=P.inl f
theorem Ax(l cap args:aC):yD P (cW P a) aN d (.func f l cap) args h=bif og P f then(vW P).i f (aN*1000+d.getD 998+1) (l++args++cap) a h else aO (d_ (nt h)<|l++args++cap) (zP P a h f):=rfl
theorem af8:d_ (nt h) []=.ok ([],[]):=rfl
theorem af6(v:VV)(l:aC):d_ (nt h) (v::l)=aO (nt h v) λp=>aO (d_ (nt h) l) λq=>.ok (p.1::q.1,p.2++q.2):=rfl
theorem afM(v:Value):nt h (.aN v)=.ok (.aN v,[]):=rfl
theorem afO(es:aB):nt h (.fz es)=.ok (.fz es,[]):=rfl
theorem afP:nt h .nil=.ok (.fz [],[]):=rfl
theorem afR:nt h .yield=.ok (.yield,[]):=rfl
theorem aS.aP{Q:aC}{r:VV}(o:aS P f Q r)(hn:zm Q=aa:=by exact aM)(A:wc r=aa:=by exact aM)(a:cV)(h:H)(S:aK):zP P a h f (Q,S)=.ok (r,h):=by unfold zP;simp only[hn,o vT h.y,aO,a8,A]
theorem aS.bE{Q:aC}{r:VV}(G:aS P f Q r)(hn:zm Q=aa:=by exact aM)(A:wc r=ab:=by exact aM)(a:cV)(h:H)(S:aK):zP P a h f (Q,S)=.ok (r,cp h S):=by unfold zP;simp only[hn,G vT h.y,aO,a8,A,br];congr 2;show(⟨(cp h S).o,h.y⟩:H)=cp h S;rw[<-GG S h]
end
section
variable(h:H)(s s':Nat)(k:VK)
theorem jt:(h.new s k).o s=⟨(h.o s).ver+1,0,k⟩:=jx h s _
theorem dE(hn:s'≠s):(h.new s k).o s'=h.o s':=ic hn
theorem qL:(h.mod s k).o s=⟨(h.o s).ver,(h.o s).md+1,k⟩:=jx h s _
theorem gv(hn:s'≠s):(h.mod s k).o s'=h.o s':=ic hn
theorem TS(y:aB):(H.empty y).o s=⟨0,0,.none⟩:=rfl
theorem ahy:(h.new s k).y=h.y:=rfl
theorem ahx:(h.mod s k).y=h.y:=rfl
theorem aht:cp h []=h:=rfl
def Ay(x:VO)(ver:Nat):R (Bool×Bool×Nat×Nat×List (List VV)):=
 bif ag x.ver ver then
  match x.k with
  |.cells C fr e sz es=>.ok (C,fr,e,sz,es)
  |_=>.error ""
 else .error ""
theorem kJ(ver:Nat):gB h s ver=Ay (h.o s) ver:=rfl
theorem jb(ver md:Nat)(C fr:Bool)(e sz:Nat)(es:aB):Ay ⟨ver,md,.cells C fr e sz es⟩ ver=.ok (C,fr,e,sz,es):=by simp[Ay]
theorem ahr(ver i:Nat):qD h s ver i=aO (gB h s ver) λq=>ib q.2.2.2.2[i]?:=rfl
theorem ahs(off ver i o:Nat):xd h off (.aR s ver i o)=bif ag (h.o s).ver ver then .ok (.aR s ver i<|o+off)else .error "":=rfl
theorem ahq(ver i o:Nat):oT h (.aR s ver i o)=aO (qD h s ver i) λcs=>.ok (cs,o):=rfl
theorem ahz(ver md:Nat):(VO.mk ver md k).ver=ver:=rfl
theorem ahw(ver md:Nat):(VO.mk ver md k).md=md:=rfl
end
def dC(P:VT)(rs:List ResultVar)(x:R Vo):R (VV×List (List VV)):=aO (ki P rs x) λp=>aO (cq p.2 e8 p.1) λq=>.ok (q.1,p.2.y)
def fp(P:VT)(f n:Nat):Bool:=match P.D.func f with
 |ad fn=>match fn.body with
  |ad code=>nn P.D fn.ntmps (P.gk f) code&&ai n fn.ntmps&&hK P.D f&&!P.D.pure f&&(P.la f).isNone&&(P.fL f).isNone
  |ae=>ab
 |ae=>ab
theorem mQ{P:VT}{f:Nat}{fn:Func}{Q:aC}{r:VV}(j:P.D.func f=ad fn)(W:fp P f (aA Q)=aa)(h:∀a y,dC P fn.results.toList (cv P (cW P a) (P.h5 f) (P.gk f) (fn.body.getD .skip) (gK Q)<|.empty y)=.ok (r,y)):aS P f Q r:=by
 intro a y;refine Ca ?_;unfold fp at W;rw[j]at W
 cases w:fn.body with
 |none=>simp only[w]at W;cases W
 |some O=>
  simp only[w,bW]at W;have⟨⟨⟨⟨⟨B,M⟩,E⟩,V⟩,J⟩,U⟩:=W;have L:P.la f=ae:=by simpa using J
  have b:P.fL f=ae:=by simpa using U
  have h:=h a y;rw[w]at h;show(match P.la f with|some g=>_|none=>match P.fL f with|some Y=>_|none=>aO (jf P (cW P a) (P.h5 f) f Q<|.empty y) _)=_;rw[L];simp only;rw[b];show aO (jf P (cW P a) (P.h5 f) f Q<|.empty y) _=_;unfold jf;rw[j];simp only[w,B,M,E,V,iJ,a8];exact h
theorem GP{P:VT}{f:Nat}{fn:Func}{Q:aC}{r:VV}(j:P.D.func f=ad fn)(W:fp P f (aA Q)=aa)(h:∀a y,dC P fn.results.toList (cv P (cW P a) 0 (P.gk f) (fn.body.getD .skip) (gK Q)<|.empty y)=.ok (r,y))(h0:P.h5 f=0:=by rfl):aS P f Q r:=mQ j W<|by rw[h0];exact h
theorem ae9(P:VT)(rs:List ResultVar)(T:Vg)(h:H):dC P rs (.ok<|.bI T h)=aO (lK P h T rs) λvs=>aO (cq h e8<|pc vs) λq=>.ok (q.1,h.y):=awk
theorem ae_(P:VT)(rs:List ResultVar)(T:Vg)(h:H):dC P rs (.ok<|.ret T h)=aO (lK P h T rs) λvs=>aO (cq h e8<|pc vs) λq=>.ok (q.1,h.y):=awk
theorem ae8(P:VT)(rs:List ResultVar)(b:Bool)(x y:R Vo):dC P rs (bif b then x else y)=bif b then dC P rs x else dC P rs y:=avc
theorem amd(P:VT)(h:H)(T:Vg)(t:Nat)(l:List ResultVar):lK P h T (.tmp t::l)=bif et (T t)then aO (lK P h T l) λr=>.ok (T t::r)else .error "":=bL aM
theorem amc(P:VT)(h:H)(T:Vg):lK P h T []=.ok []:=bL aM
theorem akx(v:Value):et (.aN v)=aa:=bL aM
theorem aky(es:aB):et (.fz es)=aa:=bL aM
theorem ale(v:VV):pc [v]=v:=bL aM
theorem alf(v w:VV)(l:aC):pc (v::w::l)=.bn (v::w::l):=bL aM
theorem agM(h:H)(n:Nat)(v:Value):cq h (n+1) (.aN v)=.ok (.aN v,[]):=bL aM
theorem agK(h:H)(v:Value):cq h e8 (.aN v)=.ok (.aN v,[]):=bL aM
theorem aeZ(y:aB):(H.empty y).y=y:=bL aM
theorem ajv{step:Vg->H->R Vo}{T T':Vg}{h h':H}{o:Vo}(e:step T h=.ok (.bI T' h'))(k:nA step T' h'=.ok o):nA step T h=.ok o:=by have⟨n,r⟩:=Hp k;refine Ho (n:=n+1) ?_;unfold mg;rw[e];exact r
theorem VD{step:Vg->H->R Vo}{T:Vg}{h:H}{o:Vo}(e:step T h=.ok o)(hn:∀T' h',o≠.bI T' h'):nA step T h=.ok o:=by refine Ho (n:=1) ?_;unfold mg;exact at6
theorem VB{step:Vg->H->R Vo}(Inv:Nat->Vg->H->Prop)(Q:Vo->Prop)(B:∀n T h,Inv n T h->∃o,step T h=.ok o/\ match o with
 |.bI T' h'=>∃m,m<n/\ Inv m T' h'
 |o=>Q o):∀n {T:Vg} {h:H},Inv n T h->∃o,nA step T h=.ok o/\ Q o:=by
 intro n
 induction n using Nat.strongRecOn with
 |_ n G=>
  intro T h w;have⟨o,e,q⟩:=B n T h w
  cases o with
  |bI T' h'=>have⟨m,Y,C⟩:=q;have⟨o,O,W⟩:=G m Y C;exact⟨o,ajv e O,W⟩
  |exit i T' h'=>exact⟨_,VD e (λ_ _ h=>by cases h),q⟩
  |ret T' h'=>exact⟨_,VD e (λ_ _ h=>by cases h),q⟩
theorem ag_(a b:Int):(a>=b)=(b<=a):=rfl
theorem aho(a b:Int):(a>b)=(b<a):=rfl
def hd:=af @aeF<|af @aeC<|af @aey<|af @aeE<|af @aew<|af @aev<|af @aeD<|af @aez<|af @aeB<|af @aex<|af @acb<|af @acd<|af @aca<|af @ac_<|af @ada<|af @ac9<|af @aeb<|af @ab_<|af @ac8<|af @aqX<|af @al5<|af @al3<|af @al4<|af @g_0<|af @g_s<|af @ag3<|af @ag5<|af @ag4<|af @ag7<|af @ag6<|@ahY
def hg:=af @as1<|af @asZ<|af @as0<|af @rU<|af @Up<|af @ah0<|af @ahZ<|af @an_<|af @abJ<|af @aqR<|af @aqw<|af @aqS<|af @aqx<|af @aqU<|af @aqF<|af @aqG<|af @aqE<|af @aqz<|af @aqI<|af @aqJ<|af @aqu<|af @aqy<|af @aqA<|af @aqT<|af @aqC<|af @aqv<|af @nU<|af @aea<|af @AK<|af @aeU<|af @aeQ<|@aeR
def gS:=af @aeP<|af @aeS<|af @aeT<|af @Bg<|af @Bf<|af @HO<|af @HN<|af @alA<|af @a_0<|af @a_s<|af @alI<|af @acR<|af @acT<|af @akW<|af @akV<|af @akX<|af @aqr<|af @aie<|af @alE<|af @afC<|af @afD<|af @afE<|af @afF<|af @ai6<|af @ai7<|af @afN<|af @aeG<|@ae9
def hh:=af @ae_<|af @ae8<|af @amd<|af @amc<|af @akx<|af @aky<|af @ale<|af @alf<|af @agM<|af @agK<|af @aeZ<|af @aii<|af @air<|af @aio<|af @aij<|af @aip<|af @ain<|af @aim<|af @ail<|af @aik<|af @apu<|af @apv<|af @ag_<|@aho
def ew(x:R Vo)(Q:Vo->Prop):Prop:=∃o,x=.ok o/\ Q o
theorem ak7(o:Vo)(Q:Vo->Prop):ew (.ok o) Q=Q o:=propext ⟨λ⟨_,e,h⟩=>by cases e;exact h,λh=>⟨_,aM,h⟩⟩
theorem ak5(b:Bool)(x y:R Vo)(Q:Vo->Prop):ew (bif b then x else y) Q=((b=aa->ew x Q)/\ (b=ab->ew y Q)):=by cases b<;>simp[cond]
def Lq{α:Type}(I:Vg->H->Prop)(F:R Vo->R α)(X:R α):Vo->Prop
 |.bI T h=>I T h
 |o=>F (.ok o)=X
section
variable{α:Type}(I:Vg->H->Prop)(F:R Vo->R α)(X:R α)(T:Vg)(h:H)
theorem ajx:Lq I F X (.bI T h)=I T h:=rfl
theorem ajw(i:Nat):Lq I F X (.exit i T h)=(F (.ok<|.exit i T h)=X):=rfl
theorem ajy:Lq I F X (.ret T h)=(F (.ok<|.ret T h)=X):=rfl
end
theorem Bx{α:Type}{F:R Vo->R α}{X:R α}{step:Vg->H->R Vo}{I:Nat->Vg->H->Prop}(B:∀n T h,I n T h->ew (step T h) (Lq (λT h=>∃m,m<n/\ I m T h) F X)):∀n {T:Vg} {h:H},I n T h->F (nA step T h)=X:=by
 intro n T h w
 have⟨o,e,q⟩:=VB (step:=step) I (λo=>F (.ok o)=X) (λn T h w=>by
  have⟨o,e,q⟩:=B n T h w
  exact⟨o,e,by cases o<;>exact q⟩) n w
 rw[e];exact q
theorem vS{α:Type}{F:R Vo->R α}{X:R α}{step:Vg->H->R Vo}{T:Vg}{h:H}(N:Nat)(I:Nat->Vg->H->Prop)(h0:I 0 T h)(B:∀i T h,i<N->I i T h->ew (step T h) (Lq (I<|i+1) F X))(J:∀T h,I N T h->ew (step T h) (Lq (λ_ _=>False) F X)):F (nA step T h)=X:=by
 refine Bx (I:=λn T h=>∃i,i<=N/\ n=N-i/\ I i T h) (λn T h ⟨i,A,r,w⟩=>?_) N ⟨0,kQ _,aM,h0⟩;by_cases G:i<N;have⟨o,e,q⟩:=B i T h G w;refine⟨o,e,?_⟩
 cases o with
 |bI Y C=>exact⟨N-(i+1),aW,i+1,G,rfl,q⟩
 |exit _ _ _=>exact q
 |ret _ _=>exact q
 grind
theorem d'(n:Int)(h1:-9223372036854775808<=n)(j:n<9223372036854775808):av .i64 n=n:=by
 show(if(IntKind.i64.signed&&ax (n %18446744073709551616>=9223372036854775808))=aa then n %18446744073709551616-18446744073709551616 else n %18446744073709551616)=n;by_cases h:0<=n
 grind
 have e:n %18446744073709551616=n+18446744073709551616:=aW;rw[e];have W:9223372036854775808<=n+18446744073709551616:=aW;simp only[ge_iff_le,W,vl,uO,IntKind.signed,dj];omega
theorem als(l:aH):vZ [] l=l:=rfl
theorem alr(i:Nat)(j:aK)(l:aH):vZ (i::j) l=(i::j).filterMap λi=>l[i]?:=rfl
theorem aiz(x y:R Vo):(if True then x else y)=x:=b8 trivial
theorem db{α:Type}{h:H}{s:Nat}(f:α->aC)(l:List α)(i:Nat)(G:i<aA l):cF h (ae,s) (.fz<|l.map f) (i:Int)=bif ag (aA<|f l[i]) s then .ok (.bA (f l[i]) 0)else .error "":=by
 have V:(l.map f)[i]?=ad (f l[i]):=by simp[G]
 simp[cF,V]
theorem aj7(n:Nat):ag n n=aa:=gX n
theorem ai4:aA ([]:aC)=0:=rfl
theorem ai9(v:VV)(l:aC):aA (v::l)=aA l+1:=rfl
section
variable(D:a_)(x y z:Operand)(t u:Nat)
theorem amz:gP D (.move x)=ab:=rfl
theorem aml:gP D (.assign x)=ab:=rfl
theorem amB:gP D (.pick x y z)=ab:=rfl
theorem amm(o:BinOp):gP D (.binOp o t x y u)=ab:=rfl
theorem amE(o:UnOp):gP D (.unOp o t x)=ab:=rfl
theorem amt(f:Nat):gP D (.fieldAddr t x f)=ab:=rfl
theorem amv:gP D (.indexAddr t x y)=ab:=rfl
theorem ams(i:Nat):gP D (.extract x i)=ab:=rfl
theorem amo(O:Array<|Nat×Operand):gP D (.build t O)=ab:=rfl
theorem amp(n:Nat)(O:Array<|Nat×Operand):gP D (.buildSlice t n O)=ab:=rfl
theorem amw(Q:Array Operand)(W:Array Nat):gP D (.call ⟨.builtin .len,Q,W⟩)=ab:=rfl
theorem amk(Q:Array Operand)(W:Array Nat):gP D (.call ⟨.builtin .append,Q,W⟩)=ab:=rfl
theorem amu(f:Operand)(Q:Array Operand)(W:Array Nat):gP D (.call ⟨.value f,Q,W⟩)=ab:=rfl
theorem amj:gP D (.alloc t)=ab:=rfl
theorem amn:gP D (.box t x)=ab:=rfl
theorem amD:gP D (.store t x y)=ab:=rfl
theorem amx:gP D (.load t x)=aa:=rfl
theorem ame(T:Vg):xS T (.load t x)=bS T x:=rfl
theorem aoG(h0 h:H)(cs:aC)(o:Nat):q8 h0 h (.bA cs o)=aa:=rfl
theorem aoH(h0 h:H)(s v i o:Nat):q8 h0 h (.aR s v i o)=(ag (h0.o s).ver (h.o s).ver&&ag (h0.o s).md (h.o s).md):=rfl
theorem ako(b:Bool):(!ab||b)=aa:=rfl
theorem akK(b:Bool):(!aa||b)=b:=rfl
end
theorem aiV(v:VV)(l:aC):gg ae (v::l) 0=bif et v then .ok v else .error "":=rfl
theorem aiX(v:VV)(l:aC)(o:Nat):gg ae (v::l) (o+1)=gg ae l o:=by simp[gg]
theorem a6{i n:Nat}(G:i<n):ax ((i:Int)<(n:Int))=aa:=by simp[G]
theorem ee(n:Nat):ax ((n:Int)<(n:Int))=ab:=aY
theorem bd(i:Nat)(h:i<9223372036854775807):av .i64 ((i:Int)+1)=((i+1:Nat):Int):=d' _ aW aW
theorem akD:(aa=ab)=False:=aY
theorem ah3(p:Prop):(False->p)=True:=aY
theorem ah4(p:Prop):(True->p)=p:=aY
theorem ff_:(ab=ab)=True:=aY
theorem ace(p:Prop):(p/\ True)=p:=aY
theorem ap1(p:Prop):(True/\ p)=p:=aY
def hq:=af @aj7<|af @ai4<|af @ai9<|af @amz<|af @aml<|af @amB<|af @amm<|af @amE<|af @amt<|af @amv<|af @ams<|af @amo<|af @amp<|af @amw<|af @amk<|af @amu<|af @amj<|af @amn<|af @amD<|af @amx<|af @ame<|af @aoG<|af @aoH<|af @ako<|@akK
def gT:=af @als<|af @alr<|af @aiz<|af @db<|af @aiV<|af @aiX<|af @ee<|af @akD<|af @ah3<|af @ah4<|af @ff_<|af @ace<|@ap1
section
variable(D:a_)(h:H)(e:Operand->VV)(x y:Operand)(t u s:Nat)(cs l:List VV)(v:VV)
theorem ab4:h_ D h e (.box t x) s=aO (jn<|e x) λcs=>aO (size D t) λn=>bif ag (aA cs) n&&ah 0 n then .ok (.aR s ((h.o s).ver+1) 0 0,h.new s<|.cells aa ab t n [cs])else .error "":=rfl
theorem ab1:h_ D h e (.alloc t) s=aO (zeroCells D t) λz=>aO (size D t) λn=>.ok (.aR s ((h.o s).ver+1) 0 0,h.new s<|.cells aa ab t n [z]):=rfl
theorem aek:jn (.agg cs)=.ok cs:=rfl
theorem ael(v:Value):jn (.aN v)=.ok [.aN v]:=rfl
theorem aep(es:aB):jn (.fz es)=.ok [.fz es]:=rfl
theorem aer:jn .nil=.ok [.nil]:=rfl
theorem aoe(d:Nat):dk 0 (ad d)=d:=by simp[dk]
theorem aqd:(aa&&aa)=aa:=rfl
theorem aka(n:Nat):ah 0 (n+1)=aa:=by simp[ah]
theorem aiW(n o:Nat):gg (ad n) cs o=bif ai (o+n) (aA cs)then .ok (.agg<|(cs.drop o).take n)else .error "":=rfl
theorem aeL:cs.drop 0=cs:=rfl
theorem aeM(n:Nat):(v::l).drop (n+1)=l.drop n:=rfl
theorem ap_:cs.take 0=[]:=aY
theorem aqc(n:Nat):(v::l).take (n+1)=v::l.take n:=rfl
theorem aeX(c:aC)(es:aB):ib ((c::es)[0]?)=.ok c:=rfl
theorem aj8(n:Nat):ai 0 n=aa:=aY
theorem aj_(m n:Nat):ai (m+1) (n+1)=ai m n:=rfl
end
def ht:=af @aqd<|af @ab4<|af @ab1<|af @aek<|af @ael<|af @aep<|af @aer<|af @aoe<|af @aka<|af @aiW<|af @aeL<|af @aeM<|af @ap_<|af @aqc<|af @aeX<|af @aj8<|@aj_
section
variable(T:Vg)(x:Operand)(l:List Operand)(v:VV)(vs ws:List VV)(S:List Nat)(n m:Nat)
theorem ajV:(x::l).map (bS T)=bS T x::l.map (bS T):=rfl
theorem ajW:([]:List Operand).map (bS T)=[]:=rfl
theorem acn:[]++vs=vs:=rfl
theorem acj:(v::vs)++ws=v::(vs++ws):=rfl
theorem ack:vs++[]=vs:=ea vs
theorem aou:[]++S=S:=rfl
theorem aos:(n::S)++[m]=n::(S++[m]):=rfl
theorem aot:S++[]=S:=ea S
end
def hy:=af @ajV<|af @ajW<|af @acn<|af @acj<|af @ack<|af @aou<|af @aos<|@aot
def hp:=af @ak7<|af @ak5<|af @ajx<|af @ajw<|af @ajy<|af @Ax<|af @af8<|af @af6<|af @afM<|af @afO<|af @afP<|af @afR<|af @jt<|af @dE<|af @qL<|af @gv<|af @TS<|af @ahy<|af @ahx<|af @aht<|af @kJ<|af @jb<|af @ahr<|af @ahs<|af @ahq<|af @ahz<|@ahw
section
variable{σ σ':St}{F:Nat->Prop}{L:Nat}(hn:σ.n<=σ'.n)(hF:∀b,b<σ.n->F b->b<σ'.n/\ ∀l e ow sz,σ.a7 b=.cells l e ow sz->∃ow',σ'.a7 b=.cells l e ow' sz)
include hn hF
theorem iS.gq:∀{a:AV},iS σ F a->iS σ' F a
 |.aN v,h=>by
  unfold iS at h|-
  grind
 |.slice b o j I sz,h=>by have⟨Q,V,p,l,e,ow,s,d⟩:=h;have⟨C,w⟩:=hF b V p;have⟨ow',D⟩:=w _ _ _ _ d;exact⟨Q,C,p,l,e,ow',s,D⟩
 |.ik _ _ _ _,h=>dc h hn
 |.aR _ _,h=>h.elim
 |.cz _,h=>h.elim
 |.func _ _ _,h=>h.elim
 |.yield _,h=>h.elim
 |.iface _ _,h=>h.elim
 |.agg _,h=>h.elim
 |.tuple _,h=>h.elim
mutual
theorem RR.gq{loc loc':VV->AV->Prop}(P:∀v a,loc v a->loc' v a):∀(v:VV) (a:AV),RR σ F L loc v a->RR σ' F L loc' v a
 |.aN v,a,h=>auL
 |.nil,a,h=>at7
 |.fz t,a,h=>by
  simp only[RR]at h|-
  rcases h with⟨V,j⟩|⟨b,o,D,I,sz,l,e,ow,A,N,V,j,d,n,M,Y,c,Q,B⟩
  exact .inl ⟨V,j.gq hn hF⟩;have⟨C,w⟩:=hF b d j;have⟨ow',S⟩:=w _ _ _ _ n;exact .inr ⟨b,o,D,I,sz,l,e,ow',A,N,V,j,C,S,M,Y,c,Q,RE.gq (λ_ _ h=>h) sz t N B⟩
 |.bh s u o D,a,h=>at7
 |.aR s u i o,a,h=>at7
 |.bA O o,a,h=>by simp only[RR]at h|-;have⟨b,k,l,e,ow,sz,V,j,d,n,M,Y,c⟩:=h;have⟨C,w⟩:=hF b d j;have⟨ow',S⟩:=w _ _ _ _ n;exact⟨b,k,l,e,ow',sz,V,j,C,S,M,Y,RL.gq (λ_ _ h=>h) O _ c⟩
 |.agg O,a,h=>avI
 |.bn O,a,h=>avI
 |.func f p q,a,h=>by simp only[RR]at h|-;have⟨l,r,V,x,j,d⟩:=h;exact⟨l,r,V,x,RL.gq P p l j,RL.gq P q r d⟩
 |.cz s u,a,h=>at7
 |.yield,a,h=>awo
 |.undef,a,h=>at7
 |.kT,a,h=>at7
 |.emp sz,a,h=>by
  simp only[RR]at h|-
  grind
theorem RL.gq{loc loc':VV->AV->Prop}(P:∀v a,loc v a->loc' v a):∀(q:aC) (l:aD),RL σ F L loc q l->RL σ' F L loc' q l
 |[],l,h=>aw6
 |v::q,l,h=>by simp only[RL]at h|-;have⟨a,r,V,p,d⟩:=h;exact⟨a,r,V,RR.gq P v a p,RL.gq P q r d⟩
theorem RE.gq{loc loc':VV->AV->Prop}(P:∀v a,loc v a->loc' v a)(sz:Nat):∀(es:aB) (l:aD),RE σ F L loc sz es l->RE σ' F L loc' sz es l
 |[],l,h=>by simpa only[RE]using h
 |cs::es,l,h=>by simp only[RE]at h|-;have⟨p,r,V,j,d,A,M,Y⟩:=h;exact⟨p,r,V,j,d,A,RL.gq P cs p M,RE.gq P sz es r Y⟩
end
end
def AU(agg:Bool)(c:List VV):VV:=if agg then .agg c else c.headD .undef
def n'(es:List<|List VV)(i:Nat):List VV:=es.getD (if i<aA es then i else 0) []
def C_(o:VT)(d:Bool)(g:Nat)(s:List VV)(es:List<|List VV)(N:Nat->Nat->Int):Prop:=(∀i j,aS o g (AU d (n' es i)::AU d (n' es j)::s)<|.aN<|.int .i64<|N i j)/\ Go.Sort.SWO (λx y=>decide (N x y<0))
open Classical in
def qg(o:VT)(d:Bool)(k:Nat)(xs:List VV)(h:H):R (VV×H):=
 match xs with
 |[.nil,.func _ [] _]=>.ok (.bn [],h)
 |[.bh s ver 0 j,.func g [] T]=>
  aO (gB h s ver) λq=>aO (d_ (cq h e8) T) λp=>
   if c:(q.1=ab/\ q.2.1=ab/\ q.2.2.2.1=k/\ j=aA q.2.2.2.2/\ 0<j/\ j<2^62/\ s∉p.2)/\ ∃N,C_ o d g p.1 q.2.2.2.2 N then
    .ok (.bn [],h.mod s<|.cells ab ab q.2.2.1 k<|(j_ j c.2.choose).map<|n' q.2.2.2.2)
   else .error ""
 |_=>.error ""
section
variable{E:cI}{X Z:Nat->Prop}{m:Nat->Nat}{h:H}{σ:St}
theorem afa{J:a_}{g:Nat}(h:hK J g=aa):yK J g=aa:=by
 have a:=Ki h [];unfold sM at a;unfold yK
 grind
def afd(D:a_):cI where
 D:=D
 n0:=0
 L:=0
 iN:=vT
 dO:=λ_ _ _ _=>True
 jN:=λ_ _ _ _ _ _ _ _ _ _ _ _=>trivial
 tC:=λ_ _ _ _ _ _ _ _ _ _ _ _ h=>by cases h
theorem F9{F:aE}{L sz:Nat}{es:aB}{l:aD}(r:RE σ F L (λ_ _=>False) sz es l)(h0:0<aA es)(i:Nat):
 aA (n' es i)=sz/\ aA (gM sz l (aA es) i)=sz/\ RL σ F L (λ_ _=>False) (n' es i) (gM sz l (aA es) i)/\ (gM sz l (aA es) i).all cT=aa:=by
 unfold n' gM;have G:(if i<aA es then i else 0)<aA es:=by split<;>omega
 generalize(if i<aA es then i else 0)=j at G;have o:es[j]?=ad es[j]:=cx G;have⟨V,a,d,A⟩:=RE.get r o
 grind
theorem WZ{F:aE}{L sz:Nat}{es:aB}{l:aD}(r:RE σ F L (λ_ _=>False) sz es l)(h0:0<aA es):∀T:aK,
 RE σ F L (λ_ _=>False) sz (T.map<|n' es)<|T.flatMap<|gM sz l<|aA es
 |[]=>by simp only[i_,Fs];exact RE.jd
 |i::T=>by have⟨V,a,d,A⟩:=F9 r h0 i;rw[cL,kP];exact RE.gb a V A d<|WZ r h0 T
theorem R7{F:aE}{L:Nat}{d:Bool}{c:aC}{l:aD}(h1:d=ab->aA c=1)(x:RL σ F L (λ_ _=>False) c l)(B:l.all cT=aa):RR σ F L LU (AU d c) (tS d l):=by
 unfold AU tS
 cases d with
 |true=>simp only[dj,RR];exact⟨l,aM,B,RL.mono (bu _) (λb P j=>⟨j,P,aM⟩) (λ_ _ h=>h.elim) _ _ x⟩
 |false=>
  simp only[fR,ff]
  match c,h1 rfl with
  |[v],_=>simp only[RL]at x;obtain⟨a,r,rfl,p,rfl⟩:=x;exact RR.mono (bu _) (λb P j=>⟨j,P,aM⟩) (λ_ _ h=>h.elim) _ _ p
theorem aga(J:H)(S:aK)(b:Nat)(j:cX X Z m J σ b):cX X Z m (cp J S) σ b:=by
 refine⟨j.1,j.2.1,j.2.2.1,λs B=>j.2.2.2 s ?_⟩;rw[A7]at B;revert B
 cases(J.o s).k with
 |cells C P e sz t=>cases P<;>simp[VK.hV]
 |map l=>simp
 |none=>simp
theorem HS{n:Nat}{N:Nat->Nat->Int}(o:Go.Sort.SWO<|λx y=>decide (N x y<0)):aA (j_ n N)=n:=by unfold j_;rw[Fg,MZ _ o]
theorem Zd{P C:VT}(c:yt C)(T:yl C){d:Bool}{k f:Nat}(B:d=ab->k=1)(f0:C.D.gx=P.D.gx)(g0:C.D.vy=[])(h0:P.D.pure f=aa)(D0:P.D.tn f=ad (xL C.D d k))(i0:hK P.D f=aa)
 {xs:aC}{h:H}{r:VV}{h':H}(x:qg C d k xs h=.ok (r,h')):hK P.D f=aa/\ ∀(E:cI) (X Z:aE) (m:Nat->Nat) (σ:St) (args:aD),E.D=P.D->SR E X Z m h σ->fl E X Z m h σ xs args->
   ∃a σ' X' m',dw P.D f args σ=.ok (.ret a,σ')/\ SR E X' Z m' h' σ'/\ Ex X Z m h σ X' Z m' h' σ'/\ RV E X' Z m' h' σ' r a:=by
 refine⟨i0,λE X Z m σ args E0 S d0=>?_⟩;have I:∀{v:AV} {σ':St},xL C.D d k args σ=.ok (v,σ')->dw P.D f args σ=.ok (.ret v,σ'):=λ{v σ'} M=>by refine tO.2 ⟨1,?_⟩;show lr P.D (cg P.D 0) f args σ=_;unfold lr;rw[b8 h0,D0];simp only[M];rfl
 unfold qg at x;split at x;rename_i g z0;cases x;simp only[fl,RL,RR]at d0;obtain⟨a,r,rfl,J,a2,r2,rfl,⟨l1,l2,rfl,_,j0,_⟩,rfl⟩:=d0;subst j0;have J:a=.aN (.slice ae 0 0):=J;subst J;refine⟨_,_,X,m,I (v:=.tuple []) (σ':=σ) aM,S,Ex.refl _ _ _ _ _ λs F0=>(S.ct s F0).2.1,?_⟩;simp only[RR,RL];exact at6;rename_i s k0 G0 g z0;simp only[bF]at x;obtain⟨q,M,p,H0,x⟩:=x;split at x;rename_i I0;cases x;obtain⟨⟨c1,c2,rfl,rfl,u,c6,c7⟩,D⟩:=I0;generalize z:D.choose=N;have W:=D.choose_spec;rw[z]at W;clear D z;obtain⟨U,e0⟩:=W;obtain⟨e1,O⟩:=nX M;obtain⟨N0,O0,e,sz,t⟩:=q;simp only at c1 c2 u c6 c7 O U e0|-;subst c1 c2;have A0:(h.o s).k.hV=aa:=by rw[O];rfl
 obtain⟨l1,l2,l3,l4,l5⟩:=S.ct s<|VK.rh A0;rw[O]at l5;obtain⟨V,ow,o1,o2,o3,A⟩:=l5;have o2:=o2 aM;subst o2;simp only[fR,ff]at A;simp only[fl,RL,RR]at d0;obtain⟨a,r,rfl,J,a2,r2,rfl,⟨Q0,y,rfl,_,l0,m0⟩,rfl⟩:=d0;subst l0;have J:LC σ.n m h (.bh s k0 0<|aA t) a:=J;simp only[LC]at J
 rcases J with⟨B0,_⟩|⟨_,J0,K0,R0,L0,M0,g1,g2,g3⟩
 omega;rw[O]at g1
 injection g1 with n0 o0 p0 q0 r0
 subst n0 o0 p0 q0 r0
 rcases g3 with⟨C0,_⟩|⟨s0,rfl,_⟩
 omega;have a0:aA V=aA t*sz:=RE.len A;have t0:=sQ S (S':=p.2) e8 z0 p.1 p.2 y H0 (λ_ h=>h) m0;have u0:¬cX X Z m (cp h p.2) σ (m s):=λw=>w.2.2.2 s (by rw[A7,O];simp[VK.hV,c7]) aM
 have Y:∀b,b<σ.n->cX X Z m (cp h p.2) σ b->b<(Go.Dt.gq σ<|m s).n/\ ∀l e ow sz,σ.a7 b=.cells l e ow sz->∃ow',(Go.Dt.gq σ<|m s).a7 b=.cells l e ow' sz:=λb v0 w=>⟨v0,λl e ow sz M=>by
  refine⟨ab,?_⟩;rw[GO S.wf l2,cG<|λe=>u0<|by rw[<-e];exact w,M]
  rfl⟩
 have w0:RL (Go.Dt.gq σ<|m s) (cX X Z m (cp h p.2) σ) 0 LU p.1 y:=RL.gq (σ:=σ) (σ':=Go.Dt.gq σ<|m s) (bu _) Y (λ_ _ h=>h.elim) _ _<|RL.nT (σ:=σ) _ _ t0;have b0:RE (Go.Dt.gq σ<|m s) (cX X Z m (cp h p.2) σ) 0 (λ_ _=>False) sz t V:=RE.gq (σ:=σ) (σ':=Go.Dt.gq σ<|m s) (bu _) Y (λ_ _ h=>h) _ _ _<|RE.nT _ _ _<|RE.mono (bu _) (λb v0 w=>⟨aga h p.2 b w,v0,aM⟩) (λ_ _ h=>h) _ _ _ A;have G:Kt C.D d sz g y (Go.Dt.gq σ<|m s) (V.drop<|0*sz) (aA t) N:=by
  refine⟨λi j=>?_,e0⟩;rw[kb,e6];have C0:=U i j vT [];obtain⟨_,W⟩:=(EV c T).1 _ _ _ _ _ _ C0;obtain⟨x1,x2,x3,x4⟩:=F9 b0 u i;obtain⟨y1,y2,y3,y4⟩:=F9 b0 u j;obtain⟨a,σ',X',k1,k2,k3,k4⟩:=W (afd C.D) (λ_=>False) (λ_=>False) (cX X Z m (cp h p.2) σ) (Go.Dt.gq σ<|m s) _ aM aM trivial (by simp[Go.Dt.gq,wV,St.set,S.wf]) (kQ _) (by rw[f0,<-E0];exact S.ng) (λ_ h=>h.elim) (λ_ h=>h.elim)
   (λb w=>⟨w.1,λh=>h⟩) (λx0=>absurd g0 x0) (RL.gb (R7 (λh=>by rw[x1];exact B h) x3 x4)<|RL.gb (R7 (λh=>by rw[y1];exact B h) y3 y4) w0)
  simp only[RR]at k4;exact at6
 have c0:yK C.D g=aa:=by obtain⟨h1,_⟩:=(EV c T).1 _ _ _ _ _ _ (U 0 0 vT []);exact afa h1
 have Q:(m s<σ.n/\ sz=sz/\ 0<aA t/\ aA t<2^62/\ 0*sz+aA t*sz<=aA V/\ ((V.drop<|0*sz).take<|aA t*sz).all AV.dN=aa/\ yK C.D g=aa)/\ ∃N,Kt C.D d sz g y (Go.Dt.gq σ<|m s) (V.drop<|0*sz) (aA t) N:=by refine⟨⟨l2,aM,u,c6,aW,?_,c0⟩,N,G⟩;rw[kt];intro v B0;exact MM<|kt.1 (RE.all A) v<|wC<|z_ B0
 have M:xL C.D d sz [.slice (m s) (0*sz) (aA t) s0 sz,.func (.func g) [] y] σ=.ok (.tuple [],σ.set (m s)<|.cells ((j_ (aA t) N).flatMap<|gM sz V<|aA t) e aa sz):=by
  unfold xL;simp only[o1];rw[w_ Q];have y0:Q.2.choose=N:=by funext i j;obtain⟨s1,q1⟩:=Q.2.choose_spec.1 i j;obtain⟨s2,q2⟩:=G.1 i j;exact at6
  rw[y0,kb,e6,Zi];rw[Dm<|λi=>(F9 A u i).2.1,a0,HS e0]
 obtain⟨w1,w2⟩:=S.E7 (k:=.cells ab ab e sz<|(j_ (aA t) N).map<|n' t) (o:=.cells ((j_ (aA t) N).flatMap<|gM sz V<|aA t) e aa sz) A0
  ⟨_,aa,aM,λ_=>rfl,o3,by simp only[fR,ff];exact WZ A u _⟩ (by
    rw[O]
    exact⟨aM,aM,aM,by rw[bj,HS e0]⟩) aM
 refine⟨_,_,X,m,I M,w1,w2,?_⟩;simp only[RR,RL];exact at6;cases x;cases x
end
def Bm:List (AV×VV)->Option (List Int)
 |[]=>ad []
 |e::es=>match Bl e.1,Bm es with
  |ad k,ad W=>ad<|k::W
  |_,_=>ae
def CX(W:List Int):List (List VV):=W.map λk=>[.aN<|.int .i64 k]
def Bn(g e Q:Nat)(xs:List VV)(h:H):R (VV×H):=
 match xs with
 |[.func f [] [.aR s ver 0 0]]=>
  bif ag f g then aO (gB h s ver) λq=>
   match q.2.2.2.2 with
   |[[.cz s2 x]]=>aO (o7 h<|.cz s2 x) λl=>
    match Bm l with
    |ad k=>if k.Nodup/\ aA l<=2^30/\ q.1=aa/\ q.2.1=ab then
      match hS k with
      |[]=>.ok (.nil,h)
      |_=>.ok (.bh (dk Q ae) ((h.o<|dk Q ae).ver+1) 0<|aA<|hS k,h.new (dk Q ae)<|.cells ab ab e 1<|CX<|hS k)
     else .error ""
    |ae=>.error ""
   |_=>.error ""
  else .error ""
 |_=>.error ""
section
variable{E:cI}{X Z:Nat->Prop}{m:Nat->Nat}{h:H}{σ:St}
def UW:∀{l:List (AV×VV)} {es:List (AV×AV×Nat)},MR l es->Bm l=za es/\ aA l=aA es
 |[],es,Y=>by simp only[MR]at Y;subst Y;exact at1
 |(k,v)::l,es,Y=>by simp only[MR]at Y;obtain⟨w,c,r,rfl,_,_,_,A⟩:=Y;have⟨g,C⟩:=UW A;exact⟨by simp only[Bm,za,g];rfl,by simp[C]⟩
def Q9{F:aE}{L:Nat}:∀W:aL,RE σ F L (λ_ _=>False) 1 (CX W)<|W.map λk=>.aN<|.int .i64 k
 |[]=>RE.jd
 |k::W=>RE.gb (p:=[.aN<|.int .i64 k]) aM aM (by simp[cT,AV.dN,cU,kx]) (RL.one<|by simp only[RR];exact⟨trivial,aM,aM⟩)<|Q9 W
def aiQ{P:VT}{f g e:Nat}(M:P.D.pure f=aa)(b0:P.D.tn f=ad (xK g e))(u:hK P.D f=aa)
 {aN:Nat}{xs:aC}{h:H}{r:VV}{h':H}(x:Bn g e aN xs h=.ok (r,h')):hK P.D f=aa/\ ∀(E:cI) (X Z:aE) (m:Nat->Nat) (σ:St) (args:aD),E.D=P.D->SR E X Z m h σ->fl E X Z m h σ xs args->
   ∃a σ' X' m',dw P.D f args σ=.ok (.ret a,σ')/\ SR E X' Z m' h' σ'/\ Ex X Z m h σ X' Z m' h' σ'/\ RV E X' Z m' h' σ' r a:=by
 refine⟨u,λE X Z m σ args i0 S U=>?_⟩;have Q:∀{v:AV} {σ':St},xK g e args σ=.ok (v,σ')->dw P.D f args σ=.ok (.ret v,σ'):=λ{v σ'} N=>by refine tO.2 ⟨1,?_⟩;show lr P.D (cg P.D 0) f args σ=_;unfold lr;rw[b8 M,b0];simp only[N];rfl
 unfold Bn at x;split at x;rename_i d s D;rw[dn]at x;obtain⟨G,x⟩:=x;have G:=dB G;subst G;rw[bF]at x;obtain⟨q,N,x⟩:=x;obtain⟨j0,k0,l0,m0,n0⟩:=q;simp only at x;split at x;rename_i I v2;rw[bF]at x;obtain⟨l,Y,x⟩:=x;split at x;rename_i B A;split at x;rename_i c0;obtain⟨c1,c2,rfl,rfl⟩:=c0;obtain⟨e1,O⟩:=nX N;simp only at O;obtain⟨l1,l2,l3,l4,n⟩:=S.ct s (by rw[O];rfl);rw[O]at n;obtain⟨o0,p0,o1,L,o3,i⟩:=n;have L:=L aM;subst L;simp only[dj,RE]at i;obtain⟨p,r0,rfl,p1,p2,p3,F,rfl⟩:=i;simp only[RL]at F;obtain⟨a0,r1,rfl,C,rfl⟩:=F;simp only[fl,RL,RR]at U;obtain⟨a,r2,rfl,⟨q0,s0,rfl,_,V,⟨t,r3,rfl,j,rfl⟩⟩,rfl⟩:=U;subst V;have j:LC σ.n m h (.aR s D 0 0) t:=j;simp only[LC]at j
 rcases j with⟨t0,_⟩|⟨_,d0,e0,u0,f0,g0,g1,g2,T⟩
 omega;have T:t=.aR (m s) 0:=by rw[T];simp
 subst T;have W:=Y;unfold o7 at W;simp only[dn]at W;obtain⟨z,W⟩:=W;have z:=dB z;have J:(h.o I).k=.map l:=by grind
 simp only[RR]at C;have C:LC σ.n m h (.cz I v2) a0:=C;simp only[LC]at C
 rcases C with⟨k1,_⟩|⟨_,v0,k2,rfl⟩
 omega;obtain⟨z0,z1,z2,z3,b⟩:=S.ct I (by rw[J];rfl);rw[J]at b;obtain⟨h0,w0,z5,z6,z7⟩:=b;obtain⟨y1,y2⟩:=UW z6;rw[A]at y1
 have w:xK d e [.func (.func d) [] [.aR (m s) 0]] σ=match hS B with
  |[]=>.ok (.aN<|.slice ae 0 0,σ)
  |_=>.ok (.slice σ.n 0 (aA<|hS B) ae 1,σ.push<|.cells ((hS B).map λk=>.aN<|.int .i64 k) e aa 1):=by
  unfold xK;simp only[l2,and_self,dj,o1,ea,z1,z5,<-y1];rw[b8 ⟨c1,z7.1,z7.2,by rw[<-y2];exact c2⟩]
  grind
 split at x;rename_i y;cases x;rw[y]at w;refine⟨_,_,X,m,Q w,S,Ex.refl _ _ _ _ _ λs y=>(S.ct s y).2.1,?_⟩;simp only[RR];rfl;rename_i y;cases x;have w:xK d e [.func (.func d) [] [.aR (m s) 0]] σ=.ok (.slice σ.n 0 (aA<|hS B) ae 1,σ.push<|.cells ((hS B).map λk=>.aN<|.int .i64 k) e aa 1):=by grind
 obtain⟨w1,w2⟩:=zh S (s:=dk aN ae) (k:=.cells ab ab e 1<|CX<|hS B) (o:=.cells ((hS B).map λk=>.aN<|.int .i64 k) e aa 1) ⟨_,aa,aM,λ_=>rfl,Nat.one_pos,by
  simp only[fR,ff]
  exact Q9 _⟩
 refine⟨_,_,X,_,Q w,w1,w2,?_⟩;simp only[RR,LC];obtain⟨f1,f2⟩:=vV h (dk aN ae)<|.cells ab ab e 1<|CX<|hS B;refine .inr ⟨f1.symm,ab,ab,e,1,_,f2,by simp[CX],.inr ⟨ae,?_,λc h=>by cases h⟩⟩;rw[sr];cases x;cases x;cases x;cases x
end
abbrev bk{α:Type}(l:List α):Prop:=aA l<1048576
section
variable(D:a_)(h:H)(e:Operand->VV)(x:Operand)(t u s d:Nat)
omit h e x t u s d D in
theorem wN{α β:Type}{x:R α}{f g:α->R β}(j:∀a,f a=g a):aO x f=aO x g:=by rw[funext j]
theorem JP(n:Nat)(O:Array<|Nat×Operand):h_ D h e (.buildSlice t n O) s=aO (gm D t) λes=>aO (jO D es.1) λz=>aO (Bb h<|O.toList.map λp=>(p.1,e p.2)) λq=>aO (bif ai (n*es.2) (2^24)then xe es.2 (kr z n) q.1 else .error "") λr=>.ok (.bh s ((q.2.o s).ver+1) 0 n,q.2.new s<|.cells ab ab es.1 es.2 r):=rfl
theorem ab2:h_ D h e (.buildSlice t 0 #[]) s=aO (gm D t) λes=>aO (jO D es.1) λ_=>.ok (.bh s ((h.o s).ver+1) 0 0,h.new s<|.cells ab ab es.1 es.2 []):=by rw[JP];refine wN λes=>wN λz=>?_;show aO (bif ai (0*es.2) (2^24)then .ok []else .error "") _=_;rw[kb];rfl
theorem ab3:h_ D h e (.buildSlice t 1 #[(0,x)]) s=aO (gm D t) λes=>aO (jO D es.1) λ_=>aO (rP h<|e x) λq=>bif ai es.2 16777216&&ag (aA q.1) es.2 then .ok (.bh s ((q.2.o s).ver+1) 0 1,q.2.new s<|.cells ab ab es.1 es.2 [q.1])else .error "":=by rw[JP];refine wN λes=>wN λz=>?_;show aO (aO (rP h<|e x) λp=>aO (.ok ([],p.2)) λq=>.ok ((0,p.1)::q.1,q.2)) _=_;rw[kg];refine wN λq=>?_;show aO (bif ai (1*es.2) (2^24)then(bif ag (aA q.1) es.2&&aa then .ok [q.1]else .error "")else .error "") _=_;rw[Nat.one_mul];show aO (bif ai es.2 16777216 then(bif ag (aA q.1) es.2&&aa then .ok [q.1]else .error "")else .error "") _=_;cases ai es.2 16777216<;>cases ag (aA q.1) es.2<;>rfl
theorem afT(v:VV):rP h v=aO (mO h v) λp=>aO (jn p.1) λcs=>.ok (cs,p.2):=rfl
theorem Ta(v:VV):mO h v=aO (cq h e8 v) λp=>.ok (p.1,cp h p.2):=rfl
theorem Tz:e8=12:=rfl
theorem TA(n ver o L:Nat):cq h (n+1) (.bh s ver o L)=aO (gB h s ver) λq=>bif q.1 then
 (bif ai (o+L) (aA q.2.2.2.2)then aO (tY (cq h n)<|(q.2.2.2.2.drop o).take L) λp=>.ok (.fz p.1,s::p.2)else .error "")
 else aO (vq h<|.bh s ver o L) λes=>.ok (.fz es,[s]):=rfl
theorem afz(es:aB):kF h (.fz es)=.ok (ab,es):=rfl
theorem afA:kF h .nil=.ok (ab,[]):=rfl
theorem GB(ver o L:Nat):kF h (.bh s ver o L)=aO (gB h s ver) λq=>bif ai (o+L) (aA q.2.2.2.2)then .ok (q.1,(q.2.2.2.2.drop o).take L)else .error "":=rfl
theorem AX:yL ab ab=aa:=rfl
theorem agV(n:Nat)(es:aB):cq h (n+1) (.fz es)=.ok (.fz es,[]):=rfl
theorem agW(n:Nat):cq h (n+1) .nil=.ok (.fz [],[]):=rfl
theorem agR(n:Nat)(cs:aC):cq h (n+1) (.agg cs)=aO (d_ (cq h n) cs) λq=>.ok (.agg q.1,q.2):=rfl
theorem agY(n:Nat)(cs:aC):cq h (n+1) (.bn cs)=aO (d_ (cq h n) cs) λq=>.ok (.bn q.1,q.2):=rfl
theorem ag0(n:Nat):d_ (cq h n) []=.ok ([],[]):=rfl
theorem agZ(n:Nat)(v:VV)(l:aC):d_ (cq h n) (v::l)=aO (cq h n v) λp=>aO (d_ (cq h n) l) λq=>.ok (p.1::q.1,p.2++q.2):=rfl
theorem afL(cs:aC):nt h (.agg cs)=cq h e8 (.agg cs):=rfl
theorem afQ(ver o L:Nat):nt h (.bh s ver o L)=cq h e8 (.bh s ver o L):=rfl
theorem aoT(v:VV)(ver i o:Nat):EK D h t (.aR s ver i o) v=aO (gB h s ver) λY=>
 aO (bif Y.1 then aO (jn v) λcs=>.ok (cs,h)else rP h v) λp=>
 aO (gB p.2 s ver) λq=>
 aO (size D t) λn=>bif ag (aA p.1) n&&ah 0 n&&!q.2.1 then
  aO (ib<|q.2.2.2.2[i]?) λcs=>aO (zI cs o p.1) λcs=>
  .ok (p.2.mod s<|.cells q.1 ab q.2.2.1 q.2.2.2.1<|q.2.2.2.2.set i cs)
 else .error "":=rfl
theorem aoF(cs:aC)(o:Nat)(x:aC):zI cs o x=bif ai (o+aA x) (aA cs)then .ok (cs.take o++(x++cs.drop (o+aA x)))else .error "":=rfl
theorem an9(c T:aC)(l:aB):(c::l).set 0 T=T::l:=rfl
theorem amb(P:VT)(T:Vg)(a t:Nat)(l:List ResultVar):lK P h T (.cell a t::l)=aO (qe P.D t) λq=>aO (oT h<|T a) λp=>aO (gg q p.1 p.2) λv=>aO (lK P h T l) λr=>.ok (v::r):=rfl
theorem afr(es:aB):vq h (.fz es)=.ok es:=rfl
theorem afs:vq h .nil=.ok []:=rfl
theorem Sw(ver o L:Nat):vq h (.bh s ver o L)=aO (gB h s ver) λq=>bif q.1 then .error "" else bif ai (o+L) (aA q.2.2.2.2)then .ok ((q.2.2.2.2.drop o).take L)else .error "":=rfl
theorem JY(y:VV)(ver L:Nat):kR D h t u (.bh s ver 0 L) y d=aO (lZ D t u) λO=>aO (kF h y) λnew=>bif fW O.2 new.2&&ah (aA new.2) (2^30)then
 aO (gB h s ver) λq=>bif ah (L+aA new.2) (2^30)&&yL q.1 new.1&&!q.2.1&&ag q.2.2.1 O.1&&ag q.2.2.2.1 O.2&&ag L (aA q.2.2.2.2)then
  .ok (.bh s ((h.o s).ver+1) 0<|L+aA new.2,h.new s<|.cells new.1 ab O.1 O.2<|q.2.2.2.2++new.2)else .error ""
 else .error "":=rfl
def b9(es:List<|List VV)(s ver:Nat):VV:=match es with
 |[]=>.nil
 |es=>.bh s ver 0<|aA es
theorem ahE(n:Nat):fW n []=aa:=rfl
theorem GU(n:Nat)(c:aC)(l:aB):fW n (c::l)=ag (aA c) n:=rfl
theorem oe{α:Type}{n:Nat}{f:α->aC}(j:∀a,aA (f a)=n)(l:List α):fW n (l.map f)=aa:=by
 cases l with
 |nil=>rfl
 |cons a l=>simp[fW,j]
theorem aqa(l:aB):(l.drop 0).take (0+aA l)=l:=aY
theorem aiY(l:aB):ai (0+(0+aA l)) (aA l)=aa:=aY
theorem ae0(l:aB):[]++l=l:=rfl
theorem nf_:(!ab)=aa:=rfl
theorem akA(s v o l:Nat):et (.bh s v o l)=aa:=rfl
theorem akw(cs:aC):et (.agg cs)=aa:=rfl
theorem akB(s v i o:Nat):et (.aR s v i o)=aa:=rfl
theorem akz:et .nil=aa:=rfl
theorem ai2:aA ([]:aB)=0:=rfl
end
section
variable(D:a_)(h:H)(t u s:Nat)
def b6(x:VO)(es:List<|List VV)(ver eT sz:Nat):Prop:=x.ver=ver/\ (es≠[]->∃md,x=⟨ver,md,.cells ab ab eT sz es⟩)
def yu(x:VO)(h:H)(s ver:Nat)(O:Nat×Nat)(es:List<|List VV)(rw:Bool)(new:List<|List VV):R (VV×H):=
 match es with
 |[]=>match new with
  |[]=>.ok (.nil,h)
  |_=>.ok (.bh s (x.ver+1) 0<|aA new,h.new s<|.cells rw ab O.1 O.2 new)
 |es=>aO (Ay x ver) λq=>bif ah (aA es+aA new) (2^30)&&yL q.1 rw&&!q.2.1&&ag q.2.2.1 O.1&&ag q.2.2.2.1 O.2&&ag (aA es) (aA q.2.2.2.2)then
   .ok (.bh s (x.ver+1) 0<|aA es+aA new,h.new s<|.cells rw ab O.1 O.2 (q.2.2.2.2++new))else .error ""
theorem aci(y:VV)(es:aB)(ver:Nat):kR D h t u (b9 es s ver) y s=aO (lZ D t u) λO=>aO (kF h y) λnew=>bif fW O.2 new.2&&ah (aA new.2) (2^30)then yu (h.o s) h s ver O es new.1 new.2 else .error "":=by cases es<;>rfl
theorem iM{x:VO}{ver eT sz:Nat}{es:aB}(f:b6 x es ver eT sz)(hn:aA es<536870912)(c:aC)(h:H)(s:Nat):yu x h s ver (eT,sz) es ab [c]=.ok (b9 (es++[c]) s<|ver+1,h.new s<|.cells ab ab eT sz<|es++[c]):=by
 obtain⟨rfl,f⟩:=f
 cases es with
 |nil=>rfl
 |cons a es=>
  have⟨U,f⟩:=f aY;generalize Y:x.ver=v at f;subst f;have p:ah (aA (a::es)+[c].length) (2^30)=aa:=by simp only[ah,dh,sA];omega
  simp only[yu,jb,aO,p,AX,j',gX,iJ,a8];show _=(.ok (VV.bh s (v+1) 0<|aA<|(a::es)++[c],_):R<|VV×H);rw[cN]
theorem b6.next{P ver eT sz:Nat}{es:aB}:b6 ⟨ver,P,.cells ab ab eT sz es⟩ es ver eT sz:=⟨aM,λ_=>⟨P,aM⟩⟩
def yQ(h:H)(n:Nat)(x:VO)(es:List<|List VV)(s ver:Nat):R (VV×List Nat):=
 match es with
 |[]=>.ok (.fz [],[])
 |es=>aO (Ay x ver) λq=>bif q.1 then(bif ai (0+aA es) (aA q.2.2.2.2)then aO (tY (cq h n)<|(q.2.2.2.2.drop 0).take<|aA es) λp=>.ok (.fz p.1,s::p.2)else .error "")
  else aO (aO (Ay x ver) λq=>bif q.1 then .error "" else bif ai (0+aA es) (aA q.2.2.2.2)then .ok ((q.2.2.2.2.drop 0).take<|aA es)else .error "") λes=>.ok (.fz es,[s])
theorem agQ(n:Nat)(es:aB)(ver:Nat):cq h (n+1) (b9 es s ver)=yQ h n (h.o s) es s ver:=by cases es<;>rfl
def u5(es:List<|List VV)(s:Nat):List Nat:=match es with
 |[]=>[]
 |_=>[s]
theorem gf{x:VO}{es:aB}{ver eT sz:Nat}(f:b6 x es ver eT sz)(h:H)(n s:Nat):yQ h n x es s ver=.ok (.fz es,u5 es s):=by
 cases es with
 |nil=>rfl
 |cons a es=>
  have⟨U,f⟩:=f.2 aY;subst f;have p:ai (0+aA (a::es)) (aA<|a::es)=aa:=aY;have X:((a::es).drop 0).take (aA<|a::es)=a::es:=by rw[e6,bP]
  simp only[yQ,jb,aO,p,a8,br,X];rfl
theorem KB(es:aB)(ver:Nat):jn (b9 es s ver)=.ok [b9 es s ver]:=by cases es<;>rfl
theorem akM(es:aB)(ver:Nat):et (b9 es s ver)=aa:=by cases es<;>rfl
end
theorem aes(s v o l:Nat):jn (.bh s v o l)=.ok [.bh s v o l]:=rfl
theorem aet(s v i o:Nat):jn (.aR s v i o)=.ok [.aR s v i o]:=rfl
theorem aen(cs:aC)(o:Nat):jn (.bA cs o)=.ok [.bA cs o]:=rfl
theorem aeo(f:Nat)(a b:aC):jn (.func f a b)=.ok [.func f a b]:=rfl
theorem alg(c:aC):[c].length=1:=rfl
theorem ali(c:aC):([c].drop 0).take 1=[c]:=rfl
theorem aj9(n:Nat):ai n n=aa:=aY
theorem adb:ah 1 (2^30)=aa:=rfl
theorem ahu(h:H)(s:Nat)(S:aK):cp h (s::S)=cp (fM h s) S:=rfl
theorem qK{h:H}{s F:Nat}(hn:F≠s):(fM h s).o F=h.o F:=by unfold fM;split;exact ic hn;rfl
def Lu(x:VO):VO:=⟨x.ver,x.md,match x.k with
 |.cells C _ e sz es=>.cells C aa e sz es
 |k=>k⟩
theorem Dr(h:H)(s:Nat):(fM h s).o s=Lu (h.o s):=by unfold fM Lu;split;rename_i V;rw[jx,V];exact at6
theorem ahv(ver md:Nat)(C fr:Bool)(e sz:Nat)(es:aB):Lu ⟨ver,md,.cells C fr e sz es⟩=⟨ver,md,.cells C aa e sz es⟩:=rfl
theorem vz(h:H)(s:Nat):(fM h s).y=h.y:=GG [s] h
theorem xD{α:Type}{l:List α}(h:bk l):ah (aA l) (2^30)=aa:=by unfold bk at h;exact at2
theorem Ea{α:Type}{l:List α}(h:bk l):ah (0+aA l) (2^30)=aa:=by rw[bZ];exact xD h
theorem aiZ(n:Nat):ai (0+(0+n)) n=aa:=aY
theorem aqb{α:Type}(f:α->aC)(l:List α):((l.map f).drop 0).take (0+aA l)=l.map f:=by rw[e6,bZ];exact eM aY
def hE:=af @ahu<|af @qK<|af @Dr<|af @ahv<|af @vz<|af @aiZ<|af @aqb<|af @alg<|af @ali<|af @aj9<|af @adb<|af @aes<|af @aet<|af @aen<|af @aeo<|af @aci<|af @agQ<|af @KB<|@akM
def hB:=af @akA<|af @akw<|af @akB<|af @akz<|af @ab2<|af @ab3<|af @afT<|af @Ta<|af @TA<|af @agV<|af @agW<|af @afr<|af @afs<|af @Sw<|af @afz<|af @afA<|af @GB<|af @AX<|af @JY<|af @ahE<|af @GU<|af @aqa<|af @aiY<|af @ae0<|af @nf_<|@ai2
def hC:=af @Tz<|af @agR<|af @agY<|af @ag0<|af @agZ<|af @afL<|af @afQ<|af @aoT<|af @aoF<|af @an9<|@amb
section
variable{P:VT}{c:VC}{aN:Nat}{g:Bool}{d:Option Tmp}{ty:TypeId}{p:String}{a:Array Edge}{T:Vg}{h:H}
def IP(t:Nat)(x:Operand)(n i:Option Operand):ec P c aN g ⟨d,.slice t x n i ae,ty,p,a,ae⟩ T h=lM T h d g (bif Bk x&&n.isNone&&i.isNone then Dq P.D t else bif G7 (bS T x)&&n.isNone&&i.isNone then Ao P.D h t (bS T x)else aO (gm P.D t) λq=>aO (xJ<|n.map<|bS T) λl=>aO (xJ<|i.map<|bS T) λi=>yb h q.2 (bS T x) (l.getD 0) i):=bL aM
def agT(n f:Nat)(l r:aC):cq h (n+1) (.func f l r)=aO (d_ (cq h n) l) λp=>aO (d_ (cq h n) r) λq=>.ok (.func f p.1 q.1,p.2++q.2):=rfl
def agU(n:Nat)(cs:aC)(o:Nat):cq h (n+1) (.bA cs o)=.ok (.bA cs o,[]):=rfl
def agX(n s ver i o:Nat):cq h (n+1) (.aR s ver i o)=aO (qD h s ver i) λcs=>aO (d_ (cq h n) cs) λq=>.ok (.bA q.1 o,s::q.2):=rfl
def afI(f:Nat)(l r:aC):nt h (.func f l r)=cq h e8 (.func f l r):=rfl
def afJ(cs:aC)(o:Nat):nt h (.bA cs o)=cq h e8 (.bA cs o):=rfl
def afK(s ver i o:Nat):nt h (.aR s ver i o)=cq h e8 (.aR s ver i o):=rfl
def QZ(v:VV)(h:H):R (VV×H):=match v with
 |.aN (.string ⟨⟨l⟩⟩)=>.ok (.fz<|l.map λb=>[.aN<|.int .u8 b.toNat],h)
 |_=>.error ""
def adp(l:aF):QZ (sV l) h=.ok (.fz<|l.map λb=>[.aN<|.int .u8 b.toNat],h):=rfl
def aqB(s t:Nat)(x:Operand)(Q:tw P.D s t=aa):ec P c aN g ⟨d,.convert s t x,ty,p,a,ae⟩ T h=lq T h d g (QZ (bS T x) h):=by
 have e:jo P.D (.convert s t x)=.cB:=by show(bif tw P.D s t then _ else _)=_;rw[Q];rfl
 exact au7
def aqD(s t:Nat)(x:Operand)(Q:tw P.D s t=ab):ec P c aN g ⟨d,.convert s t x,ty,p,a,ae⟩ T h=lM T h d g (aO (ib<|hc<|bS T x) λa=>aO (nZ P.D s t a) k9):=by
 have e:jo P.D (.convert s t x)=.je:=by show(bif tw P.D s t then _ else _)=_;rw[Q];rfl
 exact au7
def aqH(t:Nat)(x y:Operand):ec P c aN g ⟨d,.index t x y,ty,p,a,ae⟩ T h=lM T h d g (aO (ib<|hc<|bS T x) λa=>aO (ib<|hc<|bS T y) λb=>aO (vE P.D t a b) k9):=bL aM
def aln{α:Type}(x:α):ib (ad x)=.ok x:=rfl
def V_(f:Nat)(l r:List VV):R VV:=bif l.all et&&r.all et then .ok (.func f l r)else .error ""
def aqQ(f:Nat)(l r:List Operand):ec P c aN g ⟨d,.makeFunc (.func f) l.toArray r.toArray,ty,p,a,ae⟩ T h=lM T h d g (V_ f (l.map<|bS T)<|r.map<|bS T):=bL aM
def ajR(f:Nat)(l r:aC):V_ f l r=bif l.all et&&r.all et then .ok (.func f l r)else .error "":=rfl
def ab7:([]:aC).all et=aa:=rfl
def ab5(v:VV)(l:aC):(v::l).all et=(et v&&l.all et):=rfl
def ah2(i:Nat):Bk (.tmp i)=ab:=rfl
def ah1:Bk (.global 0)=aa:=rfl
def ah5{α:Type}:(ae:Option α).isNone=aa:=rfl
def ah6{α:Type}(x:α):(ad x).isNone=ab:=rfl
def ak_{α β:Type}(f:α->β):Option.map f ae=ae:=rfl
def ala{α β:Type}(f:α->β)(x:α):Option.map f (ad x)=ad (f x):=rfl
def akY:xJ ae=.ok ae:=rfl
def akZ(v:VV):xJ (ad v)=aO (jK v) λn=>.ok (ad n):=rfl
def aj5(k:IntKind)(n:Nat):jK (.aN<|.int k (n:Int))=.ok n:=by simp[jK]
def aj3(k:IntKind):jK (.aN<|.int k 0)=.ok 0:=rfl
def aj4(k:IntKind):jK (.aN<|.int k 1)=.ok 1:=rfl
def Y8(es:aB)(sz n:Nat)(i:Option Nat):yb h sz (.fz es) n i=bif ag (xh es) sz&&ai n (i.getD<|aA es)&&ai (i.getD<|aA es) (aA es)then .ok (.fz<|(es.drop n).take<|i.getD (aA es)-n)else .error "":=rfl
def NK(s ver o L sz n:Nat)(i:Option Nat):yb h sz (.bh s ver o L) n i=aO (gB h s ver) λp=>bif ag p.2.2.2.1 sz&&!p.1&&ah 0 L&&ai n (i.getD L)&&ai (i.getD L) L then .ok (.bh s ver (o+n)<|i.getD L-n)else .error "":=rfl
def QQ{D:a_}{t e n:Nat}(s:gm D t=.ok (e,n))(cs:aC)(es:aB)(q:Bool):ky D .eql t (.fz<|cs::es) .nil q=.ok (.aN<|.bool ab):=by unfold ky;simp only[hc,s,aO,MF]
end
def ig:=af @IP<|af @aqQ<|af @ajR<|af @ab7<|af @ab5<|af @aln<|af @aqH<|af @agT<|af @agU<|af @agX<|af @afI<|af @afJ<|af @afK<|af @aqB<|af @aqD<|af @adp<|af @ah2<|af @ah1<|af @ah5<|af @ah6<|af @ak_<|af @ala<|af @akY<|af @akZ<|af @aj5<|af @aj3<|af @aj4<|af @Y8<|@NK
def dv(a:cV):List (List VV)->List (List VV)->R (Bool×List (List VV))
 |y,[]=>.ok (aa,y)
 |y,e::l=>aO (a<|y++[e]) λb=>bif b then dv a (y++[e]) l else .ok (ab,y++[e])
def iK(P:VT)(f:Nat)(I:List VV)(l:List<|List VV):Prop:=∀a y b y',dv a y l=.ok (b,y')->(vW P).z f I a y=.ok (.bn [],y')
def xY(J:H->List VV->R Vo)(T:Vg):H->List (List VV)->R Vo
 |h,[]=>.ok<|.bI T h
 |h,e::l=>match J h e with
  |.ok (.bI _ h')=>xY J T h' l
  |x=>x
def Yh{T:Vg}{O:List Tmp}{a b:Vg->H->R Vo}{h:H}{e:aC}{T':Vg}{h':H}(r:fH T O a b h e=.ok (.bI T' h')):T'=T:=by
 unfold fH at r
 cases Q:ag (aA O) (aA e)with
 |false=>rw[Q]at r;cases r
 |true=>
  rw[Q]at r;simp only[a8]at r;split at r;rename_i T1 V _;unfold lk at r
  grind
  cases r;exact at6
def NC{J:H->aC->R Vo}{T:Vg}{h0:H}(S:∀{h e T' h'},J h e=.ok (.bI T' h')->T'=T):∀(l:aB) {h:H} {o:Vo} {y0:aB},xY J T h l=.ok o->ph J T h0 y0=.ok (.bI T h)->
 ∃b y',dv (λl=>va<|ph J T h0 l) y0 l=.ok (b,y')/\ ph J T h0 y'=.ok o
 |[],h,o,y0,r,V=>by simp only[xY]at r;cases r;exact⟨aa,y0,aM,V⟩
 |e::l,h,o,y0,r,V=>by
  have s:ph J T h0 (y0++[e])=J h e:=by unfold ph at V|-;rw[jQ,V];rfl
  simp only[xY]at r
  cases m:J h e with
  |error x=>rw[m]at r;cases r
  |ok q=>
   rw[m]at r s
   cases q with
   |bI T' h'=>have:=S m;subst this;have⟨b,y',C,w⟩:=NC (h0:=h0) (λ{h e T' h'}=>S (h:=h) (e:=e) (T':=T') (h':=h')) l r s;refine⟨b,y',?_,w⟩;simp only[dv,s,va,aO,a8];exact C
   |exit i T' h'=>simp only at r;cases r;exact⟨ab,y0++[e],by simp only[dv,s,va,aO,br],s⟩
   |ret T' h'=>simp only at r;cases r;exact⟨ab,y0++[e],by simp only[dv,s,va,aO,br],s⟩
def Yd{P:VT}{a:cV}{g:Nat}{cap n:aC}{S:aK}{T:Vg}{h:H}{O:List Tmp}{u J:Vg->H->R Vo}{l:aB}{o:Vo}(j:d_ (cq h e8) cap=.ok (n,S))(y:iK P g (.yield::n) l)
 (r:xY (fH T O u J) T (cp h S) l=.ok o):lH (cW P a) (.func g [] cap) T h (fH T O u J)=.ok o:=by
 have⟨b,N,C,w⟩:=NC (h0:=cp h S) (y0:=[]) Yh l r aM;have M:=y _ _ _ _ C;unfold lH;simp only[d_,aO,j,b7];have i:(cW P a).z g (VV.yield::n) (λl=>va<|ph (fH T O u J) T (cp h S) l) []=.ok (.bn [],N):=M;exact at6
def Lr(I:H->Prop)(Q:Vo->Prop):Vo->Prop
 |.bI _ h=>I h
 |o=>Q o
def zD{J:H->aC->R Vo}{T:Vg}{Q:Vo->Prop}:∀(l:aB) (I:Nat->H->Prop) {h:H},I 0 h->(∀i h (G:i<aA l),I i h->ew (J h l[i]) (Lr (I<|i+1) Q))->(∀h,I (aA l) h->Q (.bI T h))->ew (xY J T h l) Q
 |[],I,h,b,_,f=>⟨_,aM,f h b⟩
 |e::l,I,h,b,s,f=>by
  have⟨o,C,w⟩:=s 0 h (Cv _) b;simp only[m_]at C;unfold ew;simp only[xY,C]
  cases o with
  |bI Y D=>exact zD l (λi=>I<|i+1) w (λi h G y=>by simpa using s (i+1) h (z8 G) y) f
  |exit i Y D=>exact⟨_,aM,w⟩
  |ret Y D=>exact⟨_,aM,w⟩
def Yc{α:Type}{F:R Vo->R α}{X:R α}{P:VT}{a:cV}{g:Nat}{cap n:aC}{S:aK}{T:Vg}{h:H}{O:List Tmp}{u J:Vg->H->R Vo}(l:aB)(y:iK P g (.yield::n) l)(j:d_ (cq h e8) cap=.ok (n,S))
 (I:Nat->H->Prop)(h0:I 0<|cp h S)(s:∀i h (G:i<aA l),I i h->ew (fH T O u J h l[i]) (Lr (I<|i+1) λo=>F (.ok o)=X))(e:∀h,I (aA l) h->F (.ok<|.bI T h)=X):F (lH (cW P a) (.func g [] cap) T h<|fH T O u J)=X:=awt
def ak8{G:R Vo->R Vo}{Q:Vo->Prop}{P:VT}{a:cV}{g:Nat}{cap n:aC}{S:aK}{T:Vg}{h:H}{O:List Tmp}{u J:Vg->H->R Vo}(l:aB)(y:iK P g (.yield::n) l)(j:d_ (cq h e8) cap=.ok (n,S))
 (I:Nat->H->Prop)(h0:I 0<|cp h S)(s:∀i h (p:i<aA l),I i h->ew (fH T O u J h l[i]) (Lr (I<|i+1) λo=>ew (G<|.ok o) Q))(e:∀h,I (aA l) h->ew (G<|.ok<|.bI T h) Q):ew (G<|lH (cW P a) (.func g [] cap) T h<|fH T O u J) Q:=awt
def xk{P:VT}{f:Nat}{fn:Func}{I:aC}{l:aB}(j:P.D.func f=ad fn)(Q:fp P f (aA I)=aa)(h:∀a y b y',dv a y l=.ok (b,y')->dC P fn.results.toList (cv P (cW P a) 0 (P.gk f) (fn.body.getD .skip) (gK I)<|.empty y)=.ok (.bn [],y'))(h0:P.h5 f=0:=by rfl):iK P f I l:=by
 intro a y b y' D;refine Ca ?_;unfold fp at Q;rw[j]at Q
 cases e:fn.body with
 |none=>simp only[e]at Q;cases Q
 |some v=>
  simp only[e,Bool.and_eq_true]at Q;have⟨⟨⟨⟨⟨z,M⟩,E⟩,X⟩,u⟩,U⟩:=Q;have p:P.la f=ae:=by simpa using u
  have B:P.fL f=ae:=by simpa using U
  have h:=h a y b y' D;rw[e]at h;show(match P.la f with|some g=>_|none=>match P.fL f with|some F=>_|none=>aO (jf P (cW P a) (P.h5 f) f I<|.empty y) _)=_;rw[p];simp only;rw[B];show aO (jf P (cW P a) (P.h5 f) f I<|.empty y) _=_;rw[h0];unfold jf;rw[j];simp only[e,z,M,E,X,Bool.and_self,cond_true];exact h
section
variable{P:VT}{c:VC}{aN:Nat}{od:Nat->List Nat}{T T1:Vg}{h:H}{d:Option Tmp}
def aeA(f:Operand)(O:List Tmp)(a b:Code):cv P c aN od (.rangeFunc f O.toArray a b) T h=lH c (bS T f) T h (fH T O (cv P c aN od a)<|cv P c aN od b):=bL aM
def XD(T:Vg)(x:R Vo)(b:Vg->H->R Vo):R Vo:=
 match x with
 |.ok (.bI T1 h1)=>lk T<|b T1 h1
 |.ok _=>.error ""
 |x=>x
def amr(O:List Tmp)(a b:Vg->H->R Vo)(e:aC):fH T O a b h e=bif ag (aA O) (aA e)then XD T (a (pg (O.zip e) T) h) b else .error "":=rfl
def amA(b:Vg->H->R Vo):XD T (.ok<|.bI T1 h) b=lk T (b T1 h):=rfl
def as_:lk T (.ok<|.bI T1 h)=.ok (.bI T h):=rfl
def as9(i:Nat):lk T (.ok<|.exit i T1 h)=.ok (.exit i T h):=rfl
def ata:lk T (.ok<|.ret T1 h)=.ok (.ret T h):=rfl
def as8(b:Bool)(x y:R Vo):lk T (bif b then x else y)=bif b then lk T x else lk T y:=avc
def al2:pg [] T=T:=rfl
def al1(t:Tmp)(v:VV)(l:List<|Tmp×VV):pg ((t,v)::l) T=pg l (dX T (ad t) v):=rfl
def atp{α β:Type}(a:α)(b:β)(l:List α)(m:List β):List.zip (a::l) (b::m)=(a,b)::List.zip l m:=rfl
def atq{α β:Type}(m:List β):List.zip ([]:List α) m=[]:=rfl
def ajA(I:H->Prop)(Q:Vo->Prop):Lr I Q (.bI T h)=I h:=rfl
def ajz(I:H->Prop)(Q:Vo->Prop)(i:Nat):Lr I Q (.exit i T h)=Q (.exit i T h):=rfl
def ajB(I:H->Prop)(Q:Vo->Prop):Lr I Q (.ret T h)=Q (.ret T h):=rfl
def aeu:jn .yield=.ok [.yield]:=rfl
def aem(f:Nat)(l r:aC):jn (.func f l r)=.ok [.func f l r]:=rfl
def akP:et .yield=aa:=rfl
def akN(f:Nat)(l r:aC):et (.func f l r)=aa:=rfl
def ald:pc []=.bn []:=rfl
def ajD:aA ([]:aK)=0:=rfl
def ajE(v:Nat)(l:aK):aA (v::l)=aA l+1:=rfl
def aqM{P:VT}{c:VC}{aN:Nat}{g:Bool}{d:Option Tmp}{ty:TypeId}{p:String}{a:Array Edge}{T:Vg}{h:H}(t u:Nat)(x y:Operand):ec P c aN g ⟨d,.call ⟨.builtin .max,#[x,y],#[t,u]⟩,ty,p,a,ae⟩ T h=lM T h d g (xA aa (bS T x) [bS T y]):=bL aM
def aqN{P:VT}{c:VC}{aN:Nat}{g:Bool}{d:Option Tmp}{ty:TypeId}{p:String}{a:Array Edge}{T:Vg}{h:H}(t u:Nat)(x y:Operand):ec P c aN g ⟨d,.call ⟨.builtin .min,#[x,y],#[t,u]⟩,ty,p,a,ae⟩ T h=lM T h d g (xA ab (bS T x) [bS T y]):=bL aM
def ajS(k:IntKind)(a b:Int):xA aa (.aN<|.int k a) [.aN<|.int k b]=.ok (.aN<|.int k<|bif ax (a<b)then b else a):=by show(.ok (.aN<|.int k<|if b>a then b else a):R VV)=_;exact at6
def ajT(k:IntKind)(a b:Int):xA ab (.aN<|.int k a) [.aN<|.int k b]=.ok (.aN<|.int k<|bif ax (b<a)then b else a):=by show(.ok (.aN<|.int k<|if b<a then b else a):R VV)=_;exact at6
def cm(h:H):cp h []=h:=rfl
def c_y(P:VT)(a:cV)(args:aC):yD P (cW P a) aN d .yield args h=aO (d_ (cq h e8) args) λp=>aO (a<|h.y++[p.1]) λb=>.ok (.aN<|.bool b,⟨(cp h p.2).o,h.y++[p.1]⟩):=rfl
end
def Kl(es new:List<|List VV)(ver:Nat):Nat:=match es,new with
 |[],[]=>ver
 |_,_=>ver+1
def CV(h:H)(s eT sz:Nat)(es new:List<|List VV):H:=match es,new with
 |[],[]=>h
 |_,_=>h.new s<|.cells ab ab eT sz<|es++new
def Pw{h:H}{s ver eT sz:Nat}{es:aB}(new:aB)(f:b6 (h.o s) es ver eT sz)(hn:aA es<536870912)(m:aA new<536870912):yu (h.o s) h s ver (eT,sz) es ab new=.ok (b9 (es++new) s<|Kl es new ver,CV h s eT sz es new):=by
 have⟨V,f⟩:=f
 cases es with
 |nil=>cases new with
  |nil=>rfl
  |cons c new=>subst V;rfl
 |cons a es=>have⟨U,f⟩:=f aY;have p:ah (aA (a::es)+aA new) (2^30)=aa:=at2;rw[f];simp only[yu,jb,aO,p,AX,j',gX,iJ,a8];show _=(.ok (VV.bh s (ver+1) 0<|aA<|(a::es)++new,_):R<|VV×H);rw[cN];rfl
def F7{h:H}{s ver eT sz:Nat}{es new:aB}(f:b6 (h.o s) es ver eT sz):b6 ((CV h s eT sz es new).o s) (es++new) (Kl es new ver) eT sz:=by
 have k:b6 ((h.new s<|.cells ab ab eT sz<|es++new).o s) (es++new) (ver+1) eT sz:=by rw[H.new,jx,f.1];exact auh
 cases es with
 |nil=>cases new with
  |nil=>exact f
  |cons c new=>exact k
 |cons a es=>exact k
def adC{h:H}{s t eT sz:Nat}{es new:aB}(hn:t≠s):(CV h s eT sz es new).o t=h.o t:=by
 cases es with
 |nil=>cases new with
  |nil=>rfl
  |cons c new=>show(h.new s _).o t=_;rw[H.new,ic hn]
 |cons a es=>show(h.new s _).o t=_;rw[H.new,ic hn]
def adD{h:H}{s eT sz:Nat}{es new:aB}:(CV h s eT sz es new).y=h.y:=by
 cases es with
 |nil=>cases new<;>rfl
 |cons a es=>rfl
def ih:=af @aeA<|af @amr<|af @amA<|af @as_<|af @as9<|af @ata<|af @as8<|af @al2<|af @al1<|af @ajA<|af @ajz<|af @ajB<|af @aeu<|af @aem<|af @akP<|af @akN<|af @ald<|af @ajD<|af @ajE<|af @aqM<|af @aqN<|af @ajS<|af @ajT<|af @adC<|af @adD<|@c_y
def qI{κ:Type}[BEq κ](l:List<|κ×Bool)(k:κ):Option Bool:=match l with
 |[]=>ae
 |e::l=>bif k==e.1 then ad e.2 else qI l k
def mP{κ:Type}[BEq κ](l:List<|κ×Bool)(k:κ):Bool:=(qI l k).getD ab
def po{κ:Type}[BEq κ](l:List<|κ×Bool)(k:κ)(b:Bool):List (κ×Bool):=match l with
 |[]=>[(k,b)]
 |e::l=>bif k==e.1 then(e.1,b)::l else e::po l k b
def yS{κ:Type}[BEq κ][LawfulBEq κ](l:List<|κ×Bool)(k A:κ)(b:Bool):mP (po l k b) A=bif A==k then b else mP l A:=by
 unfold mP
 induction l with
 |nil=>simp only[po,qI];cases h:A==k<;>rfl
 |cons e l I=>
  simp only[po];cases h:k==e.1;simp only[br,qI]
  grind
  simp only[a8,qI]
  grind
abbrev hL{κ:Type}(f:κ->AV)(e:κ×Bool):AV×VV:=(f e.1,.aN<|.bool e.2)
def Dn{κ:Type}[BEq κ]{D:a_}{t:Nat}{f:κ->AV}(J:∀a b,bX D 10 t (f a) (f b)=.ok (a==b))(k:κ):∀l:List<|κ×Bool,oa D t (f k) (l.map<|hL f)=.ok ((qI l k).map λb=>.aN<|.bool b)
 |[]=>rfl
 |e::l=>by
  simp only[cL,oa,J,aO,qI,Dn J k l]
  grind
def EM{κ:Type}[BEq κ][LawfulBEq κ]{D:a_}{t:Nat}{f:κ->AV}(J:∀a b,bX D 10 t (f a) (f b)=.ok (a==b))(X:∀k,cU (f k) (f k)=aa)(k:κ)(b:Bool):∀l:List<|κ×Bool,oz (.aN<|.bool b) D t (f k) (l.map<|hL f)=.ok ((po l k b).map<|hL f)
 |[]=>rfl
 |e::l=>by
  simp only[cL,oz,J,aO,po,EM J X k b l]
  grind
section
variable{P:VT}{c:VC}{aN:Nat}{g:Bool}{d:Option Tmp}{ty:TypeId}{p:String}{a:Array Edge}{T:Vg}{h:H}
def aqK(t:Nat)(x y:Operand)(f:Bool):ec P c aN g ⟨d,.lookup t x y f,ty,p,a,ae⟩ T h=lM T h d g (zg P.D h t (bS T x) (bS T y) f):=bL aM
def aqL(t:Nat)(x y z:Operand):ec P c aN g ⟨d,.mapUpdate t x y z,ty,p,a,ae⟩ T h=lq T h d g (aO (BB P.D h t (bS T x) (bS T y)<|bS T z) λh=>.ok (.undef,h)):=bL aM
def aqO(t:Nat)(s:P.km (dk aN d)=ab):ec P c aN g ⟨d,.makeMap t ae,ty,p,a,ae⟩ T h=lq T h d g (h_ P.D h (bS T) (.makeMap t ae)<|dk aN d):=by rw[<-D7 P h (bS T) _ s];exact bL aM
def ab6(D:a_)(e:Operand->VV)(t s:Nat):h_ D h e (.makeMap t ae) s=aO (o9 D t) λ_=>.ok (.cz s<|(h.o s).ver+1,h.new s<|.map []):=rfl
def Mq(x:VO)(ver:Nat):R (List<|AV×VV):=bif ag x.ver ver then(match x.k with
 |.map l=>.ok l
 |_=>.error "")else .error ""
def Mp(s ver:Nat):o7 h (.cz s ver)=Mq (h.o s) ver:=rfl
def Mw(ver md:Nat)(l:List<|AV×VV):Mq ⟨ver,md,.map l⟩ ver=.ok l:=by simp[Mq]
def Vi(w:Option VV)(z:R VV):R VV:=match w with
 |ad v=>.ok v
 |ae=>z
def ajf(D:a_)(t:Nat)(x e:VV):zg D h t x e ab=aO (o9 D t) λi=>aO (o7 h x) λes=>aO (ib<|hc e) λk=>aO (bX D 10 i.1 k k) λr=>bif r then
 aO (oa D i.1 k es) λw=>Vi w (aO (yh D i.2) λz=>.ok z)else .error "":=rfl
def ajc{κ:Type}[BEq κ](l:List<|κ×Bool)(k:κ):Vi ((qI l k).map λb=>.aN<|.bool b) (.ok<|bV ab)=.ok (bV<|mP l k):=by unfold mP;cases qI l k<;>rfl
def aj2(D:a_)(t s ver:Nat)(k:VV)(b:Bool):BB D h t (.cz s ver) k (bV b)=aO (o9 D t) λi=>aO (o7 h<|.cz s ver) λes=>aO (ib<|hc k) λk=>aO (bX D 10 i.1 k k) λr=>bif r&&tq k then
 aO (oz (bV b) D i.1 k es) λes=>.ok (h.mod s<|.map es)else .error "":=rfl
def Ir(b:Bool)(h0 h:H)(v u:VV):(!b||q8 h0 h (bif b then v else u))=(!b||q8 h0 h v):=avc
def H_(D:a_)(t:Nat)(x y z:Operand):gP D (.mapUpdate t x y z)=ab:=rfl
def amC(D:a_)(t:Nat)(x:Operand)(n i mx:Option Operand):gP D (.slice t x n i mx)=ab:=rfl
def amy(D:a_)(f:Fn)(l r:Array Operand):gP D (.makeFunc f l r)=ab:=rfl
def Di(es:aB)(s v:Nat):nt h (b9 es s v)=cq h e8 (b9 es s v):=by cases es<;>rfl
def aeq(s ver:Nat):jn (.cz s ver)=.ok [.cz s ver]:=rfl
def akO(s ver:Nat):et (.cz s ver)=aa:=rfl
end
def pW{P:VT}{f b:Nat}{fn:Func}{xs:aC}{a:cV}{h:H}{r:VV×H}(j:P.D.func f=ad fn)(Q:fp P f (aA xs)=aa)(G:P.nv f=ae)(J:ki P fn.results.toList (cv P (cW P a) b (P.gk f) (fn.body.getD .skip) (gK xs) h)=.ok r):(vW P).i f b xs a h=.ok r:=by
 refine ZY ?_;unfold fp at Q;rw[j]at Q
 cases e:fn.body with
 |none=>simp only[e]at Q;cases Q
 |some v=>simp only[e,bW]at Q;have⟨⟨⟨⟨⟨z,I⟩,E⟩,X⟩,u⟩,U⟩:=Q;rw[e]at J;show(match P.nv f with|some g=>_|none=>jf P (cW P a) b f xs _)=_;rw[G];show jf P (cW P a) b f xs _=_;unfold jf;rw[j];simp only[e,z,I,E,X,iJ,a8];exact J
def ae1(P:VT)(rs:List ResultVar)(T:Vg)(h:H):ki P rs (.ok<|.bI T h)=aO (lK P h T rs) λq=>.ok (pc q,h):=rfl
def ae2(P:VT)(rs:List ResultVar)(T:Vg)(h:H):ki P rs (.ok<|.ret T h)=aO (lK P h T rs) λq=>.ok (pc q,h):=rfl
def jl(es:List<|List VV)(s d:Nat):Nat:=match es with
 |[]=>d
 |_=>s
def wK{D:a_}{h:H}{t u s d ver eT sz:Nat}{es:aB}{y:VV}{c:aC}(f:b6 (h.o s) es ver eT sz)(hn:aA es<536870912)(Q:kF h y=.ok (ab,[c]))(V:lZ D t u=.ok (eT,sz))(S:ag (aA c) sz=aa):
 kR D h t u (b9 es s ver) y d=.ok (b9 (es++[c]) (jl es s d)<|(h.o<|jl es s d).ver+1,h.new (jl es s d)<|.cells ab ab eT sz<|es++[c]):=by
 cases es with
 |nil=>simp only[kR,b9,jl,V,Q,aO,fW,S];rfl
 |cons a es=>
  have⟨l,j⟩:=f;have⟨U,j⟩:=j aY;have X:ah (aA (a::es)+[c].length) (2^30)=aa:=by simp only[ah,dh,sA];omega
  have A:ah [c].length (2^30)=aa:=rfl;show kR D h t u (.bh s ver 0<|aA<|a::es) y d=_;rw[JY];simp only[V,Q,aO,GU,S,A,iJ,a8,kJ,j,jb,X,AX,j',gX,jl];show _=(.ok (VV.bh s (ver+1) 0<|aA<|(a::es)++[c],_):R<|VV×H);rw[cN]
def hR:=af @aqK<|af @aqL<|af @aqO<|af @ab6<|af @Mp<|af @Mw<|af @ajf<|af @ajc<|af @aj2<|af @Ir<|af @H_<|af @amC<|af @amy<|af @Di<|af @aeq<|af @ae1<|af @ae2<|@akO
end Go.Dt.Vm
namespace Go.Dt
section
variable{ρ:Type}(D:a_)(call:iZ)(ch:i6)(N:Nat)
theorem y8(k:K ρ)(T:Rg)(σ:St):gd D call ch N .skip k T σ=k.bI T σ:=bL aM
theorem xl(k:K ρ)(T:Rg)(σ:St):gd D call ch N .ret k T σ=k.ret T σ:=bL aM
theorem UO(i:Nat)(k:K ρ)(T:Rg)(σ:St):gd D call ch N (.exit i) k T σ=k.exit i T σ:=bL aM
theorem xm(a b:Code)(k:K ρ)(T:Rg)(σ:St):gd D call ch N (.seq a b) k T σ=gd D call ch N a (DP (gd D call ch N b k) k) T σ:=bL aM
theorem y7(c:Operand)(a b:Code)(k:K ρ)(T:Rg)(σ:St):gd D call ch N (.cond c a b) k T σ=vj (cn D T c) (gd D call ch N a k T σ) (gd D call ch N b k T σ):=bL aM
theorem y6(i:Nat)(b:Code)(k:K ρ)(T:Rg)(σ:St):gd D call ch N (.block i b) k T σ=gd D call ch N b (DL i k) T σ:=bL aM
theorem aiH(b:Code)(k:K ρ)(T:Rg)(σ:St):gd D call ch N (.loop b) k T σ=aO (pZ (dd D call ch N b) T σ) k.iO:=bL aM
theorem sZ(i:Nat)(l:aH)(k:K ρ)(T:Rg)(σ:St):gd D call ch N (.region i l.toArray ab) k T σ=wm D call ch N l.toArray k.bI k.bp l T σ:=bL aM
theorem tu(ops:aG)(k:Rg->St->R ρ)(kp:AV->St->R ρ)(T:Rg)(σ:St):wm D call ch N ops k kp [] T σ=k T σ:=bL aM
theorem tt(ops:aG)(k:Rg->St->R ρ)(kp:AV->St->R ρ)(d:Option Tmp)(l:Op)(t:Nat)(p:String)(a:Array Edge)(rest:aH)(T:Rg)(σ:St):
 wm D call ch N ops k kp (⟨d,l,t,p,a,ae⟩::rest) T σ=nE D call ch N aa ⟨d,l,t,p,a,ae⟩ T σ (wm D call ch N ops k kp rest) kp:=bL aM
variable(g:Bool)(d:Option Tmp)(ty:Nat)(p:String)(a:Array Edge)(T:Rg)(σ:St)(k:Rg->St->R ρ)(kp:AV->St->R ρ)
def jG{α:Type}(g:Bool)(x y:α):α:=bif g then x else y
theorem rU{α:Type}(x y:α):jG aa x y=x:=bL aM
theorem Up{α:Type}(x y:α):jG ab x y=y:=bL aM
theorem BH(x:Operand):nE D call ch N g ⟨d,.move x,ty,p,a,ae⟩ T σ k kp=aO (jG g (.ok<|cn D T x)<|.ok .undef) λv=>k (cZ N T d v) σ:=bL aM
theorem Ef(x:Operand):nE D call ch N g ⟨d,.assign x,ty,p,a,ae⟩ T σ k kp=aO (jG g (.ok<|cn D T x)<|.ok .undef) λv=>k (cZ N T d v) σ:=bL aM
theorem akQ(e:Nat)(x:Operand):nE D call ch N aa ⟨d,.box e x,ty,p,a,ae⟩ T σ k kp=aO (Kg D e (cn D T x) σ.n) λq=>k (cZ N T d q.1) (σ.push q.2):=bL aM
theorem Wq(e:Nat):nE D call ch N aa ⟨d,.alloc e,ty,p,a,ae⟩ T σ k kp=aO (PW D e σ.n) λq=>k (cZ N T d q.1) (σ.push q.2):=bL aM
theorem akR(t:Nat)(x y:Operand):nE D call ch N g ⟨d,.indexAddr t x y,ty,p,a,ae⟩ T σ k kp=aO (jG g (indexAddr D t (cn D T x)<|cn D T y)<|.ok .undef) λv=>k (cZ N T d v) σ:=bL aM
theorem MJ(t:Nat)(x:Operand):nE D call ch N g ⟨d,.load t x,ty,p,a,ae⟩ T σ k kp=aO (jG g (jw D σ t<|cn D T x)<|.ok .undef) λv=>k (cZ N T d v) σ:=bL aM
theorem HD(t:Nat)(x y:Operand):nE D call ch N g ⟨d,.store t x y,ty,p,a,ae⟩ T σ k kp=aO (jG g (wt D σ t (cn D T x)<|cn D T y)<|.ok σ) λσ'=>k (cZ N T d .undef) σ':=bL aM
theorem Eg(l:BinOp)(t:Nat)(x y:Operand)(W:Nat):nE D call ch N g ⟨d,.binOp l t x y W,ty,p,a,ae⟩ T σ k kp=aO (jG g (binOp D l t (cn D T x) (cn D T y)<|pX x||pX y)<|.ok .undef) λv=>k (cZ N T d v) σ:=bL aM
theorem HC(t n:Nat)(O:List<|Nat×Operand):nE D call ch N aa ⟨d,.buildSlice t n O.toArray,ty,p,a,ae⟩ T σ k kp=aO (F5 D t n (O.map λq=>(q.1,cn D T q.2)) σ.n) λq=>k (cZ N T d q.1) (σ.push q.2):=bL aM
theorem akS(t:Nat)(x:Operand):nE D call ch N g ⟨d,.call ⟨.builtin .len,#[x],#[t]⟩,ty,p,a,ae⟩ T σ k kp=aO (jG g (nz D t<|cn D T x)<|.ok .undef) λv=>k (cZ N T d v) σ:=bL aM
theorem MI(t u:Nat)(x y:Operand):nE D call ch N g ⟨d,.call ⟨.builtin .append,#[x,y],#[t,u]⟩,ty,p,a,ae⟩ T σ k kp=aO (jG g (l_ D σ t u (cn D T x)<|cn D T y)<|.ok (.undef,σ)) λq=>k (cZ N T d q.1) q.2:=bL aM
theorem Wr(f:Operand)(I:List Operand)(l:Array Nat):nE D call ch N g ⟨d,.call ⟨.value f,I.toArray,l⟩,ty,p,a,ae⟩ T σ k kp=aO (jG g (yC D call ch (cn D T f) (I.map<|cn D T) σ)<|.ok (.ret .undef,σ)) λq=>ts q (λv σ=>k (cZ N T d v) σ) kp:=bL aM
theorem tB(i:Nat):cn D T (.tmp i)=T i:=bL aM
theorem Z_(f:Nat):cn D T (.func f)=.func (.func f) [] []:=bL aM
theorem Od(C:IntKind)(n:Int):cn D T (.const<|.int C n)=bY C n:=bL aM
theorem IN(n c:Nat):cn D T (.const<|.slice ae n c)=.aN (.slice ae n c):=bL aM
theorem Bg(i:Nat):pX (.tmp i)=ab:=bL aM
theorem Bf(v:Value):pX (.const v)=aa:=bL aM
def hK(D:a_)(f:Nat):Bool:=match sM D f []with
 |.ok (.enter _ _)=>aa
 |_=>ab
theorem Q5{f:Nat}{args:aD}(h:hK D f=aa):sM D f args=.ok (.enter f args):=by
 unfold hK at h;have j:=h;unfold sM at j|-
 cases t:D.func f with
 |none=>rw[t]at j;cases j
 |some i=>
  rw[t]at j;simp only at j|-;by_cases n:(i.name== "runtime.NumGoroutine")=aa;rw[b8 n]at j;cases j
  grind
theorem Ax{f:Nat}{args:aD}(h:hK D f=aa):yC D call ch (.func (.func f) [] []) args σ=call f args σ:=by have j:=Q5 D (args:=args) h;unfold yC;simp only[pL,vG,b7,ea,j];rfl
end
def pE(x:R<|cY×St)(P:AV->St->Prop):Prop:=∃v σ',x=.ok (.ret v,σ')/\ P v σ'
theorem FE{v:AV}{σ:St}{P:AV->St->Prop}:pE (.ok (.ret v,σ)) P=P v σ:=by apply propext;constructor;rintro⟨i,z,h,M⟩;cases h;exact M;exact λh=>⟨v,σ,aM,h⟩
theorem pE.mono{x:R (cY×St)}{P Q:AV->St->Prop}(h:pE x P)(k:∀v σ,P v σ->Q v σ):pE x Q:=by have⟨v,σ,e,M⟩:=h;exact⟨v,σ,e,k v σ M⟩
theorem pE.call{x:R (cY×St)}{W:AV->St->Prop}(h:pE x W){F:AV->St->R (cY×St)}{kp:AV->St->R (cY×St)}{P:AV->St->Prop}(k:∀v s,W v s->pE (F v s) P):pE (aO x λq=>ts q F kp) P:=by have⟨v,s,e,M⟩:=h;rw[e];exact k v s M
def Bv(D:a_)(t:Nat)(o:AO)(k:Nat):R AV:=
 match o with
 |.cells cs _ _ _=>do
  let d<-cP D t
  if rX d then do
   let n<-size D t
   let l<-fO cs k n
   return .agg l
  else match cs[k]? with
   |ad v=>return v
   |ae=>.error ""
 |_=>.error ""
theorem Bq{D:a_}{σ:St}{t b k:Nat}(h:b<σ.n):jw D σ t (.aR b k)=Bv D t (σ.a7 b) k:=by simp only[jw,cellsOf,h,dj,Bv];cases σ.a7 b<;>rfl
def Hb(D:a_)(t:Nat):Bool:=match cP D t with
 |.ok d=>!rX d
 |.error _=>ab
def JN(D:a_)(t n:Nat):Bool:=match cP D t,size D t with
 |.ok d,.ok m=>rX d&&m==n
 |_,_=>ab
def J5(cs:List AV)(k:Nat):R AV:=match cs[k]? with
 |ad v=>.ok v
 |ae=>.error ""
theorem DV{D:a_}{t:Nat}(h:Hb D t=aa)(cs:aD)(e sz:Nat)(v:Bool)(k:Nat):Bv D t (.cells cs e v sz) k=J5 cs k:=by
 unfold Hb at h;unfold Bv J5
 cases X:cP D t with
 |error e=>rw[X]at h;cases h
 |ok d=>rw[X]at h;simp only[ca,nU];rw[cG auF];rfl
theorem ajo{D:a_}{t n:Nat}(h:JN D t n=aa)(cs:aD)(e sz:Nat)(v:Bool)(k:Nat):Bv D t (.cells cs e v sz) k=aO (fO cs k n) λl=>.ok (.agg l):=by
 unfold JN at h;unfold Bv
 cases X:cP D t with
 |error e=>rw[X]at h;cases h
 |ok d=>
  rw[X]at h
  cases s:size D t with
  |error e=>rw[s]at h;cases h
  |ok m=>rw[s]at h;simp only[bW,nj]at h;obtain⟨V,rfl⟩:=h;simp only[ca,nU];rw[b8 V];rfl
theorem zk(σ:St)(o:AO):(σ.push o).n=σ.n+1:=rfl
theorem adk{D:a_}{t s:Nat}(h:size D t=.ok s)(x:AV)(n:Nat):Kg D t x n=.ok (.aR n 0,.cells x.cells t aa s):=by simp only[Kg,h,ca,nU];rfl
theorem adK(l:aD):AV.cells (.agg l)=l:=rfl
theorem CK(a:AV)(l:aD):mH (a::l) 0=a:=rfl
theorem FP(a:AV)(l:aD)(i:Nat):mH (a::l) (i+1)=mH l i:=rfl
end Go.Dt
namespace Go.Dt
def rA(x:R Oc)(P:Oc->Prop):Prop:=∃o,x=.ok o/\ P o
theorem JA{o:Oc}{P:Oc->Prop}:rA (.ok o) P=P o:=by apply propext;constructor;rintro⟨j,h,M⟩;cases h;exact M;exact λh=>⟨o,aM,h⟩
theorem rA.call{x:R (cY×St)}{W:AV->St->Prop}(h:pE x W){F:AV->St->R Oc}{kp:AV->St->R Oc}{P:Oc->Prop}(k:∀v s,W v s->rA (F v s) P):rA (aO x λq=>ts q F kp) P:=by have⟨v,s,e,M⟩:=h;rw[e];exact k v s M
def Rd(I:Nat->Rg->St->Prop)(Q:Oc->Prop)(m:Nat):Oc->Prop
 |.bI T σ=>∃m',m'<m/\ I m' T σ
 |o=>Q o
section
variable{D:a_}{N:Nat}{b:Code}
theorem ajs(I:Nat->Rg->St->Prop)(Q:Oc->Prop)(h:∀m T σ,I m T σ->rA (gd D (dw D) (fI D) N b ui T σ) (Rd I Q m)):∀n m,m<=n->∀T σ,I m T σ->rA (pZ (dd D (dw D) (fI D) N b) T σ) Q:=by
 intro n
 induction n with
 |zero=>
  intro m Y T σ y;have⟨o,e,M⟩:=h m T σ y;have B:=C8 D (dw D) (fI D) N e
  cases o with
  |bI c z=>have⟨W,V,_⟩:=M;omega
  |exit i c z=>exact⟨_,Vw B,M⟩
  |ret c z=>exact⟨_,Vy B,M⟩
  |bp v z=>exact⟨_,Vx B,M⟩
 |succ n G=>
  intro m Y T σ y;have⟨o,e,M⟩:=h m T σ y;have B:=C8 D (dw D) (fI D) N e
  cases o with
  |bI c z=>have⟨W,V,j⟩:=M;have⟨u,X,A⟩:=G W aW c z j;exact⟨u,ajr B X,A⟩
  |exit i c z=>exact⟨_,Vw B,M⟩
  |ret c z=>exact⟨_,Vy B,M⟩
  |bp v z=>exact⟨_,Vx B,M⟩
theorem rA.loop{k:K Oc}{P:Oc->Prop}{j:Rg}{σ0:St}(I:Nat->Rg->St->Prop)(Q:Oc->Prop)(C:Nat)(start:I C j σ0)(G:∀m T σ,I m T σ->rA (gd D (dw D) (fI D) N b ui T σ) (Rd I Q m))(dC:∀o,Q o->rA (k.iO o) P):
 rA (aO (pZ (dd D (dw D) (fI D) N b) j σ0) k.iO) P:=by
 have⟨o,e,q⟩:=ajs I Q G C C (bu _) j σ0 start;exact at6
end
end Go.Dt
namespace Go.Dt
section
variable{D:a_}
def anG{f:FuncId}{fn:Func}{args:aD}{σ:St}{r:cY×St}{N:Nat}{rs:List ResultVar}(j:D.func f=ad fn)(X:fn.body.isSome=aa)(G:fn.ntmps=N)(x:fn.results.toList=rs)
 (l:aA args<=N)(h:gd D (dw D) (fI D) N (sK D f) (vJ D rs) (mH args) σ=.ok r):
 ∃c m,fn.body=ad c/\ (cg D m).run (cA [] ae f (args++gF (fn.ntmps-aA args)) [.code c]) ae σ=.ok (r.1,ae,r.2):=by
 subst G x;have⟨c,Q⟩:=JC.1 X;have e:sK D f=c:=by simp[sK,j,Q]
 rw[e]at h;have h:=vn _ _ _ _ _ _ _ _ _ h;rw[bF]at h;have⟨o,B,h⟩:=h;have k:=rK (ds:=[]) (rd:=ae) (D:=D) (N:=fn.ntmps) f c (mH args) (args++gF (fn.ntmps-aA args)) σ o (TE.start l) B;refine⟨c,?_⟩
 cases o with
 |bI d z=>
  have⟨p,T,k⟩:=k
  have⟨m,Y⟩:=k [] 2 (r.1,ae,r.2) (by
   show dG D (cg D 1) (cA [] ae f p []) ae z=_
   exact A5 j T h 0)
  exact⟨m,Q,Y⟩
 |ret d z=>have⟨p,T,k⟩:=k;have⟨m,Y⟩:=k [] 1 (r.1,ae,r.2)<|A5 j T h 0;exact⟨m,Q,Y⟩
 |exit id d z=>cases h
 |bp v z=>
  have⟨p,k⟩:=k
  have⟨m,Y⟩:=k [] 1 (r.1,ae,r.2) (by
   simp only[K.iO]at h;cases h
   rfl)
  exact⟨m,Q,Y⟩
def af2{fid g:FuncId}{fn J:Func}{gc:Code}{L:aD}{T:Rg}{N:Nat}{cap:aD}{σ σ':St}{v:AV}{r:cY×St}
 (c:sM D g cap=.ok (.enter g cap))(o:D.func g=ad J)(t:J.body=ad gc)
 (w:∃m,(cg D m).run (cA [] ae g (cap++gF (J.ntmps-aA cap)) [.code gc]) ae σ=.ok (.ret v,ae,σ'))
 (j:D.func fid=ad fn)(S:TE N T L)(h:lf D σ' T (λq=>.ok (.ret<|ou q,σ')) fn.results.toList=.ok r):
 ∃n,(cg D n).finish fid L [.fn (.func g) cap []] ae ae σ=.ok (r.1,ae,r.2):=by
 have⟨m,Y⟩:=w;have p:=A5 j S h 0;have V:=(gN<|j8 m 1).run _ _ _ _ Y;have a:=(gN<|j9 m 1).finish _ _ _ _ _ _ _ p;refine⟨max m 1+1,?_⟩;show pR D (cg D<|max m 1) fid L [.fn (.func g) cap []] ae ae σ=_;have e:pP D g cap=.ok (cA [] ae g (cap++gF (J.ntmps-aA cap)) [.code gc]):=by simp only[pP,o,t];rfl
 simp only[pR,vG,b7,c,ca,aO,e,Cx,V];exact a
def Steps.defer{N:Nat}{fn:FuncId}{L:aD}{T:Rg}{σ:St}{k:List fQ}{i:Nat}{E O:Oper}{v:AV}{d:bT}(S:TE N T L)(h:E.guard=ae)(o:O.guard=ae)
 (h1:execOp D (cn D T) σ E.op=.ok (.value v,σ))(a:execOp D (cn D<|cZ N T E.dst v) σ O.op=.ok (.defer d,σ)):
 ∃f,TE N (cZ N (cZ N T E.dst v) O.dst .undef) f/\ Steps D (cA [] ae fn L<|.code (.region i #[E,O] ab)::k) σ (cA [d] ae fn f k) σ:=by
 refine⟨cu (cu L E.dst v) O.dst .undef,(S.cu _ _).cu _ _,Steps.one λF=>?_⟩;have M:ji #[E,O] E L=aa:=by unfold ji;rw[h]
 have Z:ji #[E,O] O (cu L E.dst v)=aa:=by unfold ji;rw[o]
 have r:q7 D F.call F.round ab #[E,O] ab L [] ae σ=.ok (.go (cu (cu L E.dst v) O.dst .undef) [d] ae σ):=by unfold q7;simp only[fR,ff];show lg D F.call F.round ab #[E,O] [E,O] L [] ae σ=_;unfold lg;rw[M,b8 rfl];unfold mr;rw[S.eval,h1];show(lg D F.call F.round ab #[E,O] [O] (cu L E.dst v) [] ae σ)=_;unfold lg;rw[Z,b8 rfl];unfold mr;rw[(S.cu E.dst v).eval,a];rfl
 show(q7 D F.call F.round ab #[E,O] ab L [] ae σ>>=_)=_;rw[r];rfl
end
