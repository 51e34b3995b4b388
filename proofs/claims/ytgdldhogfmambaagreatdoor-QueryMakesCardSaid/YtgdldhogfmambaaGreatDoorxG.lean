/- The walks, third part: runs, matchers, registered queries, the root; and the way from memory to memory. No statement of this seat stands here, and no condition. -/
import Derived.ChangeArms
import Derived.DataReads
import Derived.ChangeShapes
import Derived.OpenShut
import Derived.Test.YtgdldhogfmambaaGreatDoorxF
open Bool renaming true->aa,false->ab
open Option renaming some->ad,none->ae
open And renaming intro->af
open Nat renaming beq->ag,blt->ah,ble->ai,shiftLeft->aj
open List renaming replicate->ak,range->ao,map->aq,take->ar,drop->au,length->aA
open Go.IntKind renaming wrap->av
open BitVec renaming ofInt->aw
open Decidable renaming decide->ax
open Go.Result renaming andThen_ok->ay
open Go.Sem renaming run_pure->az
set_option linter.all false
noncomputable section
namespace Go.Proofs.YtgdldhogfmambaaGreatDoor
open Go Go.Dt Go.Dt.Vm
set_option maxRecDepth 100000
set_option maxHeartbeats 4000000
def gA.cc{N:List bl}{m:Nat}(h:gA N m)(i:Int):∀(y:List bo),(∀s∈y,bk s.bH)->gA (td N i y) (m+aA y):=by
 have:∀(y:List bo) (N:List bl) (a m:Nat),gA N m->a<aA N->(∀s∈y,bk s.bH)->gA (y.foldl fZ (N,a)).1 (m+aA y):=by
  intro y
  induction y with
  |nil=>intro N a m h _ _;exact h
  |cons s y I=>intro N a m h b B;have⟨C,w⟩:=NM h b s<|B s ei;have:=I _ _ (m+1) C w λs Y=>B s<|dR _ Y;rw[gn,cr];rw[show m+(aA y+1)=m+1+aA y by omega];exact this
 intro y Q;exact(this y N 0 m h h.p Q).end _ _
def gA.build:∀(M:List<|List bo) {N:List bl} {m:Nat} (i:Int),gA N m->(∀y∈M,aA y<=12/\ ∀s∈y,bk s.bH)->gA (oQ i N M) (m+12*aA M)
 |[],_,_,_,h,_=>h
 |y::M,N,m,i,h,Q=>by have⟨V,a⟩:=Q y ei;have:=gA.build M (i+1) ((h.cc i y a).le (m':=m+12) aW) λz o=>Q z<|dR _ o;rw[oQ,cr,show m+12*(aA M+1)=m+12+12*aA M by omega];exact aw0
def abi:gA [ov] 0:=⟨aY,aY,λt D=>by cases D;rfl,λt D=>by rw[ku]at D;subst D;exact⟨λc Q=>(by cases Q),bu _,auz⟩⟩
def NZ{M:List (List bo)}(o:∀y∈M,∀s∈y,bk s.bH):hU (jA M):=by unfold jA;cases e:gj M==0;exact⟨auz,λt D=>by cases D⟩;have e:gj M=0:=avF;have⟨n,I⟩:=Eh e;have P:=gA.build M 0 abi λy Q=>⟨(I y Q).1,o y Q⟩;rw[a8];refine⟨?_,λt D=>?_⟩;have:=P.n;show aA (oQ 0 [ov] M)<1048576;omega;have⟨_,h,a⟩:=P.k t D;omega
def aeK{N:List bl}(e:hU N):∀(k a:Nat),∀s∈oU N k a,bk s.bH:=by
 intro k
 induction k with
 |zero=>intro a s B;cases B
 |succ k I=>
  intro a s B;rw[oU]at B;cases h:ag a 0;rw[h]at B
  rcases dz.1 B with B|B
  subst B;unfold x9
  cases b:N[a]? with
  |none=>show(0:Nat)<1048576;omega
  |some t=>exact(e.2 t<|nO b).1
  exact I _ s B;rw[h]at B;cases B
abbrev hW(N:List bl)(S:List Nat):List (List bo):=S.map<|iH N
def ZQ{N:List bl}(V:q' N){a:Nat}(b:a<aA N):aA (iH N a)<=a:=by unfold iH;rw[qs];exact Gk V a a (bu _) b
def ZR{N:List bl}{S:aK}(e:hU N)(h:nD N)(k:pd N S):bk (hW N S)/\ ∀y∈hW N S,bk y/\ ∀s∈y,bk s.bH:=by refine⟨?_,λy Q=>?_⟩;show aA (S.map<|iH N)<1048576;rw[bj,k.n];have:=Df N;have:=h.l;omega;obtain⟨a,b,rfl⟩:=fv.1 Q;obtain⟨i,G,rfl⟩:=zZ b;have⟨V,_⟩:=k.a i G;refine⟨?_,λs B=>aeK e _ _ s<|List.mem_reverse.1 B⟩;have:=ZQ h.p V;have:=h.l;omega
def af7{h:H}{es:aB}{s v eT sz:Nat}(b:b6 (h.o s) es v eT sz)(n:Nat)(h':H):yQ h' n ((cp h<|u5 es s).o s) es s v=.ok (.fz es,u5 es s):=by
 cases es with
 |nil=>rfl
 |cons a es=>
  have⟨U,f⟩:=b.2 aY;have e:(cp h<|u5 (a::es) s).o s=⟨v,U,.cells ab aa eT sz<|a::es⟩:=by show(fM h s).o s=_;rw[Dr,f];rfl
  have X:ai (0+aA (a::es)) (aA<|a::es)=aa:=avx;rw[e];simp only[yQ,jb,aO,br,X,a8,e6,bP];rfl
def rH(N:List bl)(S:List Nat):Bool:=gj (hW N S)==0&&dK fV (jA<|hW N S) N
abbrev Hi(N:List bl)(S:List Nat):VV:=.fz<|(hW N S).map lC
def aaQ(N:List bl)(p:hU N)(Z:k7 N)(r:VV)(A:(∀S,nD N->pd N S->r=.bn [Hi N S,nL S,bV<|rH N S])/\ (¬nD N->r=.bn [.fz [],.fz [],bV ab])):aS VP 285 [.agg<|dA N] r:=by
 by_cases I:nD N;have⟨S,J⟩:=GA I Z;rw[A.1 S I J];have D:=aa4 N p Z (.bn [nL S,bV aa]) ⟨λF l j=>by rw[J.IJ I j],λh=>absurd I h⟩;have⟨L,P⟩:=ZR p I J;have O:=aar (hW N S) L P;have f:=asr (jA<|hW N S) N<|NZ λy W=>(P y W).2;have m:aA S<1048576:=by have:aA (S.map<|iH N)<1048576:=L;rwa[bj]at this
 refine gO Tryz.f285.eq_1 λw y=>?_;refine S1 D.bE ?_;refine lF 0 (aA S) (λi T h=>T 1=.aR 1 1 0 0/\ T 5=nL S/\ T 19=nL S/\ T 20=iV (aA S)/\ T 21=iV i/\ h.o 1=⟨1,0,.cells aa ab 38 1 [dA N]⟩/\ h.y=y/\ ∃v,T 7=b9 ((hW N<|S.take i).map lC) 30 v/\ b6 (h.o 30) ((hW N<|S.take i).map lC) v 316 1) ?_ ?_ ?_;exact auG;rintro i T h G ⟨U,c,M,C,x,V,z,v,e,b⟩;have Y:i<9223372036854775807:=aW;have⟨l,_⟩:=J.a i G;have u:=aa5 N S[i] l p I.p;have B:∀h:H,cF h (ae,1) (nL S) (i:Int)=.ok (.bA (nC S[i]) 0):=λh=>db (s:=1) nC S i G;have t:aA ((hW N<|S.take i).map lC)<536870912:=aul;have g:(hW N<|S.take<|i+1).map lC=(hW N<|S.take i).map lC++[lC<|iH N S[i]]:=by rw[ej G,hW,dg,dg];rfl
 rw[g];generalize S[i]=a at*;refine bq U c M C x e V (a6 G) B @bd u.bE (iM b t) ?_;refine⟨z,v+1,aM,?_⟩;rw[b.1];exact auh;rintro T h ⟨U,c,M,C,x,V,z,v,e,b⟩;rw[bP]at e b;have X:=af7 b;have n:(cp h<|u5 ((hW N S).map lC) 30).o 1=⟨1,0,.cells aa ab 38 1 [dA N]⟩:=by rw[Lf aT,V]
 have d:rH N S=(gj (hW N S)==0&&dK fV (jA<|hW N S) N):=rfl;generalize rH N S=q at*;generalize jA (hW N S)=Q at*;generalize gj (hW N S)=E at*;generalize dK fV Q N=q2 at*;cases k:E==0;exact avs;exact avs;rw[A.2 I];have D:=aa4 N p Z (.bn [.fz [],bV ab]) ⟨λF l j=>absurd l I,λh=>rfl⟩;refine gO Tryz.f285.eq_1 λw y=>?_;exact S1 D.bE tr
def pT(N:List bl):Prop:=nD N/\ ∃S,pd N S/\ rH N S=aa
open Classical in
def qy(N:List bl):Int:=if pT N then 0 else 3
def AD{N:List bl}(h:pT N):qy N=0:=by unfold qy;rw[b8 h]
def yE{N:List bl}(h:¬pT N):qy N=3:=by unfold qy;rw[cG h]
def TK{N:List bl}{S:aK}(h:nD N)(k:pd N S):qy N=bif rH N S then 0 else 3:=by cases c:rH N S;refine yE λ⟨_,M,e,d⟩=>?_;rw[e.IJ h k,c]at d;cases d;exact AD ⟨h,S,k,c⟩
def aaG(N:List bl)(e:hU N)(l:k7 N):aS VP 219 [.agg<|dA N] (iV<|qy N):=by by_cases I:nD N;have⟨S,r⟩:=GA I l;have g:=aaQ N e l (.bn [Hi N S,nL S,bV<|rH N S]) ⟨λM V a=>by rw[r.IJ I a],λh=>absurd I h⟩;rw[TK I r];generalize rH N S=q at*;refine gO Tryz.f219.eq_1 λw y=>?_;cases q;exact S1 g.bE tr;exact S1 g.bE tr;have g:=aaQ N e l (.bn [.fz [],.fz [],bV ab]) ⟨λM V a=>absurd V I,λh=>rfl⟩;rw[yE λh=>I h.1];refine gO Tryz.f219.eq_1 λw y=>?_;exact S1 g.bE tr
def lE(N:List bl)(n:Int):Int:=bif qy N==0 then(bif ax (n<0)||ax ((aA N:Int)<=n)then 2 else 0)else qy N
def fX(N:List bl)(n:Int):List Int:=bif lE N n==0 then nh (iH N n.toNat)else[]
def MY{N:List bl}{n:Int}(h:lE N n=0):pT N/\ ∃a:Nat,n=(a:Int)/\ a<aA N:=by
 unfold lE at h;by_cases o:pT N;refine⟨o,n.toNat,?_⟩
 grind
 rw[yE o]at h;cases h
def N7{N:List bl}(e:hU N)(V:q' N){a:Nat}(b:a<aA N):bk (iH N a):=by have:=ZQ V b;have:aA N<1048576:=e.1;omega
def aaR(N:List bl)(n:Int)(X:hU N)(l:k7 N):aS VP 286 [.agg<|dA N,iV n] (.bn [iL<|fX N n,iV<|lE N n]):=by
 have g:=aaG N X l;unfold fX;by_cases p:lE N n=0;obtain⟨o,a,rfl,b⟩:=MY p;rw[p,c6];rw[AD o]at g;have h:ax ((a:Int)<0)=ab:=aY;have j:ax ((aA N:Int)<=a)=ab:=auI;have d:=aa5 N a b X o.1.p;have s:=ast (iH N a)<|N7 X o.1.p b;show aS VP 286 _<|.bn [iL<|nh<|iH N a,iV 0];refine gO Tryz.f286.eq_1 λw y=>?_;exact Z3 g.aP d.bE s.bE tr;have q:(lE N n==0)=ab:=by simpa using p
 rw[q,br];show aS VP 286 _<|.bn [.fz [],iV<|lE N n];unfold lE at p|-;generalize qy N=e at*;cases f:e==0;have r:(e !=0)=aa:=avh;refine gO Tryz.f286.eq_1 λw y=>?_;exact axa;have r:(e !=0)=ab:=avh;rw[f,a8]at p;cases c:ax (n<0)||ax ((aA N:Int)<=n);rw[c]at p;exact absurd aM p;show aS VP 286 _<|.bn [.fz [],iV 2];refine gO Tryz.f286.eq_1 λw y=>?_;exact axa
def arP(N:List bl)(n:Int)(e:hU N)(l:k7 N):aS VP 221 [.agg<|dA N,iV n] (.bn [iV<|aA<|fX N n,iV<|lE N n]):=by have g:=aaR N n e l;generalize fX N n=L at*;refine gO Tryz.f221.eq_1 λw y=>?_;exact S1 g.bE tr
abbrev lX(y:List bo):VV:=.fz<|y.map bm
structure sj(N:List bl)(n i:Nat)(sn:List Bool)(O:List VV):Prop where
 s:aA sn=n
 o:aA O=n
 A:∀j (hj:j<aA N),j<i->0<=N[j].cc->∃k:Nat,N[j].cc=(k:Int)/\ k<n/\ sn[k]?=ad aa/\ O[k]?=ad (lX<|iH N j)
 B:∀k:Nat,sn[k]?=ad aa->∃j,∃hj:j<aA N,j<i/\ N[j].cc=(k:Int)
 C:∀j l (hj:j<aA N) (hl:l<aA N),j<i->l<i->0<=N[j].cc->N[j].cc=N[l].cc->j=l
def sj.zero(N:List bl)(n:Nat)(c:VV):sj N n 0 (ak n ab) (ak n c):=⟨jR,jR,λj u h=>absurd h<|gH _,λk f=>(by rw[List.getElem?_replicate]at f;split at f<;>cases f),λj l u P h=>absurd h<|gH _⟩
def sj.neg{N:List bl}{n i:Nat}{W:List Bool}{O:aC}(h:sj N n i W O)(G:i<aA N)(hn:N[i].cc<0):sj N n (i+1) W O:=by
 refine⟨h.s,h.o,λj u w Q=>?_,λk v=>?_,λj l u P w b Q e=>?_⟩;by_cases f:j=i;subst f;omega;exact h.A j u aW Q;have⟨j,u,V,a⟩:=h.B k v
 grind
 by_cases f:j=i;subst f;omega;by_cases t:l=i;subst t;omega;exact h.C j l u P aW aW Q e
def sj.add{N:List bl}{n i k:Nat}{W:List Bool}{O:aC}(h:sj N n i W O)(G:i<aA N)(v:N[i].cc=(k:Int))(a:k<n)(J:W[k]?=ad ab):sj N n (i+1) (W.set k aa) (O.set k<|lX<|iH N i):=by
 have X:∀j (u:j<aA N),j<i->N[j].cc≠(k:Int):=λj u w e=>by
  have⟨U,g,_,Z,_⟩:=h.A j u w aW
  grind
 refine⟨by rw[lR];exact h.s,by rw[lR];exact h.o,λj u w Q=>?_,λ(q:Nat) M=>?_,λj l u P w b Q e=>?_⟩;by_cases f:j=i;subst f;exact⟨k,v,a,by rw[rz,b8 rfl,b8<|by rw[h.s];exact a],by rw[rz,b8 rfl,b8<|by rw[h.o];exact a]⟩;have⟨q,g,Y,Z,z⟩:=h.A j u aW Q;have V:k≠q:=λe=>X j u aW (by rw[g,e])
 grind
 by_cases f:k=q;subst f;exact⟨i,G,aW,v⟩;rw[rz,cG f]at M;have⟨j,u,y,p⟩:=h.B q M
 grind
 by_cases f:j=i
 grind
 by_cases t:l=i
 grind
 exact h.C j l u P aW aW Q e
def Ei(N:List bl):Prop:=nD N/\ 2<=aA N/\ ∀i (G:i<aA N),-1<=N[i].cc
def ajX{h:H}{U:Operand->VV}{l c:Operand}{s:Nat}:h_ VP.D h U (.makeSlice 239 l c) s=aO (jK<|U l) λn=>aO (jK<|U c) λm=>bif ag n m&&ah n (2^30)then .ok (.bh s ((h.o s).ver+1) 0 n,h.new s<|.cells ab ab 316 1<|kr [.fz []] n)else .error "":=CH aof atk aV
def aj0{h:H}{U:Operand->VV}{l c:Operand}{s:Nat}:h_ VP.D h U (.makeSlice 406 l c) s=aO (jK<|U l) λn=>aO (jK<|U c) λm=>bif ag n m&&ah n (2^30)then .ok (.bh s ((h.o s).ver+1) 0 n,h.new s<|.cells ab ab 4 1<|kr [bV ab] n)else .error "":=CH aol atl aV
def Nh(c:aC):∀n,kr c n=ak n c
 |0=>rfl
 |n+1=>by rw[kr,Nh c n];rfl
abbrev QV(b:Bool):List VV:=[bV b]
def sj.dC{N:List bl}{S:aK}{n:Nat}{W:List Bool}{O:aC}(h:sj N n (aA N) W O)(hn:n=aA (kX N))(f:pd N S):O=(hW N S).map lX:=by
 apply uT;intro k;by_cases a:k<n;have z:k<aA S:=by rw[f.n];omega
 have⟨V,p⟩:=f.a k z;have⟨e,g,_,_,Q⟩:=h.A S[k] V V aW
 grind
 rw[mE<|by rw[h.o];omega,mE<|by rw[pB,bj,f.n];omega]
def Rr{p:Nat->Bool}{i:Nat}:(aA ((ao<|i+1).filter p):Int)=bif p i then(aA ((ao i).filter p):Int)+1 else(aA ((ao i).filter p):Int):=by
 rw[SI,cN]
 grind
def aaI(N:List bl)(z0:hU N)(C0:k7 N)(r:VV)(D:(∀S,Ei N->pd N S->r=.bn [Hi N S,bV aa])/\ (¬Ei N->r=.bn [.fz [],bV ab])):aS VP 227 [.agg<|dA N] r:=by
 have M0:aA N<1048576:=z0.1;cases d:ax ((aA N:Int)<2)||ax (769<(aA N:Int));have a0:=d;rw[gz]at a0;have⟨b0,c0⟩:=a0;have d0:2<=aA N/\ aA N<=769:=by simp only[cE]at b0 c0;omega
 refine gO Tryz.f227.eq_1 λw y=>?_;refine S2 b0 c0 ?_;refine lF 0 (aA N) (λi T h=>T 1=.aR 1 1 0 0/\ T 4=iV (aA<|(ao i).filter<|gD N)/\ T 5=iV i/\ h.o 1=⟨1,0,.cells aa ab 38 1 [dA N]⟩/\ h.y=y/\ (∀j (u:j<aA N),j<i->(0<j->0<=N[j].dT/\ N[j].dT<j)/\ N[j].dJ=ax (0<=N[j].cc)/\ -1<=N[j].cc)) ?_ ?_ ?_;refine S0 ?_;exact⟨aM,aM,λj u h=>absurd h<|gH _⟩;rintro i T h G ⟨J,X,B,E,U,e0⟩;have r0:i<9223372036854775807:=aW;have C:=mw G;have V:=Rr (p:=gD N) (i:=i);have D0:aA ((ao i).filter<|gD N)<=i:=by have:=tF (gD N)<|ao i;rwa[nN]at this
 have s0:gD N i=N[i].dJ:=by unfold gD;rw[cx G];rfl
 have f0:¬((0<i->0<=N[i].dT/\ N[i].dT<i)/\ N[i].dJ=ax (0<=N[i].cc)/\ -1<=N[i].cc)->r=.bn [.fz [],bV ab]:=λg0=>D.2 λh=>g0 ⟨λl=>h.1.p i G l,h.1.e i G,h.2.2 i G⟩;have Y:(0<i->0<=N[i].dT/\ N[i].dT<i)/\ N[i].dJ=ax (0<=N[i].cc)/\ -1<=N[i].cc->∀j (u:j<aA N),j<i+1->(0<j->0<=N[j].dT/\ N[j].dT<j)/\ N[j].dJ=ax (0<=N[j].cc)/\ -1<=N[j].cc:=λi0 j u E0=>by by_cases F0:j=i;subst F0;exact i0;exact e0 j u aW
 rw[s0]at V;generalize aA ((ao<|i+1).filter<|gD N)=n1 at*;generalize aA ((ao i).filter<|gD N)=n0 at*;have A0:av .i64 ((n0:Int)+1)=(n0:Int)+1:=d' _ aW aW;generalize N[i]=t at*;cases Q:(t.dJ !=ax (0<=t.cc))||ax (t.cc< -1)||(ax (0<(i:Int))&&(ax (t.dT<0)||ax ((i:Int)<=t.dT)));have i0:(0<i->0<=t.dT/\ t.dT<i)/\ t.dJ=ax (0<=t.cc)/\ -1<=t.cc:=by
  rw[gz,gz,OH,gz]at Q;have⟨⟨h2,A⟩,h1⟩:=Q;simp only[cE]at h1 A;refine⟨λl=>?_,by simpa[bne]using h2,aW⟩
  rcases h1 with h1|h1<;>omega
 have j0:=Y i0;cases o:t.dJ;rw[o]at Q V;refine S9 J X B E (a6 G) C @bd Q o ?_;exact⟨by rw[show(n1:Int)=n0 from V],U,j0⟩;rw[o]at Q V;refine fm J X B E (a6 G) C @bd Q o A0 ?_;exact⟨by rw[show(n1:Int)=n0+1 from V];rfl,U,j0⟩;have t0:=f0 λi0=>by
  have⟨h1,h2,h6⟩:=i0;rw[iB,iB,bW,iB]at Q;simp only[c_]at Q
  rcases Q with(A|A)|⟨A,h4⟩
  rw[h2]at A;simp at A;omega;have:=h1 aW;omega
 rw[t0];cases o:t.dJ;rw[o]at Q;refine S9 J X B E (a6 G) C @bd Q o ?_;rw[U];rw[o]at Q;refine fm J X B E (a6 G) C @bd Q o A0 ?_;rw[U];rintro T h ⟨J,X,B,E,U,e0⟩;have B0:q' N:=λj u l=>(e0 j u u).1 l;have G0:∀i (G:i<aA N),N[i].dJ=ax (0<=N[i].cc):=λj u=>(e0 j u u).2.1;have H0:∀i (G:i<aA N),-1<=N[i].cc:=λj u=>(e0 j u u).2.2;change T 4=iV (aA<|kX N)at X;have I0:=Df N;generalize g0:aA (kX N)=n at*;have u0:ah n (2^30)=aa:=at2;refine eN J X B E @ee @IM @ajX @aj0 @Hx u0 @gX ?_;generalize v0:(h.o 64).ver+1=v7;generalize w0:(h.o 66).ver+1=v8;refine lF 2 (aA N) (λi T h=>T 1=.aR 1 1 0 0/\ T 4=iV n/\ T 7=.bh 64 v7 0 n/\ T 8=.bh 66 v8 0 n/\ T 9=iV i/\ h.o 1=⟨1,0,.cells aa ab 38 1 [dA N]⟩/\ h.y=y/\ ∃W O m7 m8,h.o 64=⟨v7,m7,.cells ab ab 316 1<|O.map λx=>[x]⟩/\ h.o 66=⟨v8,m8,.cells ab ab 4 1<|W.map QV⟩/\ sj N n i W O) ?_ ?_ ?_;refine S2 J X ?_;exact⟨aM,E,U,ak n ab,ak n<|.fz [],0,0,by rw[O6,Nh,v0],by rw[O6,Nh,w0],sj.zero N n _⟩;rintro i T h G ⟨J,X,b,z,s,E,U,W,O,m7,m8,o7,o8,f⟩;have r0:i<9223372036854775807:=aW;have C:=mw G;have k0:=f.neg G;have l0:=λk=>f.add (k:=k) G;have m0:=aaJ N i G z0 B0;have g:0<=N[i].cc->(n:Int)<=N[i].cc->r=.bn [.fz [],bV ab]:=λl h1=>D.2 λI=>by have:=I.1.b i G l;rw[g0]at this;omega
 have F:∀k:Nat,N[i].cc=(k:Int)->W[k]?=ad aa->r=.bn [.fz [],bV ab]:=λk m J0=>D.2 λI=>by have⟨j,u,h1,h2⟩:=f.B k J0;have:=I.1.d j i u G aW aW;omega
 generalize N[i]=t at*;cases P:ax<|t.cc<0;have l:0<=t.cc:=by rw[cE]at P;omega
 obtain⟨k,m⟩:∃k:Nat,t.cc=(k:Int):=⟨t.cc.toNat,aW⟩;cases q:ax<|(n:Int)<=t.cc;have a:k<n:=by rw[cE]at q;omega
 have o0:k<aA W:=by rw[f.s];exact a
 have Z:(W.map QV)[k]?=ad [bV W[k]]:=by rw[hY,cx o0];rfl
 have L:W[k]?=ad W[k]:=cx o0;have I:(O.map λx=>[x])[k]?=ad [O[k]'(by rw[f.o];exact a)]:=by rw[hY,cx<|by rw[f.o];exact a];rfl
 rw[m]at P q;generalize O[k]'(by rw[f.o];exact a)=c at*;cases v:W[k]<;>rw[v]at Z L;have M:=l0 k m a L;refine bq J X b z s E o7 o8 (a6 G) C @bd (an m<|an P<|an q<|an @fg<|an @fk<|an (eB a)<|an @c6<|an @bZ<|an Z<|an I m0.bE) ?_;exact⟨U,W.set k aa,O.set k<|lX<|iH N i,m7+1,m8+1,by rw[sC],by rw[sC],M⟩;rw[F k m L];refine bq J X b z s E o7 o8 (a6 G) C @bd (an m<|an P<|an q<|an @fg<|an @fk<|an (eB a)<|an @c6<|an @bZ Z) ?_;rw[U];rw[g l<|tm q];refine eN J X b z s E (a6 G) C @bd P q ?_;rw[U];have:=k0<|tm P;refine fm J X b z s E (a6 G) C @bd P ?_;exact⟨U,W,O,m7,m8,o7,o8,this⟩;rintro T h ⟨J,X,b,z,s,E,U,W,O,m7,m8,o7,o8,f⟩
 have I:nD N:=⟨d0.2,B0,G0,λi G l=>by
  have⟨k,e1,e2,_⟩:=f.A i G G l
  rw[g0];omega,λi j G u l e=>f.C i j G u G u l e⟩
 have⟨S,p0⟩:=GA I C0;have K0:=f.dC g0.symm p0;rw[D.1 S ⟨I,d0.1,H0⟩ p0];have L0:n=aA (O.map λx=>[x]):=by rw[bj];exact f.o.symm
 have x0:ai n (aA O)=aa:=by rw[f.o];exact iE<|bu _
 have v:ar n (au 0<|O.map λx=>[x])=(O.map λx=>[x]):=by rw[e6,eM aW]
 refine bq J X b z s E @ee o7 x0 v @bZ U ?_;rw[K0,pB];rfl;have y0:¬Ei N:=λh=>by have:=h.1.l;have:=h.2.1;rw[iB,c_,c_]at d;omega
 rw[D.2 y0];refine gO Tryz.f227.eq_1 λw y=>?_;cases h1:ax ((aA N:Int)<2)<;>rw[h1]at d;rw[jP]at d;exact S2 h1 d tr;exact S2 h1 d tr
def Sh(a b:aL):gZ a b=aa↔a=b:=⟨KO,λh=>by subst h;exact KQ _⟩
def KS(s t:bo):qF s t=aa↔s=t:=by have⟨a,g⟩:=s;have⟨b,k⟩:=t;unfold qF;simp only[bW,nj,Sh,bo.mk.injEq]
def an1(s t:bo):jz s t=qF s t:=by by_cases h:s=t;subst h;rw[Ig,(KS s s).2 rfl];cases V:jz s t;cases a:qF s t;rfl;exact absurd ((KS s t).1 a) h;exact absurd (EG V) h
def arS(a b:List bl)(X:hU a):aS VP 228 [.agg<|dA a,.agg<|dA b] (bV<|dK fV a b):=by
 have⟨z,g⟩:=X;have z:aA a<1048576:=z;refine gO Tryz.f228.eq_1 λw y=>?_;by_cases l:aA a=aA b;have I:((aA a:Int)!=(aA b:Int))=ab:=by rw[l];simp
 refine S1 I ?_;refine lF 0 (aA a) (λi T h=>T 2=.aR 2 1 0 0/\ T 3=.aR 3 1 0 0/\ T 5=iV i/\ h.o 2=⟨1,0,.cells aa ab 38 1 [dA a]⟩/\ h.o 3=⟨1,0,.cells aa ab 38 1 [dA b]⟩/\ h.y=y/\ dK fV (a.take i) (b.take i)=aa) ?_ ?_ ?_;refine S0 ?_;exact at1;rintro i T h G ⟨W,O,c,L,F,E,v⟩;have u:i<aA b:=l▸G;have⟨B,f⟩:=g _<|bD G;have V:fV a[i] b[i]=ab->dK fV a b=ab:=Gu G u;have j:fV a[i] b[i]=aa->dK fV (a.take<|i+1) (b.take<|i+1)=aa:=Gs G u v;have d:=On a[i].bN b[i].bN B;rw[an1]at d;have x:=mw G;have D:=mw u;generalize a[i]=s at*;generalize b[i]=t at*;have N:∀q,(!qF s.bN t.bN||s.dT !=t.dT||s.dJ !=t.dJ||s.cc !=t.cc||(aA s.be:Int)!=aA t.be)=q->fV s t=(!q&&gZ s.be t.be):=by
  intro q M;subst M;by_cases Q:aA s.be=aA t.be;have:((aA s.be:Int)!=aA t.be)=ab:=by rw[Q];simp
  rw[this];unfold fV;cases qF s.bN t.bN<;>cases v:s.dT==t.dT<;>cases a0:s.dJ==t.dJ<;>cases I:s.cc==t.cc<;>cases gZ s.be t.be<;>simp[bne,v,a0,I];have:((aA s.be:Int)!=aA t.be)=aa:=nB Q;rw[this];have:gZ s.be t.be=ab:=oV Q _;unfold fV;rw[this];simp
 cases M:(!qF s.bN t.bN||s.dT !=t.dT||s.dJ !=t.dJ||s.cc !=t.cc||(aA s.be:Int)!=aA t.be);have N:=N ab M;rw[j',oI]at N;rw[N]at V j;have J:aA s.be=aA t.be:=by rw[gz]at M;have:=M.2;simp at this;omega
 refine bq W O c L F E (a6 G) (a6 u) x D @bd (an d.aP M) ?_;refine oF 1 2 (aA s.be) (λk T Y=>T 2=.aR 2 1 0 0/\ T 3=.aR 3 1 0 0/\ T 5=iV i/\ T 6=.aR 6 ((h.o 6).ver+1) 0 0/\ T 7=.aR 7 ((h.o 7).ver+1) 0 0/\ T 8=iV k/\ Y.o 2=⟨1,0,.cells aa ab 38 1 [dA a]⟩/\ Y.o 3=⟨1,0,.cells aa ab 38 1 [dA b]⟩/\ (∃m,Y.o 6=⟨(h.o 6).ver+1,m,.cells aa ab 70 6 [c8 s]⟩)/\ (∃m,Y.o 7=⟨(h.o 7).ver+1,m,.cells aa ab 70 6 [c8 t]⟩)/\ Y.y=y/\ gZ (s.be.take k) (t.be.take k)=aa) ?_ ?_ ?_;refine S5 W O c L F ?_;exact⟨aM,⟨_,aM⟩,⟨_,aM⟩,E,aM⟩;rintro k T Y f ⟨W,O,c,n,S,C,L,F,⟨Z,A⟩,⟨U,o⟩,E,r⟩;have⟨g1,g2⟩:=rN (p:=λa b:Int=>a==b) f (J▸f) r (b:=s.be[k]!=t.be[k]'(J▸f)) (by simp[bne]);have P:∀h:H,cF h (ae,1) (iL s.be) (k:Int)=.ok (.bA [iV s.be[k]] 0):=λh=>db (s:=1) iC s.be k f;have e:∀h:H,cF h (ae,1) (iL t.be) (k:Int)=.ok (.bA [iV<|t.be[k]'(J▸f)] 0):=λh=>db (s:=1) iC t.be k<|J▸f;refine bq W O c n S C L F A o (a6 f) (an @bd<|an P e) ?_;exact⟨λM=>by rw[V<|show gZ s.be t.be=ab from g1 M,E],λM=>⟨⟨Z,aM⟩,⟨U,aM⟩,E,g2 M⟩⟩;rintro T Y ⟨W,O,c,n,S,C,L,F,⟨Z,A⟩,⟨U,o⟩,E,r⟩;rw[bP,J,bP]at r;refine bq W O c n S C L F A o @bd @ee ?_;exact⟨E,j r⟩;have N:=N aa M;rw[px,mB]at N;rw[V N];exact bq W O c L F E (a6 G) (a6 u) x D @bd (an d.aP M) tr;rintro T h ⟨W,O,c,L,F,E,v⟩;rw[bP,l,bP]at v;rw[v];exact S8 W O c L F E @ee l tr;exact S3 Tryz.f228.eq_1 (nB l) (oV l) tr
def vR(N:List bl):Prop:=∀t∈N,-1<=t.cc
def ajn{N:List bl}(h:vR N)(a:Nat)(s:bo):vR (fZ (N,a) s).1 :=by
 unfold fZ;cases ax (g_ (N,a).1 s (gQ (N,a).1 (N,a).2) (-1)<0);exact h;intro t D
 rcases mF.1 (show t∈rC N a++[⟨s,a,[],ab,-1⟩]from D)with D|D
 unfold rC at D;exact aub;rw[ku]at D;subst D;exact rq _
def Vp:∀(y:List bo) (N:List bl) (a:Nat),vR N->vR (y.foldl fZ (N,a)).1
 |[],_,_,h=>h
 |s::y,N,a,h=>Vp y _ _<|ajn h a s
def ajm{N:List bl}(h:vR N)(a:Nat){i:Int}(G:0<=i):vR (fA N a i):=by
 intro t D;unfold fA at D
 cases b:N[a]? with
 |none=>rw[b]at D;exact h t D
 |some u=>
  rw[b]at D
  rcases wD D with D|D
  exact h t D;subst D;show-1<=i;omega
def Vn:∀(M:List<|List bo) (N:List bl) (i:Int),0<=i->vR N->vR (oQ i N M)
 |[],_,_,_,h=>h
 |y::M,N,i,G,h=>Vn M _ _ aW<|ajm (Vp y N 0 h) _ G
def KT(s t:bl):fV s t=aa↔s=t:=by have⟨X,p,k,e,l⟩:=s;have⟨P,S,A,B,N⟩:=t;unfold fV;simp only[bW,nj,KS,Sh,bl.mk.injEq,and_assoc]
def Gr{α:Type}{p:α->α->Bool}(M:∀a b,p a b=aa↔a=b):∀a b:List α,dK p a b=aa↔a=b
 |[],[]=>by simp[dK]
 |[],_::_=>by simp[dK]
 |_::_,[]=>by simp[dK]
 |x::a,y::b=>by simp only[dK,bW,M,Gr M a b,Je]
def LG{N:List bl}(h:pT N):Ei N:=by
 have⟨I,S,r,c⟩:=h;unfold rH at c;rw[bW,Gr KT]at c;have⟨e,c⟩:=c;have e:gj (hW N S)=0:=avF;refine⟨I,?_,λi G=>?_⟩;have⟨_,y⟩:=Eh e;have V:0<aA (hW N S):=by
  unfold gj at e
  grind
 have a:0<aA S:=by rwa[bj]at V
 have⟨b,_⟩:=r.a 0 a;by_cases m:2<=aA N;exact m;have Q:S[0]=0:=aW;have:=(y (iH N S[0])<|fv.2 ⟨_,bD a,aM⟩).2;rw[Q]at this;cases this;have:vR N:=by rw[<-c];unfold jA;rw[e];exact Vn _ _ _ (rq _) λt D=>by rw[ku]at D;subst D;exact rq _
 exact this _ (bD G)
def aax(N:List bl)(e:hU N)(l:k7 N):aS VP 170 [.agg<|dA N] (iV<|qy N):=by by_cases I:Ei N;have⟨S,r⟩:=GA I.1 l;have g:=aaI N e l (.bn [Hi N S,bV aa]) ⟨λM V a=>by rw[r.IJ I.1 a],λh=>absurd I h⟩;have⟨L,d⟩:=ZR e I.1 r;have Z:=aau (hW N S) L d;have P:=arS (jA<|hW N S) N<|NZ λy D=>(d y D).2;rw[TK I.1 r];unfold rH;generalize jA (hW N S)=Q at*;generalize gj (hW N S)=E at*;generalize dK fV Q N=q at*;cases f:E==0;have n:(E !=0)=aa:=avh;refine gO Tryz.f170.eq_1 λw y=>?_;exact Z2 g.bE Z.bE tr;have n:(E !=0)=ab:=avh;refine gO Tryz.f170.eq_1 λw y=>?_;cases q;exact Z3 g.bE Z.bE P.aP tr;exact Z3 g.bE Z.bE P.aP tr;have g:=aaI N e l (.bn [.fz [],bV ab]) ⟨λM V a=>absurd V I,λh=>rfl⟩;rw[yE λh=>I<|LG h];refine gO Tryz.f170.eq_1 λw y=>?_;exact S1 g.bE tr
def aay(N:List bl)(n:Int)(X:hU N)(l:k7 N):aS VP 172 [.agg<|dA N,iV n] (.bn [iL<|fX N n,iV<|lE N n]):=by
 have g:=aax N X l;unfold fX;by_cases p:lE N n=0;obtain⟨o,a,rfl,J⟩:=MY p;rw[p,c6];rw[AD o]at g;have h:ax ((a:Int)<0)=ab:=aY;have j:ax ((aA N:Int)<=a)=ab:=auI;have d:=aaJ N a J X o.1.p;have s:=arT (iH N a)<|N7 X o.1.p J;show aS VP 172 _<|.bn [iL<|nh<|iH N a,iV 0];refine gO Tryz.f172.eq_1 λw y=>?_;exact Z3 g.aP d.bE s.bE tr;have q:(lE N n==0)=ab:=by simpa using p
 rw[q,br];show aS VP 172 _<|.bn [.fz [],iV<|lE N n];unfold lE at p|-;generalize qy N=e at*;cases f:e==0;have r:(e !=0)=aa:=avh;refine gO Tryz.f172.eq_1 λw y=>?_;exact axa;have b:e=0:=aum;subst b;rw[f,a8]at p;cases c:ax (n<0)||ax ((aA N:Int)<=n);rw[c]at p;exact absurd aM p;show aS VP 172 _<|.bn [.fz [],iV 2];refine gO Tryz.f172.eq_1 λw y=>?_;exact axa
def QD(a:dZ):ga VP.D 31 [(0,iV 1),(1,iV 1),(2,iV 1),(3,.agg [iV a.kind,bV a.fF,uV a.fe,.fz<|a.cy.map ed,sV a.name])]=.ok (.agg [iV 1,iV 1,iV 1,iV a.kind,bV a.fF,uV a.fe,.fz<|a.cy.map ed,sV a.name,.nil]):=aV
def tH(a:dZ):Int:=bif ax (8<(aA a.cy:Int))then 6 else bif bR 200 (.mk 1 1 1 a [])then 0 else 3
def arO(a:dZ)(e:dt<|.mk 1 1 1 a []):aS VP 220 [.agg<|bQ a] (iV<|tH a):=by have g:aS VP 209 [.agg [iV 1,iV 1,iV 1,iV a.kind,bV a.fF,uV a.fe,.fz<|a.cy.map ed,sV a.name,.fz []]] _:=EX _ e;unfold tH;cases h:ax<|8<(aA a.cy:Int);refine gO Tryz.f220.eq_1 λw y=>?_;exact Z4 @dW @cC @QD g.aP tr;refine gO Tryz.f220.eq_1 λw y=>?_;exact avB
def aru(a:dZ)(e:dt<|.mk 1 1 1 a []):aS VP 171 [.agg<|bQ a] (iV<|tH a):=by have g:aS VP 155 [.agg [iV 1,iV 1,iV 1,iV a.kind,bV a.fF,uV a.fe,.fz<|a.cy.map ed,sV a.name,.fz []]] _:=IS _ e;unfold tH;cases h:ax<|8<(aA a.cy:Int);refine gO Tryz.f171.eq_1 λw y=>?_;exact Z4 @dW @cC @QD g.aP tr;refine gO Tryz.f171.eq_1 λw y=>?_;exact avB
def tJ:List dZ->Int
 |[]=>0
 |a::l=>bif tH a==0 then tJ l else tH a
def Qf{A:List dZ}{i:Nat}(G:i<aA A):tJ (A.drop i)=bif tH A[i]==0 then tJ (A.drop<|i+1)else tH A[i]:=by rw[fD G];rfl
def ZW(t:bl):List Int:=t.bN.bH++[t.bN.da]
def vd(n:Int)(t:bl):Bool:=(ZW t).any λv=>decide (n<=v)
def iT(N:List bl)(A:List dZ):Int:=bif qy N==0 then(bif ax (12<(aA A:Int))||(N.drop 1).any (vd<|aA A)then 2 else tJ A)else qy N
def wL(A:List dZ):Prop:=bk A/\ ∀a∈A,dt<|.mk 1 1 1 a []
def s7(d:Nat):dk 7 (ad d)=7000+d:=rfl
def J7:VP.h5 157=7:=rfl
def acC:7*1000+32+1=7033:=rfl
def adY(w:cV)(h:H)(g:aL)(x:Int)(o:aA g<1048576):∃c h1,(vW VP).i 208 7033 [iL g] w h=.ok (c,h1)/\ h1.y=h.y/\ (∀q,q≠7033005->h1.o q=h.o q)/\
 ∀H:H,H.o 7033005=h1.o 7033005->∀v md,H.o 7036=⟨v,md,.cells ab ab 3 1 [[iV x]]⟩->∃s u p,kR VP.D H 66 66 c (.bh 7036 v 0 1) 7037=.ok (.bh s u 0<|aA g+1,p)/\ p.y=H.y/\ p.o s=⟨u,0,.cells ab ab 3 1<|(g++[x]).map iC⟩/\ ∀q,q≠7033005->q≠7037->p.o q=H.o q:=by
 cases g with
 |nil=>refine⟨.emp 1,h,LJ aW w h,aM,λq _=>rfl,λH _ v md B=>⟨7037,(H.o 7037).ver+1,H.new 7037<|.cells ab ab 3 1 [[iV x]],?_,aM,by rw[jt];rfl,λq _ p=>by rw[dE (hn:=p)]⟩⟩;have e:ai (0+1) [[iV x]].length=aa:=rfl;simp only[kR,Am,kF,kJ,B,jb,aO,e,a8,e6];rfl
 |cons a g=>
  have l:aA ([iV a]::g.map iC)<536870912:=awY;have G:=LK (b:=7033) aW w h [iV a] (g.map iC) aM l;refine⟨_,_,G,aM,λq M=>auy,λH F v md B=>?_⟩;rw[jt,jt]at F;have e:ai (0+1) [[iV x]].length=aa:=rfl;have X:kF H (.bh 7036 v 0 1)=.ok (ab,[[iV x]]):=by simp only[kF,kJ,B,jb,aO,e,a8,e6];rfl
  have V:=JZ (D:=VP.D) (t:=66) (u:=66) (d:=7037) (es:=[iV a]::g.map iC) (new:=[[iV x]]) (s:=7033005) (ver:=(h.o 7033005).ver+2) (eT:=3) (sz:=1) (h:=H) (y:=.bh 7036 v 0 1) ⟨by rw[F],λ_=>⟨0,F⟩⟩ aY l aY X Am aM;have P:b9 ([iV a]::g.map iC) 7033005 ((h.o 7033005).ver+2)=.bh 7033005 ((h.o 7033005).ver+2) 0 (aA<|[iV a]::g.map iC):=rfl;have C:b9 ([iV a]::g.map iC++[[iV x]]) 7033005 ((h.o 7033005).ver+2+1)=.bh 7033005 ((h.o 7033005).ver+3) 0 (aA (a::g)+1):=by show VV.bh _ _ 0 (aA<|[iV a]::g.map iC++[[iV x]])=_;rw[cN,cr,bj];rfl
  rw[P,C]at V;refine⟨7033005,_,_,V,aM,?_,λq h1 _=>by rw[dE (hn:=h1)]⟩;rw[jt,F,dg];rfl
def aav(N:List bl)(A:List dZ)(r0:hU N)(w0:k7 N)(s0:wL A):aS VP 157 [.agg<|dA N,.fz<|A.map bQ] (iV<|iT N A):=by
 have g:=aaG N r0 w0;have x0:aA A<1048576:=s0.1;unfold iT;by_cases o:pT N;have t0:=LG o;have C0:=t0.1.l;have Z:=t0.2.1;rw[AD o]at g|-;have a0:((0:Int)==0)=aa:=rfl;rw[a0,a8];cases u0:ax<|12<(aA A:Int);rw[jP];obtain⟨M,U⟩:∃M,M=N.drop 1:=⟨_,aM⟩;have z:aA M=aA N-1:=by rw[U];exact j5
 have b0:ag (xh<|N.map c8) 6=aa:=by
  cases N with
  |nil=>simp at Z
  |cons t N=>rfl
 have c0:ai 1 (aA N)=aa:=iE aW;have D:ar (aA N-1) (au 1<|N.map c8)=M.map c8:=by rw[<-Jm,<-U,eM<|by rw[bj,z];exact auS]
 have d0:∀t∈M,bk t.bN.bH:=λt v0=>by rw[U]at v0;exact(r0.2 t<|wC v0).1
 rw[<-U];have y0:aA M<1048576:=aW;refine mQ Li NT λw y=>?_;refine fm Tryz.f157.eq_1 @J7 @s7 g.aP u0 @IP @Y8 b0 c0 D ?_;clear U z D;refine lF 0 (aA M) (λi T h=>T 1=.fz (A.map bQ)/\ T 23=.fz (M.map c8)/\ T 24=iV (aA M)/\ T 25=iV i/\ h.y=y/\ (M.take i).any (vd<|aA A)=ab) ?_ ?_ ?_;refine S0 ?_;exact at1;rintro i T h G ⟨J,b,l,f,E,q⟩;have W:=gI (p:=vd<|aA A) G;have O:=gJ (p:=vd<|aA A) G q;have x:∀h:H,cF h (ae,6) (.fz<|M.map c8) (i:Int)=.ok (.bA (c8 M[i]) 0):=λh=>db (s:=6) c8 M i G;have e0:=d0 _<|bD G;generalize M[i]=t at*;have f0:aA t.bN.bH<1048576:=e0;have⟨c,d,g0,h0,i0,j0⟩:=adY w ((h.new 7007<|.cells aa ab 70 6 [[iV 0,.nil,iV 0,.nil,bV ab,iV 0]]).mod 7007<|.cells aa ab 70 6 [c8 t]) t.bN.bH t.bN.da f0;have o7:d.o 7007=⟨(h.o 7007).ver+1,1,.cells aa ab 70 6 [c8 t]⟩:=by rw[i0 _ aT];exact auy
 refine eN J b l f (a6 G) x @s7 @ua @acC g0 o7 ?_;have⟨s,u,h2,P,k0,o2,_⟩:=j0 (d.new 7036<|.cells ab ab 3 1 [[iV t.bN.da]]) auy ((d.o 7036).ver+1) 0 auy;have l0:aA (t.bN.bH++[t.bN.da])=aA t.bN.bH+1:=by rw[cN];rfl
 have m0:vd (aA A) t=(t.bN.bH++[t.bN.da]).any λv=>decide ((aA A:Int)<=v):=rfl;have L:h2.y=y:=by rw[k0];show d.y=y;rw[h0];exact E
 rw[m0]at W O;generalize t.bN.bH++[t.bN.da]=V at*;have z0:aA V<9223372036854775807:=aW;rw[<-l0]at P;refine S8 J b l f @s7 P @jc o2 ?_;refine oF 1 2 (aA V) (λk T o0=>T 1=.fz (A.map bQ)/\ T 23=.fz (M.map c8)/\ T 24=iV (aA M)/\ T 25=iV i/\ T 37=.bh s u 0 (aA V)/\ T 38=iV (aA V)/\ T 39=iV k/\ o0=h2/\ (V.take k).any (λv=>decide ((aA A:Int)<=v))=ab) ?_ ?_ ?_;refine S4 J b l f ?_;exact at1;rintro k T o0 Q ⟨J,b,l,f,F,B,m,rfl,X⟩;have A0:k<9223372036854775807:=aW;have j:(V.map iC)[k]?=ad [iV V[k]]:=by rw[hY,cx Q];rfl
 have k1:=gI (p:=λv=>decide ((aA A:Int)<=v)) Q;have k2:=gJ (p:=λv=>decide ((aA A:Int)<=v)) Q X;generalize V[k]=v at*;cases Y:ax<|(aA A:Int)<=v;refine bq J b l f F B m o2 @fg @fk (a6 Q) (an (eB Q)<|an @c6<|an @bZ<|an j<|an @bd Y) ?_;exact k2 Y;rw[W<|k1 Y,a8];exact bq J b l f F B m o2 @fg @fk (a6 Q) (an (eB Q)<|an @c6<|an @bZ<|an j<|an @bd<|an Y L) tr;rintro T o0 ⟨J,b,l,f,F,B,m,rfl,X⟩;rw[bP]at X;refine S9 J b l f F B m @ee @bd ?_;exact⟨L,O X⟩;rintro T h ⟨J,b,l,f,E,q⟩;rw[bP]at q;rw[q,br];refine S5 J b l f @ee ?_;refine lF 4 (aA A) (λi T h=>T 49=.fz (A.map bQ)/\ T 50=iV (aA A)/\ T 51=iV i/\ h.y=y/\ tJ A=tJ (A.drop i)) ?_ ?_ ?_;exact awq;rintro i T h G ⟨C,S,I,E,q⟩;have B0:i<9223372036854775807:=aW;have r:=arO A[i]<|s0.2 _<|bD G;have x:∀h:H,cF h (ae,5) (.fz<|A.map bQ) (i:Int)=.ok (.bA (bQ A[i]) 0):=λh=>db (s:=5) bQ A i G;rw[Qf G]at q;generalize A[i]=a at*;generalize tH a=e at*;cases n:e==0;have p0:(e !=0)=aa:=by simp[bne,n]
 rw[n]at q;have q:tJ A=e:=q;exact fm C S I @s7 (a6 G) x r.aP p0 E q tr;have p0:(e !=0)=ab:=by simp[bne,n]
 rw[n]at q;refine S9 C S I @s7 (a6 G) x r.aP p0 @bd ?_;exact⟨E,q⟩;rintro T h ⟨C,S,I,E,q⟩;rw[fS]at q;rw[q];refine S5 C S I @ee E ?_;rfl;refine mQ Li NT λw y=>?_;exact S5 Tryz.f157.eq_1 @J7 @s7 g.aP u0 tr;rw[yE o]at g|-;refine mQ Li NT λw y=>?_;exact S4 Tryz.f157.eq_1 @J7 @s7 g.aP tr
def aop{P:bo->Prop}{N:List bl}(h:∀t∈N,P t.bN)(a:Nat){s:bo}(B:P s):∀t∈(fZ (N,a) s).1,P t.bN:=by
 unfold fZ;cases ax (g_ (N,a).1 s (gQ (N,a).1 (N,a).2) (-1)<0);exact h;intro t D
 rcases mF.1 (show t∈rC N a++[⟨s,a,[],ab,-1⟩]from D)with D|D
 unfold rC at D;exact aub;rw[ku]at D;subst D;exact B
def Y7{P:bo->Prop}:∀(y:List bo) (N:List bl) (a:Nat),(∀t∈N,P t.bN)->(∀s∈y,P s)->∀t∈(y.foldl fZ (N,a)).1,P t.bN
 |[],_,_,h,_=>h
 |s::y,N,a,h,B=>Y7 y _ _ (aop h a<|B s ei) λs h=>B s<|dR _ h
def aoo{P:bo->Prop}{N:List bl}(h:∀t∈N,P t.bN)(a:Nat)(i:Int):∀t∈fA N a i,P t.bN:=by intro t D;unfold fA at D;exact aub
def Y6{P:bo->Prop}:∀(M:List<|List bo) (N:List bl) (i:Int),(∀t∈N,P t.bN)->(∀y∈M,∀s∈y,P s)->∀t∈oQ i N M,P t.bN
 |[],_,_,h,_=>h
 |y::M,N,i,h,w=>Y6 M _ _ (aoo (Y7 y N 0 h<|w y ei) _ _) λy h=>w y<|dR _ h
def adP{y:List bo}(h:lu y=0):∀s∈y,∀v∈s.bH++[s.da],0<=v/\ v<12:=by
 intro s B v Y;unfold lu at h;cases V:Du y;rw[V]at h;cases a:y.any<|qf 12;rw[py]at a;have a:=a s B;unfold qf at a;simp only[iB,not_or,Bool.not_eq_true]at a
 rcases mF.1 Y with Y|Y
 have:=py.1 a.2 v Y;unfold gY at this;exact at6;rw[ku]at Y;have:=a.1;subst Y;unfold gY at this;exact at6;rw[a]at h;cases h;rw[V]at h;cases h
def ahl{N:List bl}(h:pT N):∀t∈N,∀v∈ZW t,0<=v/\ v<12:=by
 have⟨I,S,r,c⟩:=h;unfold rH at c;rw[bW,Gr KT]at c;have⟨f,c⟩:=c;have f:gj (hW N S)=0:=aum;have Q:=(Eh f).2;have:=Y6 (P:=λs=>∀v∈s.bH++[s.da],0<=v/\ v<12) (hW N S) [ov] 0 (λt D=>by rw[ku]at D;subst D;intro v Y;rw[show v=0 from ku.1 Y];omega) λy h s B=>adP (Q y h).2 s B;have e:oQ 0 [ov] (hW N S)=N:=by unfold jA at c;rw[f]at c;exact c
 rw[e]at this;exact aw0
def aai(N:List bl)(A:List dZ)(g0:hU N)(k0:k7 N)(h0:wL A):aS VP 103 [.agg<|dA N,.fz<|A.map bQ] (iV<|iT N A):=by
 have g:=aax N g0 k0;have l0:aA A<1048576:=h0.1;unfold iT;by_cases o:pT N;have i0:=LG o;have r0:=i0.1.l;have m0:=i0.2.1;have U:=ahl o;rw[AD o]at g|-;have c:((0:Int)==0)=aa:=rfl;rw[c,a8];cases j0:ax<|12<(aA A:Int);rw[jP];refine gO Tryz.f103.eq_1 λw y=>?_;refine S2 g.aP j0 ?_;refine lF 0 (aA N-1) (λi T h=>T 1=.fz (A.map bQ)/\ T 2=.aR 2 1 0 0/\ T 6=iV (i+1:Nat)/\ h.o 2=⟨1,0,.cells aa ab 38 1 [dA N]⟩/\ h.y=y/\ ((N.drop 1).take i).any (vd<|aA A)=ab) ?_ ?_ ?_;refine S0 ?_;exact at1;rintro i T h G ⟨J,W,n,O,E,q⟩;have C:i+1<aA N:=aW;have M:i+1<9223372036854775807:=aW;have B:i<aA (N.drop 1):=by rw[j5];omega
 have Z:=gI (p:=vd<|aA A) B;have z:=gJ (p:=vd<|aA A) B q;have D:(N.drop 1)[i]=N[i+1]:=by rw[List.getElem_drop];exact aw1
 rw[D]at Z z;have x:=mw C;have b:=(g0.2 _<|bD C).1;have r:=U _<|bD C;generalize N[i+1]=t at*;have S:aA t.bN.bH<1048576:=b;have h1:=yV t.bN.bH;have h2:ah (aA t.bN.bH) (2^30)=aa:=qx S;have h3:ah (aA t.bN.bH+1) (2^30)=aa:=at2;refine eN J W n O (a6 C) x h1 h2 h3 @bZ @cC ?_;have I:aA (t.bN.bH++[t.bN.da])=aA t.bN.bH+1:=by rw[cN];rfl
 have a0:t.bN.bH.map iC++[[iV t.bN.da]]=(t.bN.bH++[t.bN.da]).map iC:=by rw[dg];rfl
 have b0:vd (aA A) t=(t.bN.bH++[t.bN.da]).any λv=>decide ((aA A:Int)<=v):=rfl;have c0:∀v∈t.bN.bH++[t.bN.da],0<=v/\ v<12:=r;rw[b0]at Z z;rw[<-I];generalize d0:(h.o 33).ver+1+1+1=v3;generalize t.bN.bH++[t.bN.da]=V at*;have o0:aA V<9223372036854775807:=aW;refine oF 1 2 (aA V) (λk T Y=>T 1=.fz (A.map bQ)/\ T 2=.aR 2 1 0 0/\ T 6=iV (i+1:Nat)/\ T 8=.bh 33 v3 0 (aA V)/\ T 9=iV k/\ Y.o 2=⟨1,0,.cells aa ab 38 1 [dA N]⟩/\ Y.o 33=⟨v3,0,.cells ab ab 3 1<|V.map iC⟩/\ Y.y=y/\ (V.take k).any (λv=>decide ((aA A:Int)<=v))=ab) ?_ ?_ ?_;refine S4 J W n O ?_;exact⟨aM,by rw[<-a0,<-d0],E,rfl⟩;rintro k T Y f ⟨J,W,n,Q,P,O,l,E,X⟩;have p0:k<9223372036854775807:=aW;have j:(V.map iC)[k]?=ad [iV V[k]]:=by rw[hY,cx f];rfl
 have k1:=gI (p:=λv=>decide ((aA A:Int)<=v)) f;have k2:=gJ (p:=λv=>decide ((aA A:Int)<=v)) f X;have F:ax (V[k]<0)=ab:=by have:=(c0 _<|bD f).1;exact auI
 generalize V[k]=v at*;cases L:ax<|(aA A:Int)<=v;refine bq J W n Q P O l @jc @fg @fk (a6 f) (an (eB f)<|an @c6<|an @bZ<|an j<|an @bd<|an F L) ?_;exact⟨E,k2 L⟩;rw[Z<|k1 L,a8];exact bq J W n Q P O l @jc @fg @fk (a6 f) (an (eB f)<|an @c6<|an @bZ<|an j<|an @bd<|an F<|an L E) tr;rintro T Y ⟨J,W,n,Q,P,O,l,E,X⟩;rw[bP]at X;refine fm J W n Q P O l @jc @ee @bd ?_;exact⟨E,z X⟩;rintro T h ⟨J,W,n,O,E,q⟩;rw[eM<|by rw[j5];exact auS]at q;rw[q,br];have e0:((aA N-1+1:Nat):Int)=aA N:=aW;rw[e0]at n;refine S5 J W n O @ee ?_;refine lF 4 (aA A) (λi T h=>T 1=.fz (A.map bQ)/\ T 10=iV i/\ h.y=y/\ tJ A=tJ (A.drop i)) ?_ ?_ ?_;refine S1 J ?_;exact⟨aM,E,aM⟩;rintro i T h G ⟨J,u,E,q⟩;have M:i<9223372036854775807:=aW;have m:=aru A[i]<|h0.2 _<|bD G;have x:∀h:H,cF h (ae,5) (.fz<|A.map bQ) (i:Int)=.ok (.bA (bQ A[i]) 0):=λh=>db (s:=5) bQ A i G;rw[Qf G]at q;generalize A[i]=a at*;generalize tH a=e at*;cases d:e==0;have f0:(e !=0)=aa:=by simp[bne,d]
 rw[d]at q;have q:tJ A=e:=q;exact S8 J u (a6 G) x m.aP f0 E q tr;have f0:(e !=0)=ab:=by simp[bne,d]
 rw[d]at q;refine S7 J u (a6 G) x m.aP f0 @bd ?_;exact⟨E,q⟩;rintro T h ⟨J,u,E,q⟩;rw[fS]at q;rw[q];refine S4 J u @ee E ?_;rfl;refine gO Tryz.f103.eq_1 λw y=>?_;exact S2 g.aP j0 tr;rw[yE o]at g|-;refine gO Tryz.f103.eq_1 λw y=>?_;exact S1 g.aP tr
def NJ(e:IntKind)(B b:Nat)(X:b<64):hP .shr .u64 e (B:Int) (b:Int)=.ok (bY .u64 ((B/2^b:Nat):Int)):=by
 have h:¬((b:Int)<0):=aW;show(if(b:Int)<0 then(.error "":R AV)else .ok<|bY .u64<|(B:Int).fdiv<|2^(min (b:Int).toNat<|IntKind.bits .u64))=_;rw[cG h];have a:min (b:Int).toNat (IntKind.bits .u64)=b:=by rw[c6];exact Jy (by show b<=64;omega)
 grind
def P5(m:Nat)(Y:m<2^64):hP .and .u64 .u64 (m:Int) 1=.ok (bY .u64 ((m %2:Nat):Int)):=by have e:(aw 64 (m:Int)&&&aw 64 1).toNat=m %2:=at6;have P:av .u64 ((m %2:Nat):Int)=((m %2:Nat):Int):=mz _ aW aW;show(Except.ok (bY .u64<|av .u64 (((aw 64 (m:Int)&&&aw 64 1).toNat:Nat):Int)):R AV)=_;rw[e,P]
def oO(B i:Nat):Bool:=B.testBit i
def acV(B i:Nat):(((B/2^i %2:Nat):Int)==1)=oO B i:=by
 unfold oO
 grind
def acU(B i:Nat):(((B/2^i %2:Nat):Int)==0)=!oO B i:=by
 unfold oO
 grind
def RM{B:Nat}(C:B<2^64)(i:Nat):B/2^i<2^64:=Pm (Nat.div_le_self _ _) C
def qZ(B k:Nat)(i:Nat):Bool:=ax (i<k)&&!oO B i
def zN(B k:Nat)(i:Nat):Bool:=ax (k<=i)&&oO B i
abbrev BK(B k:Nat):Nat:=aA<|(ao 64).filter<|qZ B k
abbrev I_(B k:Nat):Bool:=(ao 64).any<|zN B k
def Yl{p:Nat->Bool}{i:Nat}:(ao<|i+1).any p=((ao i).any p||p i):=by rw[wE,zW];simp
def arQ(B k:Nat)(C:B<2^64):aS VP 222 [uV B,iV k] (.bn [iV<|BK B k,bV<|I_ B k]):=by
 refine gO Tryz.f222.eq_1 λw y=>?_;refine S0 ?_;refine lF 0 64 (λi T h=>T 0=uV B/\ T 1=iV k/\ T 8=iV i/\ T 4=iV (aA<|(ao i).filter<|qZ B k)/\ T 5=bV ((ao i).any<|zN B k)/\ h=H.empty y) ?_ ?_ ?_;refine S0 ?_;exact auM;rintro i T h G ⟨O,J,Q,N,c,rfl⟩;have t:ax ((i:Int)<64)=aa:=aul;have s:=NJ .i64 B i G;have b:=P5 _<|RM C i;have X:=acV B i;have U:=Rr (p:=qZ B k) (i:=i);have e:=Yl (p:=zN B k) (i:=i);have d:aA ((ao i).filter<|qZ B k)<=i:=by have:=tF (qZ B k)<|ao i;rwa[nN]at this
 have P:av .i64 ((aA ((ao i).filter<|qZ B k):Int)+1)=(aA ((ao i).filter<|qZ B k):Int)+1:=d' _ aW aW;have n:i<9223372036854775807:=aW;rw[U,e];generalize(aA ((ao i).filter<|qZ B k):Int)=n0 at*;generalize(ao i).any (zN B k)=g at*;unfold qZ zN;generalize oO B i=q at*;cases f:ax<|(k:Int)<=i;have V:ax (i<k)=aa:=by rw[cE]at f;exact aul
 have a:ax (k<=i)=ab:=by rw[cE]at f|-;omega
 rw[V,a];cases q<;>exact Z1 @bd tr;have V:ax (i<k)=ab:=by rw[c_]at f;exact aul
 have a:ax (k<=i)=aa:=by rw[c_]at f|-;omega
 rw[V,a];cases g<;>cases q<;>exact Z1 @bd tr;rintro T h ⟨O,J,Q,N,c,rfl⟩;have t:ax (((64:Nat):Int)<64)=ab:=rfl;exact avB
def pJ:Int->List Int->Bool
 |_,[]=>ab
 |b,p::l=>decide (p<=b)||pJ p l
def zx(P:List Int)(i:Nat):Int:=bif ag i 0 then-1 else(P[i-1]?).getD 0
def M8{P:aL}{i:Nat}(G:i<aA P):zx P (i+1)=P[i]:=by show(P[i+1-1]?).getD 0=_;rw[Nat.add_sub_cancel,cx G];rfl
def Qs{P:aL}{i:Nat}(G:i<aA P)(b:Int):pJ b (P.drop i)=(ax (P[i]<=b)||pJ P[i] (P.drop<|i+1)):=by rw[fD G];rfl
def vL(N:List bl)(n:Int):Nat:=aA<|gQ N n.toNat
def EE(N:List bl)(r:kv):Int:=
 bif ((vL N r.node:Nat):Int)==0 then 10 else bif ((aA r.b_:Int)!=(aA (iH N r.node.toNat):Nat))then 3 else bif pJ (-1) r.b_ then 9 else
 bif ax (1099511627776<r.first)then 2 else bif I_ r.blocked.toNat (vL N r.node)then 3 else bif ((BK r.blocked.toNat (vL N r.node):Nat):Int)==0 then 10 else 0
def jM(N:List bl)(A:List dZ)(r:kv):Int:=bif iT N A==0 then(bif ax (r.node<1)||ax ((aA N:Int)<=r.node)then 2 else EE N r)else iT N A
def Dl{N:List bl}{A:List dZ}(h:iT N A=0):pT N:=by by_cases o:pT N;exact o;unfold iT at h;rw[yE o]at h;cases h
structure xX(r:kv):Prop where
 p:bk r.b_
 b:0<=r.blocked/\ r.blocked<18446744073709551616
def HR{N:List bl}{a:Nat}(o:pT N)(b:a<aA N):aA (fX N a)=aA (iH N a)/\ lE N a=0:=by
 have h:ax ((a:Int)<0)=ab:=aY;have p:ax ((aA N:Int)<=a)=ab:=auI;have e:lE N a=0:=by unfold lE;rw[AD o,h,p];rfl
 refine⟨?_,e⟩;unfold fX;exact at6
def aaw(N:List bl)(A:List dZ)(r:kv)(b0:hU N)(c0:k7 N)(h0:wL A)(O:xX r):aS VP 158 [.agg<|dA N,.fz<|A.map bQ,.agg<|dr r] (iV<|jM N A r):=by
 have g:=aav N A b0 c0 h0;unfold jM;by_cases M:iT N A=0;have i0:=Dl M;have U:((0:Int)==0)=aa:=rfl;rw[M]at g|-;rw[U,a8];cases d0:ax (r.node<1)||ax ((aA N:Int)<=r.node);have v:=d0;rw[gz,cE,cE]at v;have X:ax (r.node<1)=ab:=by rw[cE];exact v.1
 have l:ax ((aA N:Int)<=r.node)=ab:=by rw[cE];exact v.2
 obtain⟨a,J⟩:∃a:Nat,r.node=(a:Int):=⟨r.node.toNat,aW⟩;obtain⟨B,z⟩:∃B:Nat,r.blocked=(B:Int):=⟨r.blocked.toNat,by have:=O.b;omega⟩;have I:B<2^64:=by have:=O.b;omega
 have⟨n,P,F,j0⟩:=r;have J:n=(a:Int):=J;have z:j0=(B:Int):=z;have m0:aA P<1048576:=O.p;subst J z;have C:a<aA N:=by have:=v.2;show a<aA N;simp only at this;omega
 have⟨k,u⟩:=HR i0 C;have j:=arP N a b0 c0;rw[k,u]at j;have x:=mw C;have k0:vL N a=N[a].be.length:=by unfold vL;rw[c6,DO C]
 have Y:=arQ B (vL N a) I;unfold EE;simp only[c6];rw[k0]at Y|-;rw[br];simp only at X l;generalize N[a]=t at*;generalize aA (iH N a)=D at*;cases W:((aA t.be:Int)==0);cases e0:((aA P:Int)!=(D:Nat));refine gO Tryz.f158.eq_1 λw y=>?_;refine S7 g.aP X l x j.aP W e0 ?_;refine lF 1 (aA P) (λi T h=>T 5=.aR 5 1 0 0/\ T 8=iV (aA t.be)/\ T 11=iV (zx P i)/\ T 58=iL P/\ T 59=iV (aA P)/\ T 60=iV i/\ h.o 5=⟨1,0,.cells aa ab 72 4 [[iV a,iL P,uV F,uV B]]⟩/\ h.y=y/\ pJ (-1) P=pJ (zx P i) (P.drop i)) ?_ ?_ ?_;refine S0 ?_;exact auM;rintro i T h G ⟨c,L,V,Z,o,f,m,E,q⟩;have l0:i<9223372036854775807:=aW;have f0:∀h:H,cF h (ae,1) (iL P) (i:Int)=.ok (.bA [iV P[i]] 0):=λh=>db (s:=1) iC P i G;rw[M8 G];rw[Qs G]at q;generalize P[i]=p at*;generalize zx P i=b at*;cases Q:ax<|p<=b;rw[Q,jP]at q;refine eN c L V Z o f m (a6 G) f0 Q @bd ?_;exact⟨E,q⟩;rw[Q,rm]at q;rw[q];exact bq c L V Z o f m (a6 G) f0 Q @bd E tr;rintro T h ⟨c,L,V,Z,o,f,m,E,q⟩;rw[fS]at q;have q:pJ (-1) P=ab:=q;rw[q];generalize I_ B (aA t.be)=q1 at*;generalize BK B (aA t.be)=q2 at*;cases S:ax<|1099511627776<F;cases q1;cases d:(((q2:Nat):Int)==0);exact bq c L V Z o f m @ee Y.aP S d E tr;exact bq c L V Z o f m @ee Y.aP S d E tr;exact eN c L V Z o f m @ee Y.aP S E tr;exact eN c L V Z o f m @ee Y.aP S E tr;refine gO Tryz.f158.eq_1 λw y=>?_;exact S7 g.aP X l x j.aP W e0 tr;refine gO Tryz.f158.eq_1 λw y=>?_;exact S6 g.aP X l x j.aP W tr;refine gO Tryz.f158.eq_1 λw y=>?_;exact S2 g.aP d0 tr;have g0:(iT N A==0)=ab:=by simpa using M
 have a0:(iT N A !=0)=aa:=by simp[bne,g0]
 rw[g0,br];generalize iT N A=e at*;refine gO Tryz.f158.eq_1 λw y=>?_;exact S2 g.aP a0 tr
def G8(N:List bl):Prop:=∀t∈N,aA t.be<=20
def as4{B k:Nat}(C:B<2^64)(f:k<64):I_ B k=(((B/2^k:Nat):Int)!=0):=by
 by_cases h:B/2^k=0;have e:(((B/2^k:Nat):Int)!=0)=ab:=by rw[h];rfl
 rw[e,py];intro i G P;unfold zN oO at P;rw[bW,c_]at P;have a:B<2^k:=at6;have d:B<2^i:=dc a<|abw aW P.1;rw[abx d]at P;exact at6;have e:(((B/2^k:Nat):Int)!=0)=aa:=by simp only[Av];omega
 rw[e,mD];have⟨j,u⟩:=Nat.exists_testBit_of_ne_zero h;rw[Nat.testBit_div_two_pow]at u;have O:j+k<64:=by
  rcases Jx (j+k) 64 with d|d
  exact d;have A:B<2^(j+k):=dc C<|abw aW d;rw[abx A]at u;cases u
 refine⟨j+k,lS.2 O,?_⟩;unfold zN oO;rw[u,gu aW];rfl
def CJ(B k:Nat):Bool:=(ao k).any λi=>!oO B i
def alk{B k:Nat}(f:k<=64):(((BK B k:Nat):Int)==0)=!CJ B k:=by
 have e:(((BK B k:Nat):Int)==0)=(BK B k==0):=by grind
 rw[e];cases h:CJ B k;have n:∀i∈ao 64,¬qZ B k i=aa:=λi _ c=>by unfold qZ at c;rw[bW,c_]at c;have:=py.1 h i<|lS.2 c.1;exact this c.2
 exact at6;have⟨i,G,X⟩:=mD.1 h;have G:=lS.1 G;have m:i∈(ao 64).filter (qZ B k):=List.mem_filter.2 ⟨lS.2 aW,by unfold qZ;rw[X,gu G];rfl⟩
 grind
def arv(N:List bl)(P:aL)(F:Int)(a B:Nat)(b:a<aA N)(f:N[a].be.length<=20)(C:B<2^64):aS VP 173 [.agg<|dA N,.agg [iV a,iL P,uV F,uV B]] (bV<|CJ B N[a].be.length):=by have x:=mw b;generalize N[a]=t at*;refine gO Tryz.f173.eq_1 λw y=>?_;refine S0 ?_;unfold CJ;refine lF 0 (aA t.be) (λi T h=>T 2=.aR 2 1 0 0/\ T 3=.aR 3 1 0 0/\ T 5=iV i/\ h.o 2=⟨1,0,.cells aa ab 38 1 [dA N]⟩/\ h.o 3=⟨1,0,.cells aa ab 72 4 [[iV a,iL P,uV F,uV B]]⟩/\ h.y=y/\ (ao i).any (λi=>!oO B i)=ab) ?_ ?_ ?_;refine S0 ?_;exact at1;rintro i T h G ⟨W,O,c,k,s,E,M⟩;have e:av .u64 ((i:Nat):Int)=i:=mz _ aW aW;have J:=NJ .u64 B i aW;have o:=P5 _<|RM C i;have X:=acU B i;have n:=Yl (p:=λi=>!oO B i) (i:=i);have v:(!oO B i)=aa->(ao<|aA t.be).any (λi=>!oO B i)=aa:=λh=>mD.2 ⟨i,lS.2 G,h⟩;rw[M,jP]at n;rw[n];generalize oO B i=q at*;cases q;rw[v rfl];exact bq W O c k s (a6 G) x @AM e J o (an X<|an @bd E) tr;refine bq W O c k s (a6 G) x @AM e J o (an X @bd) ?_;exact E;rintro T h ⟨W,O,c,k,s,E,M⟩;rw[M];exact S8 W O c k s x @ee E tr
def aaj(N:List bl)(A:List dZ)(r:kv)(u0:hU N)(v0:k7 N)(z0:G8 N)(A0:wL A)(g0:xX r):aS VP 105 [.agg<|dA N,.fz<|A.map bQ,.agg<|dr r] (iV<|jM N A r):=by
 have g:=aai N A u0 v0 A0;unfold jM;by_cases i0:iT N A=0;have B0:=Dl i0;have j0:((0:Int)==0)=aa:=rfl;rw[i0]at g|-;rw[j0,a8];cases w0:ax (r.node<1)||ax ((aA N:Int)<=r.node);have v:=w0;rw[gz,cE,cE]at v;have S:ax (r.node<1)=ab:=by rw[cE];exact v.1
 have o:ax ((aA N:Int)<=r.node)=ab:=by rw[cE];exact v.2
 obtain⟨a,k0⟩:∃a:Nat,r.node=(a:Int):=⟨r.node.toNat,aW⟩;obtain⟨B,l0⟩:∃B:Nat,r.blocked=(B:Int):=⟨r.blocked.toNat,by have:=g0.b;omega⟩;have I:B<2^64:=by have:=g0.b;omega
 have⟨n,P,F,C0⟩:=r;have k0:n=(a:Int):=k0;have l0:C0=(B:Int):=l0;have G0:aA P<1048576:=g0.p;subst k0 l0;have l:a<aA N:=by have:=v.2;show a<aA N;simp only at this;omega
 have⟨m0,o0⟩:=HR B0 l;have z:=aay N a u0 v0;rw[o0]at z;have x:=mw l;have D0:vL N a=N[a].be.length:=by unfold vL;rw[c6,DO l]
 have d0:=z0 _<|bD l;have W:=arv N P F a B l d0 I;have p0:=as4 (B:=B) (k:=N[a].be.length) I aW;have r0:=alk (B:=B) (k:=N[a].be.length) aW;have D:av .u64 ((N[a].be.length:Nat):Int)=N[a].be.length:=mz _ aW aW;have m:=NJ .u64 B N[a].be.length aW;have f:ax ((N[a].be.length:Int)<64)=aa:=aul;unfold EE;simp only[c6];rw[D0,p0,r0,<-m0];rw[br];simp only at S o;generalize N[a]=t at*;generalize fX N a=L at*;have C:((aA L:Int)!=aA P)=((aA P:Int)!=aA L):=by
  by_cases h:(aA L:Int)=aA P;rw[h];have M:((aA L:Int)!=aA P)=aa:=by simp only[Av];exact h
  have h2:((aA P:Int)!=aA L)=aa:=by simp only[Av];exact λe=>h e.symm
  rw[M,h2]
 cases J:((aA t.be:Int)==0);cases E0:((aA P:Int)!=(aA L:Nat))<;>rw[E0]at C;refine gO Tryz.f105.eq_1 λw y=>?_;refine S7 g.aP S o x z.bE J C ?_;refine lF 0 (aA P) (λi T h=>T 3=.aR 3 1 0 0/\ T 5=.aR 5 1 0 0/\ T 8=iV (aA t.be)/\ T 11=iV i/\ h.o 3=⟨1,0,.cells aa ab 38 1 [dA N]⟩/\ h.o 5=⟨1,0,.cells aa ab 72 4 [[iV a,iL P,uV F,uV B]]⟩/\ h.y=y/\ -1<=zx P i/\ pJ (-1) P=pJ (zx P i) (P.drop i)) ?_ ?_ ?_;refine S0 ?_;exact⟨aM,rq _,aM⟩;rintro i T h G ⟨O,c,Q,V,Z,Y,E,d,q⟩;have F0:i<9223372036854775807:=aW;have e0:∀h:H,cF h (ae,1) (iL P) (i:Int)=.ok (.bA [iV P[i]] 0):=λh=>db (s:=1) iC P i G;rw[M8 G];rw[Qs G]at q;by_cases h0:i=0;subst h0;have s0:zx P 0=-1:=rfl;rw[s0]at q d;generalize P[0]=p at*;have c0:ax ((0:Int)<((0:Nat):Int))=ab:=rfl;cases X:ax<|p<0;have M:ax (p<=-1)=ab:=by rw[cE]at X|-;omega
 rw[M,jP]at q;refine eN O c Q V Z Y (a6 G) e0 X c0 @bd ?_;exact⟨E,by rw[cE]at X;omega,q⟩;have M:ax (p<=-1)=aa:=by rw[c_]at X|-;omega
 rw[M,rm]at q;rw[q];exact bq O c Q V Z Y (a6 G) e0 X c0 @bd E tr;obtain⟨j,rfl⟩:∃j,i=j+1:=⟨i-1,aW⟩;have x0:j<aA P:=aW;have u:∀h:H,cF h (ae,1) (iL P) (j:Int)=.ok (.bA [iV P[j]] 0):=λh=>db (s:=1) iC P j x0;have a0:av .i64 (((j+1:Nat):Int)-1)=(j:Int):=(d' _ aW aW).trans aW;have c0:ax ((0:Int)<((j+1:Nat):Int))=aa:=gu aW;rw[M8 x0]at q d;generalize P[j+1]=p at*;generalize P[j]=b at*;cases X:ax<|p<0;cases U:ax<|p<=b;rw[U,jP]at q;refine bq O c Q V Z Y (a6 G) e0 u a0 X (an U<|an c0 @bd) ?_;exact⟨E,by rw[cE]at X;omega,q⟩;rw[U,rm]at q;rw[q];exact bq O c Q V Z Y (a6 G) e0 u a0 X (an U<|an c0<|an @bd E) tr;have M:ax (p<=b)=aa:=by rw[c_]at X|-;omega
 rw[M,rm]at q;rw[q];exact bq O c Q V Z Y (a6 G) e0 u a0 X (an c0<|an @bd E) tr;rintro T h ⟨O,c,Q,V,Z,Y,E,d,q⟩;rw[fS]at q;have q:pJ (-1) P=ab:=q;rw[q];generalize CJ B (aA t.be)=q2 at*;cases f0:ax<|1099511627776<F;cases b0:(((B/2^aA t.be:Nat):Int)!=0);cases q2;exact awO;exact awO;exact bq O c Q V Z Y @ee f0 b0 f @AM (an D<|an m E) tr;exact S9 O c Q V Z Y @ee f0 E tr;refine gO Tryz.f105.eq_1 λw y=>?_;exact S7 g.aP S o x z.bE J C tr;refine gO Tryz.f105.eq_1 λw y=>?_;exact S5 g.aP S o x J tr;refine gO Tryz.f105.eq_1 λw y=>?_;exact S2 g.aP w0 tr;have y0:(iT N A==0)=ab:=by simpa using i0
 have t0:(iT N A !=0)=aa:=by simp[bne,y0]
 rw[y0,br];generalize iT N A=e at*;refine gO Tryz.f105.eq_1 λw y=>?_;exact S2 g.aP t0 tr
def nm(a b:Int):Int:=bif ax (a<b)then-1 else bif ax (b<a)then 1 else 0
def jq:List Int->List Int->Int
 |[],[]=>0
 |[],_::_=>-1
 |_::_,[]=>1
 |x::a,y::b=>bif nm x y==0 then jq a b else nm x y
def jr:List Int->Int
 |[]=>0
 |a::l=>bif a !=0 then a else jr l
def Cc(a:Int):aS VP 357 [iV a] (bV ab):=by refine gO Tryz.f357.eq_1 λw y=>?_;exact aug
def aaS(a b:Int):aS VP 287 [iV a,iV b] (iV<|nm a b):=by unfold nm;cases h:ax<|a<b;cases p:ax<|b<a;exact auO;exact auO;exact auO
def asc(l:aL)(P:bk l):aS VP 288 [iL l] (iV<|jr l):=by have P:aA l<1048576:=P;refine gO Tryz.f288.eq_1 λw y=>?_;refine S0 ?_;refine lF 0 (aA l) (λi T h=>T 3=iV 0/\ T 6=iL l/\ T 7=iV (aA l)/\ T 8=iV i/\ h.y=y/\ jr l=jr (l.drop i)) ?_ ?_ ?_;refine S0 ?_;exact at1;rintro i T h G ⟨O,N,S,Q,E,q⟩;have t:∀h:H,cF h (ae,1) (iL l) (i:Int)=.ok (.bA [iV l[i]] 0):=λh=>db (s:=1) iC l i G;rw[fD G,jr]at q;generalize l[i]=c at*;cases d:c !=0;rw[d]at q;refine S8 O N S Q (a6 G) t d @bd ?_;exact⟨E,q⟩;rw[d]at q;rw[show jr l=c from q];exact S8 O N S Q (a6 G) t d E tr;rintro T h ⟨O,N,S,Q,E,q⟩;rw[fS]at q;rw[show jr l=0 from q];exact S6 O N S Q @ee E tr
def Rm{a b:aL}{i:Nat}(J:i<aA a)(e:i<aA b):jq (a.drop i) (b.drop i)=bif nm a[i] b[i]==0 then jq (a.drop<|i+1) (b.drop<|i+1)else nm a[i] b[i]:=by rw[fD J,fD e];rfl
def aaT(a b:aL)(z:bk a):aS VP 289 [iL a,iL b] (iV<|jq a b):=by
 have z:aA a<1048576:=z;refine gO Tryz.f289.eq_1 λw y=>?_;refine S0 ?_;refine lF 0 (aA a) (λi T h=>T 0=iL a/\ T 1=iL b/\ T 9=iL a/\ T 10=iV (aA a)/\ T 11=iV i/\ h.y=y/\ i<=aA b/\ jq a b=jq (a.drop i) (b.drop i)) ?_ ?_ ?_;refine S0 ?_;exact⟨aM,kQ _,aM⟩;rintro i T h G ⟨O,J,A,L,V,E,k,q⟩;have t:∀h:H,cF h (ae,1) (iL a) (i:Int)=.ok (.bA [iV a[i]] 0):=λh=>db (s:=1) iC a i G;by_cases p:i<aA b;have f:∀h:H,cF h (ae,1) (iL b) (i:Int)=.ok (.bA [iV b[i]] 0):=λh=>db (s:=1) iC b i p;have C:ax ((aA b:Int)<=i)=ab:=auI;rw[Rm G p]at q;have Z:=aaS a[i] b[i];generalize nm a[i] b[i]=c at*;generalize a[i]=u at*;generalize b[i]=v at*;cases Q:c==0;have n:(c !=0)=aa:=by simp[bne,Q]
 rw[Q]at q;rw[show jq a b=c from q];exact bq O J A L V (a6 G) t f C Z.aP n E tr;have n:(c !=0)=ab:=by simp[bne,Q]
 rw[Q]at q;refine bq O J A L V (a6 G) t f C Z.aP n @bd ?_;exact⟨E,p,q⟩;have C:ax ((aA b:Int)<=i)=aa:=auR;have d:b.drop i=[]:=mZ aW;rw[fD G,d]at q;rw[show jq a b=1 from q];exact S9 O J A L V (a6 G) t C E tr;rintro T h ⟨O,J,A,L,V,E,k,q⟩;rw[fS]at q;cases l:ax<|(aA a:Int)<aA b;have:b.drop (aA a)=[]:=mZ (by rw[cE]at l;omega);rw[this]at q;rw[show jq a b=0 from q];exact S8 O J A L V @ee l E tr;have m:aA a<aA b:=by rw[c_]at l;omega
 rw[fD m]at q;rw[show jq a b=-1 from q];exact S8 O J A L V @ee l E tr
def aaU(l:aL)(P:bk l)(hn:l≠[]):aS VP 300 [iL l] (iV<|l.getLast hn):=by
 have P:aA l<1048576:=P;have i:0<aA l:=uU.2 hn;have e:av .i64 ((aA l:Int)-1)=((aA l-1:Nat):Int):=(d' _ aW aW).trans aW;have Q:((aA l:Int)==0)=ab:=by rw[As];omega
 have t:∀h:H,cF h (ae,1) (iL l) ((aA l-1:Nat):Int)=.ok (.bA [iV<|l[aA l-1]'aW] 0):=λh=>db (s:=1) iC l _ aW;rw[List.getLast_eq_getElem];refine gO Tryz.f300.eq_1 λw y=>?_;exact avB
def aaV(a b:aL)(k:bk a):aS VP 301 [iL a,iL b] (iV<|jq a b):=by
 have k:aA a<1048576:=k;refine gO Tryz.f301.eq_1 λw y=>?_;refine S0 ?_;refine lF 0 (min (aA a)<|aA b) (λi T h=>T 0=iL a/\ T 1=iL b/\ T 5=iV i/\ h.y=y/\ jq a b=jq (a.drop i) (b.drop i)) ?_ ?_ ?_;refine S0 ?_;exact at1;rintro i T h G ⟨O,J,c,E,q⟩;have C:i<aA a:=aW;have p:i<aA b:=aW;have t:∀h:H,cF h (ae,1) (iL a) (i:Int)=.ok (.bA [iV a[i]] 0):=λh=>db (s:=1) iC a i C;have f:∀h:H,cF h (ae,1) (iL b) (i:Int)=.ok (.bA [iV b[i]] 0):=λh=>db (s:=1) iC b i p;rw[Rm C p]at q;generalize a[i]=u at*;generalize b[i]=v at*;cases Q:u !=v;have l:u=v:=by simpa[bne]using Q
 subst l;have e:nm u u=0:=by have:ax (u<u)=ab:=aY;unfold nm;exact avO
 rw[e]at q;refine S9 O J c (a6 C) (a6 p) t f Q @bd ?_;exact⟨E,q⟩;have l:u≠v:=by intro e;rw[e]at Q;simp at Q
 cases Y:ax<|u<v;have e:nm u v=1:=by
  have:ax (v<u)=aa:=by rw[cE]at Y;exact auR
  unfold nm;rw[Y,this];rfl
 rw[e]at q;rw[show jq a b=1 from q];exact fm O J c (a6 C) (a6 p) t f Q Y E tr;have e:nm u v=-1:=by unfold nm;rw[Y];rfl
 rw[e]at q;rw[show jq a b=-1 from q];exact fm O J c (a6 C) (a6 p) t f Q Y E tr;rintro T h ⟨O,J,c,E,q⟩
 rcases Nat.lt_trichotomy (aA a) (aA b)with P|P|P
 have m:min (aA a) (aA b)=aA a:=aW;rw[m]at q c;have V:ax ((aA a:Int)<aA a)=ab:=aY;have j:ax ((aA a:Int)<aA b)=aa:=auR;rw[fS,fD P]at q;rw[show jq a b=-1 from q];exact S6 O J c V j E tr;have m:min (aA a) (aA b)=aA a:=aW;rw[m]at q c;have V:ax ((aA a:Int)<aA a)=ab:=aY;have j:ax ((aA a:Int)<aA b)=ab:=auI;have d:ax ((aA b:Int)<aA a)=ab:=auI;rw[fS,P,fS]at q;rw[show jq a b=0 from q];exact S7 O J c V j d E tr;have m:min (aA a) (aA b)=aA b:=aW;rw[m]at q c;have V:ax ((aA b:Int)<aA a)=aa:=auR;have j:ax ((aA a:Int)<aA b)=ab:=auI;have d:ax ((aA b:Int)<aA b)=ab:=aY;rw[fS,fD P]at q;rw[show jq a b=1 from q];exact S7 O J c V j d E tr
def wT(a p b q:List Int):Int:=bif nm (p.getLast?.getD 0) (q.getLast?.getD 0)!=0 then nm (p.getLast?.getD 0) (q.getLast?.getD 0)else jr [jq p q,jq a b]
def Bp{p:aL}(M:p≠[]):p.getLast?.getD 0=p[aA p-1]'(by have:=uU.2 M;omega):=by rw[List.getLast?_eq_getElem?,cx (by have:=uU.2 M;omega)];rfl
def arR(a p b q:aL)(J:bk a)(M:bk p)(N:bk q)(e:p≠[])(T:q≠[]):aS VP 223 [.agg [iL a,iL p],.agg [iL b,iL q]] (iV<|wT a p b q):=by
 have i:=aaT p q M;have o:=aaT a b J;have D:=asc [jq p q,jq a b] (by show 2<1048576;omega);have M:aA p<1048576:=M;have N:aA q<1048576:=N;have t:0<aA p:=uU.2 e;have P:0<aA q:=uU.2 T;have l:av .i64 ((aA p:Int)-1)=((aA p-1:Nat):Int):=(d' _ aW aW).trans aW;have k:av .i64 ((aA q:Int)-1)=((aA q-1:Nat):Int):=(d' _ aW aW).trans aW;have V:((aA p:Int)==0)=ab:=by rw[As];omega
 have j:((aA q:Int)==0)=ab:=by rw[As];omega
 have W:∀h:H,cF h (ae,1) (iL p) ((aA p-1:Nat):Int)=.ok (.bA [iV<|p[aA p-1]'aW] 0):=λh=>db (s:=1) iC p _ aW;have F:∀h:H,cF h (ae,1) (iL q) ((aA q-1:Nat):Int)=.ok (.bA [iV<|q[aA q-1]'aW] 0):=λh=>db (s:=1) iC q _ aW;unfold wT;rw[Bp e,Bp T];have x:=aaS (p[aA p-1]'aW)<|q[aA q-1]'aW;generalize p[aA p-1]'aW=u at*;generalize q[aA q-1]'aW=v at*;generalize nm u v=c at*;generalize jq p q=z at*;generalize jq a b=Q at*;generalize n:jr [z,Q]=f at*;have D:aS VP 288 [.fz [[iV z],[iV Q]]] (iV f):=D;cases S:c !=0;refine gO Tryz.f223.eq_1 λw y=>?_;exact Z9 x.aP i.aP o.aP @PQ @SB @QO @U9 @ZJ D.aP tr;refine gO Tryz.f223.eq_1 λw y=>?_;exact Z1 x.aP tr
def arU(a p b q:aL)(J:bk a)(M:bk p)(N:bk q)(e:p≠[])(T:q≠[]):aS VP 231 [.agg [iL a,iL p],.agg [iL b,iL q]] (iV<|wT a p b q):=by
 have i:=aaV p q M;have o:=aaV a b J;have s:=aaU p M e;have x:=aaU q N T;rw[List.getLast_eq_getElem]at s x;unfold wT;rw[Bp e,Bp T];generalize p[aA p-1]'(by have:=uU.2 e;omega)=u at*;generalize q[aA q-1]'(by have:=uU.2 T;omega)=v at*;generalize jq p q=z at*;generalize jq a b=f at*;unfold nm;cases V:ax<|u<v;cases j:ax<|v<u
 show aS VP 231 _<|iV<|bif z !=0 then z else bif f !=0 then f else 0
 have C:(bif f !=0 then f else 0)=f:=by
  cases h:f !=0;have:f=0:=by simpa[bne]using h
  exact avO;rfl
 rw[C];cases c:z !=0;refine gO Tryz.f231.eq_1 λw y=>?_;exact Z4 s.aP x.aP i.aP o.aP tr;refine gO Tryz.f231.eq_1 λw y=>?_;exact Z3 s.aP x.aP i.aP tr;show aS VP 231 _<|iV 1;exact awT;show aS VP 231 _<|iV<|-1;exact awT
def arw(a p b q:aL)(J:bk a)(M:bk p)(u:bk q)(e:p≠[])(T:q≠[]):aS VP 175 [.agg [iL a,iL p],.agg [iL b,iL q]] (iV<|wT a p b q):=by have g:=arU a p b q J M u e T;refine gO Tryz.f175.eq_1 λw y=>?_;exact S1 g.aP tr
abbrev MV(N:List bl)(r:kv):List VV:=[iL<|fX N r.node,iL r.b_]
theorem wk{N:List bl}{A:List dZ}{r:kv}(h:jM N A r=0):pT N/\ (∃a:Nat,r.node=(a:Int)/\ 0<a/\ a<aA N)/\ r.b_≠[]/\ aA r.b_=aA (iH N r.node.toNat):=by
 unfold jM at h;by_cases hf:iT N A=0;have o:=Dl hf;have c:((0:Int)==0)=aa:=rfl;rw[hf,c,a8]at h;cases S:ax (r.node<1)||ax ((aA N:Int)<=r.node);rw[S,br]at h;rw[gz,cE,cE]at S;obtain⟨a,b⟩:∃a:Nat,r.node=(a:Int):=⟨r.node.toNat,aW⟩;have Q:0<a/\ a<aA N:=aW;unfold EE at h;cases V:(((vL N r.node:Nat):Int)==0)<;>rw[V]at h;cases j:((aA r.b_:Int)!=(aA (iH N r.node.toNat):Nat))<;>rw[j]at h;have j:aA r.b_=aA (iH N r.node.toNat):=by simp at j;omega
 refine⟨o,⟨a,b,Q⟩,?_,j⟩;intro e;rw[e,b,c6]at j;have⟨p,M⟩:=HQ o.1.p Q.2 Q.1;have:=(Gl o.1.p Q.2 Q.1 M).1;unfold iH at j;exact at6;exact avN;exact avN;rw[S]at h;cases h
 grind
theorem b30:0*1000+29+1=30:=rfl
theorem acX(a b:aB):ga VP.D 265 [(0,.fz a),(1,.fz b)]=.ok (.agg [.fz a,.fz b]):=aV
theorem acY(a:aB)(s v n:Nat):ga VP.D 265 [(0,.fz a),(1,.bh s v 0 n)]=.ok (.agg [.fz a,.bh s v 0 n]):=aV
theorem WY{N:List bl}{n:Int}(hb:hU N):bk (fX N n):=by
 unfold fX;by_cases p:lE N n=0;obtain⟨o,a,rfl,b⟩:=MY p;rw[p,c6];have:=N7 hb o.1.p b;exact at6
 grind
section
variable(N:List bl)(A:List dZ)(r:kv)(hb:hU N)(hl:k7 N)(hA:wL A)(hr:xX r)(he:jM N A r=0)
include hb hl hA hr he
theorem asd:aS VP 290 [.agg<|dA N,.fz<|A.map bQ,.agg<|dr r] (.bn [.agg<|MV N r,iV 0]):=by
 have g:=aaw N A r hb hl hA hr;rw[he]at g;have o:=aaR N r.node hb hl;have x:lE N r.node=0:=av_;rw[x]at o;have V:aA r.b_<1048576:=hr.p;show aS VP 290 _<|.bn [.agg [iL<|fX N r.node,iL r.b_],iV 0];generalize fX N r.node=L at*;refine gO Tryz.f290.eq_1 λw y=>?_;have⟨d,z,c,S⟩:=T8 30 aT aT aT w ((((H.empty y).new 3<|.cells aa ab 38 1 [dA N]).new 5<|.cells aa ab 72 4 [dr r]).new 6<|.cells aa ab 265 2 [[.nil,.nil]]) r.b_ V;have B:d.o 6=⟨1,0,.cells aa ab 265 2 [[.nil,.nil]]⟩:=by rw[S _ aT];rfl
 have M:d.y=y:=by rw[c];rfl
 refine S9 g.aP o.bE @ua @b30 z B @dW @cC @acX ?_;rw[M]
theorem aaz(k:G8 N):aS VP 174 [.agg<|dA N,.fz<|A.map bQ,.agg<|dr r] (.bn [.agg<|MV N r,iV 0]):=by have g:=aaj N A r hb hl k hA hr;rw[he]at g;have o:=aay N r.node hb hl;have x:lE N r.node=0:=av_;rw[x]at o;have V:aA r.b_<1048576:=hr.p;have h:=yV r.b_;have p:ah (aA r.b_) (2^30)=aa:=qx V;show aS VP 174 _<|.bn [.agg [iL<|fX N r.node,iL r.b_],iV 0];generalize fX N r.node=L at*;have n:ai (aA r.b_) (aA r.b_)=aa:=aY;have M:ar (aA r.b_) (au 0<|r.b_.map iC)=r.b_.map iC:=at8;refine gO Tryz.f174.eq_1 λw y=>?_;exact Z6 g.aP o.bE @bZ @dW @cC @acY tr
theorem aaH(m:aC):aS VP 224 [.bA (.fz (N.map c8)::.fz (A.map bQ)::m) 0,.agg<|dr r] (.agg<|MV N r):=by have g:=asd N A r hb hl hA hr he;show aS VP 224 _<|.agg [iL<|fX N r.node,iL r.b_];have g:aS VP 290 [.agg<|dA N,.fz<|A.map bQ,.agg<|dr r] (.bn [.agg [iL<|fX N r.node,iL r.b_],iV 0]):=g;generalize fX N r.node=L at*;refine gO Tryz.f224.eq_1 λw y=>?_;exact S4 @gU @jZ @jy g.bE tr
end
abbrev yH(N:List bl)(r s:kv):Int:=wT (fX N r.node) r.b_ (fX N s.node) s.b_
section
variable(N:List bl)(A:List dZ)(r s:kv)(hb:hU N)(hl:k7 N)(hA:wL A)(hr:xX r)(hs:xX s)(he:jM N A r=0)(hf:jM N A s=0)
include hb hl hA hr hs he hf
theorem aro(m:aC):aS VP 160 [.bA (.fz (N.map c8)::.fz (A.map bQ)::m) 0,.agg<|dr r,.agg<|dr s] (iV<|yH N r s):=by have h:aS VP 224 [.bA (.fz (N.map c8)::.fz (A.map bQ)::m) 0,.agg<|dr r] (.agg [iL<|fX N r.node,iL r.b_]):=aaH N A r hb hl hA hr he m;have o:aS VP 224 [.bA (.fz (N.map c8)::.fz (A.map bQ)::m) 0,.agg<|dr s] (.agg [iL<|fX N s.node,iL s.b_]):=aaH N A s hb hl hA hs hf m;have D:=arR (fX N r.node) r.b_ (fX N s.node) s.b_ (WY hb) hr.p hs.p (wk he).2.2.1 (wk hf).2.2.1;show aS VP 160 _<|iV<|wT (fX N r.node) r.b_ (fX N s.node) s.b_;generalize fX N r.node=L at*;generalize fX N s.node=M at*;refine gO Tryz.f160.eq_1 λw y=>?_;exact S3 h.bE o.bE D.aP tr
theorem aq4(k:G8 N)(u:Int)(cap:Int)(R:aB)(E G:Int)(D:Bool):aS VP 107 [.agg [.fz<|N.map c8,.fz<|A.map bQ,uV u,iV cap,.fz R,iV E,uV G,bV D],.agg<|dr r,.agg<|dr s] (iV<|yH N r s):=by have h:aS VP 174 [.agg<|dA N,.fz<|A.map bQ,.agg<|dr r] (.bn [.agg [iL<|fX N r.node,iL r.b_],iV 0]):=aaz N A r hb hl hA hr he k;have o:aS VP 174 [.agg<|dA N,.fz<|A.map bQ,.agg<|dr s] (.bn [.agg [iL<|fX N s.node,iL s.b_],iV 0]):=aaz N A s hb hl hA hs hf k;have T:=arw (fX N r.node) r.b_ (fX N s.node) s.b_ (WY hb) hr.p hs.p (wk he).2.2.1 (wk hf).2.2.1;show aS VP 107 _<|iV<|wT (fX N r.node) r.b_ (fX N s.node) s.b_;generalize fX N r.node=L at*;generalize fX N s.node=M at*;refine gO Tryz.f107.eq_1 λw y=>?_;exact S3 h.bE o.bE T.aP tr
end
def Ml{q:cR}(X:gR q):bk (qR q)/\ ∀y∈qR q,bk y/\ ∀s∈y,bk s.bH:=by
 unfold qR;cases m:p_ q==0;exact at6;have m:p_ q=0:=by simpa using m
 unfold p_ at m;cases e:eh q==0;exact at6;rw[e,a8]at m;have e:eh q=0:=avF;have⟨h,a⟩:=IZ X e;cases t:ax (64<(cw q.bt).1)||ax (12<(cw q.bt).2.2);rw[gz,cE,cE]at t;have f:=(zd q.bt h a 0).2;rw[a8];refine⟨?_,λy Q=>⟨?_,λs B=>?_⟩⟩;show aA (cK 0 q.bt)<1048576;omega;have:=Mh q.bt h a 0 y Q;show aA y<1048576;omega;have:=Hh q.bt h a 0 y Q s B;show aA s.bH<1048576;omega;rw[t]at m;cases m
def xR(q:cR):Int:=bif p_ q==0 then gj (qR q)else p_ q
def v8(q:cR):List bl:=bif p_ q==0 then jA (qR q)else[]
def w72(q:cR)(X:gR q):aS VP 72 [.agg<|bG q] (.bn [.agg<|dA<|v8 q,iV<|xR q]):=by
 have g:=arf q X;have⟨h,p⟩:=Ml X;have o:=aar (qR q) h p;unfold v8 xR;generalize qR q=L at*;generalize p_ q=e at*;generalize jA L=Q at*;generalize gj L=f at*;obtain⟨k,M,F,a,W,u,v,Z,rfl⟩:=qC q;simp only[bG,bg,ck,b7]at g|-;cases J:e==0;have n:(e !=0)=aa:=by simp[bne,J]
 show aS VP 72 _<|.bn [.agg [.fz []],iV e];refine gO Tryz.f72.eq_1 λw y=>?_;exact Z3 g.bE @cC @wP tr;have n:(e !=0)=ab:=by simp[bne,J]
 refine gO Tryz.f72.eq_1 λw y=>?_;exact Z2 g.bE o.bE tr
def w81(q:cR)(X:gR q):aS VP 81 [.agg<|bG q] (.bn [.agg<|dA<|v8 q,iV<|xR q]):=by
 have g:=arl q X;have⟨h,p⟩:=Ml X;have o:=aau (qR q) h p;unfold v8 xR;generalize qR q=L at*;generalize p_ q=e at*;generalize jA L=Q at*;generalize gj L=f at*;obtain⟨k,M,F,a,W,u,v,Z,rfl⟩:=qC q;simp only[bG,bg,ck,b7]at g|-;cases J:e==0;have n:(e !=0)=aa:=by simp[bne,J]
 show aS VP 81 _<|.bn [.agg [.fz []],iV e];refine gO Tryz.f81.eq_1 λw y=>?_;exact Z3 g.bE @cC @wP tr;have n:(e !=0)=ab:=by simp[bne,J]
 refine gO Tryz.f81.eq_1 λw y=>?_;exact Z2 g.bE o.bE tr
def mj(q:cR)(c:Int):Int:=bif xR q==0 then(bif ax (c<0)||ax (64<c)then 2 else 0)else xR q
def iW(q:cR)(c:Int):i7:=bif mj q c==0 then⟨v8 q,jU q,q.iI,c,[],0,0,ab⟩else⟨[],[],0,0,[],0,0,ab⟩
def FW:ga VP.D 42 []=.ok (.agg [.nil,.nil,uV 0,iV 0,.nil,iV 0,uV 0,bV ab]):=aV
def QH(a b:aB)(w c:Int):ga VP.D 42 [(0,.agg [.fz a]),(1,.fz b),(2,uV w),(3,iV c)]=.ok (.agg [.fz a,.fz b,uV w,iV c,.nil,iV 0,uV 0,bV ab]):=aV
def Qg(q:cR):(bif bR 200 q.bt then(qw q.bt).map bQ else[])=(jU q).map bQ:=by
 unfold jU
 grind
def w31(q:cR)(c:Int)(X:gR q):aS VP 31 [.agg<|bG q,iV c] (.bn [.agg<|gi<|iW q c,iV<|mj q c]):=by have g:=w72 q X;have o:=EZ q.bt ⟨X.1.1,X.2⟩;rw[Qg q]at o;unfold iW mj;generalize jU q=A at*;generalize v8 q=Q at*;generalize xR q=e at*;obtain⟨k,M,F,a,W,u,v,Z,rfl⟩:=qC q;simp only[bG,bg,ck,b7]at g o|-;cases f:e==0;have n:(e !=0)=aa:=avh;simp only[br,f];show aS VP 31 _<|.bn [.agg [.fz [],.fz [],uV 0,iV 0,.fz [],iV 0,uV 0,bV ab],iV e];exact awH;have b:e=0:=aum;subst b;cases S:ax (c<0)||ax (64<c);show aS VP 31 _<|.bn [.agg [.fz<|Q.map c8,.fz<|A.map bQ,uV u,iV c,.fz [],iV 0,uV 0,bV ab],iV 0];refine gO Tryz.f31.eq_1 λw y=>?_;exact Z5 g.bE o.bE @dW @cC @QH tr;show aS VP 31 _<|.bn [.agg [.fz [],.fz [],uV 0,iV 0,.fz [],iV 0,uV 0,bV ab],iV 2];exact awH
def w38(q:cR)(c:Int)(X:gR q):aS VP 38 [.agg<|bG q,iV c] (.bn [.agg<|gi<|iW q c,iV<|mj q c]):=by have g:=w81 q X;have o:=IW q.bt ⟨X.1.1,X.2⟩;have C:(bif bR 200 q.bt then((gh q.bt).map fE).map bQ else[])=(jU q).map bQ:=Qg q;rw[C]at o;unfold iW mj;generalize jU q=A at*;generalize v8 q=Q at*;generalize xR q=e at*;obtain⟨k,M,F,a,W,u,v,Z,rfl⟩:=qC q;simp only[bG,bg,ck,b7]at g o|-;cases f:e==0;have n:(e !=0)=aa:=avh;simp only[br,f];show aS VP 38 _<|.bn [.agg [.fz [],.fz [],uV 0,iV 0,.fz [],iV 0,uV 0,bV ab],iV e];exact awI;have b:e=0:=aum;subst b;cases S:ax (c<0)||ax (64<c);show aS VP 38 _<|.bn [.agg [.fz<|Q.map c8,.fz<|A.map bQ,uV u,iV c,.fz [],iV 0,uV 0,bV ab],iV 0];refine gO Tryz.f38.eq_1 λw y=>?_;exact Z5 g.bE o.bE @dW @cC @QH tr;show aS VP 38 _<|.bn [.agg [.fz [],.fz [],uV 0,iV 0,.fz [],iV 0,uV 0,bV ab],iV 2];exact awI
def TL{N:List bl}(h:pT N):∀t∈N,(∀c∈t.be,0<c/\ c.toNat<aA N)/\ bk t.be:=by
 have⟨I,S,r,Q⟩:=h;unfold rH at Q;rw[bW,Gr KT]at Q;have⟨f,Q⟩:=Q;have f:gj (hW N S)=0:=aum;have⟨M,D⟩:=Eh f;have e:oQ 0 [ov] (hW N S)=N:=by unfold jA at Q;rw[f]at Q;exact Q
 have P:=gA.build (hW N S) 0 abi λy h=>⟨(D y h).1,λs B=>by
  have:=Wx (D y h).2 s B;show aA s.bH<1048576
  have:=this.1;omega⟩
 rw[e]at P;intro t Y;have⟨C,w,_⟩:=P.k t Y;exact⟨C,(by show aA t.be<1048576;omega)⟩
abbrev kI(n:Int):AV:=.aN<|.int .i64 n
def Si(a b:Int):bX VP.D 10 3 (kI a) (kI b)=.ok (a==b):=Gw 9 a b
def bqI(k:Int):cU (kI k) (kI k)=aa:=by simp[cU,kx]
def fvI(l:List<|Int×Bool)(k:Int):oa VP.D 3 (.aN<|.int .i64 k) (l.map<|hL kI)=.ok ((qI l k).map λb=>.aN<|.bool b):=Dn Si k l
def svI(l:List<|Int×Bool)(k:Int)(b:Bool):oz (bV b) VP.D 3 (.aN<|.int .i64 k) (l.map<|hL kI)=.ok ((po l k b).map<|hL kI):=EM Si bqI k b l
def UQ:o9 VP.D 184=.ok (3,4):=aV
def pvI(n:Int):tq (.aN<|.int .i64 n)=aa:=rfl
def afe(a b:Int):bX VP.D 10 3 (.aN<|.int .i64 a) (.aN<|.int .i64 b)=.ok (a==b):=Gw 9 a b
def Hr:=af @fvI<|af @svI<|af @UQ<|af @I5<|af @afe<|af @Sx @pvI
def o'(N:List bl)(k:List Int):List Int:=k.map λc=>(x9 N c.toNat).da
abbrev tA(N:List bl)(t:bl):Bool:=jV []<|o' N t.be
def wo(m:i7):Int:=
 bif iT m.dS m.eX==0 then
  (bif m.dS.any (tA m.dS)then 3 else
  bif ax (10000<m.iI)||ax (m.cap<0)||ax (64<m.cap)||ax (m.tU<0)||ax (1099511627776<m.tU)||ax (1099511627776<m.dy)then 2 else
  bif (m.B'&&ax (0<(aA m.eK:Int)))||((m.tU==0)&&(m.B'||ax (0<(aA m.eK:Int))||(m.dy !=0)))then 10 else
  bif ax (m.cap<(aA m.eK:Int))then 6 else 0)
 else iT m.dS m.eX
def ue(b:Bool)(h:H)(cs:aC)(o:Nat)(x:VV)(y:R VV):Vm.jG b (Ec h<|bif b then .bA cs o else x) y=Vm.jG b (.ok<|.bA cs o) y:=avc
def w90(m:i7)(s0:hU m.dS)(w0:k7 m.dS)(x0:wL m.eX):aS VP 90 [.bA (gi m) 0] (iV<|wo m):=by
 have⟨N,A,e0,I,R,o,G,U⟩:=m;have g:=aav N A s0 w0 x0;have D0:aA N<1048576:=s0.1;unfold wo;by_cases f0:iT N A=0
 ·have y0:=Dl f0;have g0:((0:Int)==0)=aa:=rfl;have D:=TL y0;simp only;rw[f0]at g|-;rw[g0,a8];refine gO Tryz.f90.eq_1 λw y=>?_;refine S4 @gU @jZ @jy g.aP ?_;refine lF 0 (aA N) (λi T h=>T 0=.bA [.fz<|N.map c8,.fz<|A.map bQ,uV e0,iV I,.fz<|R.map dr,iV o,uV G,bV U] 0/\ T 29=.fz (N.map c8)/\ T 30=iV (aA N)/\ T 31=iV i/\ h.y=y/\ (N.take i).any (tA N)=ab) ?_ ?_ ?_;refine S0 ?_;exact at1
  ·rintro i T h P ⟨O,Z,Q,r,E,a0⟩;have z0:i<9223372036854775807:=aW;have J:=gI (p:=tA N) P;have V:=gJ (p:=tA N) P a0;have h0:=mw P;have⟨i0,q⟩:=D _<|bD P;generalize N[i]=t at*;have q:aA t.be<1048576:=q;have A0:aA (o' N t.be)=aA t.be:=bj _;have j0:∀k (f:k<aA t.be) (q:k<aA (o' N t.be)),(o' N t.be)[k]=(x9 N t.be[k].toNat).da:=λk f q=>fK _;have J:jV [] (o' N t.be)=aa->N.any (tA N)=aa:=J;have V:jV [] (o' N t.be)=ab->(N.take<|i+1).any (tA N)=ab:=V;generalize o' N t.be=L at*;refine S9 O Z Q r (a6 P) h0 @gU @jZ @Hr ?_;refine oF 1 2 (aA t.be) (λk T b0=>T 0=.bA [.fz<|N.map c8,.fz<|A.map bQ,uV e0,iV I,.fz<|R.map dr,iV o,uV G,bV U] 0/\ T 29=.fz (N.map c8)/\ T 30=iV (aA N)/\ T 31=iV i/\ T 37=iL t.be/\ T 38=iV (aA t.be)/\ T 39=iV k/\ T 6=.cz 35 ((h.o 35).ver+1)/\ b0.y=y/\ (∀j (b:j<aA L),j<k->(L.take j).any (λm=>m==L[j])=ab)/\ ∃m A,b0.o 35=⟨(h.o 35).ver+1,m,.map<|A.map<|hL kI⟩/\ ∀x,mP A x=(L.take k).any (λm=>m==x)) ?_ ?_ ?_;refine S4 O Z Q r ?_;exact⟨aM,E,λj b h=>absurd h<|gH _,0,[],aM,λk=>rfl⟩
   ·rintro k T b0 f ⟨O,Z,Q,r,F,M,S,t6,E,Y,m,B,v,C⟩;have B0:k<9223372036854775807:=aW;have b:k<aA L:=aW;have z:∀h:H,cF h (ae,1) (iL t.be) (k:Int)=.ok (.bA [iV t.be[k]] 0):=λh=>db (s:=1) iC t.be k f;have⟨c0,c1⟩:=i0 _<|bD f;have n:=mw c1;have k0:((t.be[k].toNat:Nat):Int)=t.be[k]:=aW;rw[k0]at n;have W:=j0 k f b;have l0:(x9 N t.be[k].toNat).da=N[t.be[k].toNat].bN.da:=by unfold x9;rw[cx c1];rfl
    rw[l0]at W;have X:=AT (l:=L) (done:=[]) b;rw[b7]at X;have a:=C N[t.be[k].toNat].bN.da;simp only[vb b];rw[W]at X|-;generalize N[t.be[k].toNat]=u at*;generalize t.be[k]=c at*;cases d:mP B u.bN.da;rw[d]at a;refine bq O Z Q r F M S t6 v (a6 f) z (an n<|an @gU<|an @jZ<|an @bd<|an @Hr d) ?_;refine⟨E,λj m0 C0=>?_,_,_,aM,λx=>?_⟩;by_cases o0:j<k;exact Y j m0 o0;have:j=k:=aW;subst this;rw[W];exact a.symm;rw[yS,C];cases f:x==u.bN.da;have:(u.bN.da==x)=ab:=by rw[yi];exact f
    rw[this,tD];rfl;have:=zU f;subst this;simp;rw[d]at a;rw[J<|X a.symm,a8];exact bq O Z Q r F M S t6 v (a6 f) z (an n<|an @gU<|an @jZ<|an @bd<|an @Hr<|an d E) tr
   rintro T b0 ⟨O,Z,Q,r,F,M,S,t6,E,Y,m,B,v,C⟩;have Y:jV [] L=ab:=Dc λi P=>Y i P aW;refine fm O Z Q r F M S t6 @ee @bd ?_;exact⟨E,V Y⟩
  rintro T h ⟨O,Z,Q,r,E,a0⟩;rw[bP]at a0;rw[a0,br];cases C:ax (10000<e0)||ax (I<0)||ax (64<I)||ax (o<0)||ax (1099511627776<o)||ax (1099511627776<G);cases d0:U&&ax (0<(R.length:Int));cases p0:(o==0)&&(U||ax (0<(R.length:Int))||(G !=0));cases u0:ax<|I<(R.length:Int);exact awU;exact awU;exact bq O Z Q r @ee @gU @jZ @ue @jy C d0 (an p0 E) tr;exact bq O Z Q r @ee @gU @jZ @ue @jy C d0 E tr;exact eN O Z Q r @ee @gU @jZ @ue @jy C E tr
 have v0:(iT N A==0)=ab:=by simpa using f0
 have r0:(iT N A !=0)=aa:=by simp[bne,v0]
 simp only;rw[v0,br];generalize iT N A=e at*;refine gO Tryz.f90.eq_1 λw y=>?_;exact S5 @gU @jZ @jy g.aP r0 tr
def aq2(N:List bl)(W:aL)(F:∀c∈W,0<c/\ c.toNat<aA N)(G:bk W):aS VP 104 [.agg<|dA N,iL W] (bV<|jV []<|o' N W):=by
 have G:aA W<1048576:=G;have D:aA (o' N W)=aA W:=bj _;have o:∀k (V:k<aA W) (G:k<aA (o' N W)),∃h1:W[k].toNat<aA N,((W[k].toNat:Nat):Int)=W[k]/\ (o' N W)[k]=N[W[k].toNat].bN.da:=λk V G=>by have⟨c0,z⟩:=F _<|bD V;refine⟨z,aW,(fK _).trans ?_⟩;unfold x9;rw[cx z];rfl
 generalize o' N W=L at*;refine gO Tryz.f104.eq_1 λw y=>?_;refine S0 ?_;refine lF 0 (aA W) (λi T h=>T 1=iL W/\ T 2=.aR 2 1 0 0/\ T 5=iV i/\ h=(H.empty y).new 2 (.cells aa ab 38 1 [dA N])/\ ∀j (d:j<aA L),j<i->(L.take j).any (λm=>m==L[j])=ab) ?_ ?_ ?_;refine S0 ?_;exact⟨aM,λj d h=>absurd h<|gH _⟩
 ·rintro i T h a ⟨J,U,B,rfl,t⟩;have Y:i<9223372036854775807:=aW;have d:i<aA L:=aW;have⟨C,e,q⟩:=o i a d;have P:∀h:H,cF h (ae,1) (iL W) (i:Int)=.ok (.bA [iV W[i]] 0):=λh=>db (s:=1) iC W i a;have f:=mw C;rw[e]at f;have I:=AT (l:=L) (done:=[]) d;rw[b7]at I;refine S4 J U B (a6 a) ?_;refine oF 1 2 i (λk T h=>T 1=iL W/\ T 2=.aR 2 1 0 0/\ T 5=iV i/\ T 6=iV k/\ h=(H.empty y).new 2 (.cells aa ab 38 1 [dA N])/\ (L.take k).any (λm=>m==L[i])=ab) ?_ ?_ ?_;refine S3 J U B ?_;exact at1;rintro k T h V ⟨J,U,B,x,rfl,X⟩;have S:k<9223372036854775807:=aW;have b:k<aA W:=aW;have n:k<aA L:=aW;have⟨A,b2,b3⟩:=o k b n;have E:∀h:H,cF h (ae,1) (iL W) (k:Int)=.ok (.bA [iV W[k]] 0):=λh=>db (s:=1) iC W k b;have g:=mw A;rw[b2]at g;have r:=vb (p:=λm=>m==L[i]) n;rw[X,jP]at r;have Z:(L[k]==L[i])=aa->(L.take i).any (λm=>m==L[i])=aa:=λh=>mD.2 ⟨L[k],Fx.2 ⟨k,aW,rfl⟩,h⟩;rw[r];rw[yi,q,b3]at Z|-;rw[<-q]at Z;rw[q]at Z I;generalize(L.take i).any (λm=>m==N[W[i].toNat].bN.da)=b0 at*;generalize N[W[i].toNat]=u at*;generalize N[W[k].toNat]=v at*;cases M:u.bN.da==v.bN.da;exact eN J U B x (a6 V) P f E g M @bd tr;rw[I<|Z M];exact eN J U B x (a6 V) P f E g M @bd tr;rintro T h ⟨J,U,B,x,rfl,X⟩;refine S6 J U B x @ee @bd ?_;intro j Q a0;by_cases O:j<i;exact t j Q O;have:j=i:=aW;subst this;exact X
 rintro T h ⟨J,U,B,rfl,t⟩;have t:jV [] L=ab:=Dc λi a=>t i a aW;exact S5 J U B @ee t tr
structure Hs(m:i7):Prop where
 t:hU m.dS
 l:k7 m.dS
 k:G8 m.dS
 a:wL m.eX
 n:bk m.eK
 r:∀r∈m.eK,xX r
 w:0<=m.iI
def Bo(P:List Int):Int:=P.getLast?.getD 0
def dQ(m:i7)(i:Nat):kv:=(m.eK[i]?).getD ⟨0,[],0,0⟩
def rE(m:i7)(i:Nat):Int:=
 bif jM m.dS m.eX (dQ m i)==0 then
  (bif ax (m.tU<=Bo (dQ m i).b_)||ax (m.dy<(dQ m i).first)then 2 else bif !u7 (dQ m i) m.dy m.iI then 10 else
    bif ax (0<(i:Int))&&ax (0<=yH m.dS (dQ m<|i-1) (dQ m i))then 9 else 0)
 else jM m.dS m.eX<|dQ m i
def Na{m:i7}{i:Nat}(h:rE m i=0):jM m.dS m.eX (dQ m i)=0:=by
 unfold rE at h
 grind
def w91(m:i7)(i:Nat)(Y:Hs m)(a:i<aA m.eK)(M:0<i->jM m.dS m.eX (dQ m<|i-1)=0):aS VP 91 [.bA (gi m) 0,iV i] (iV<|rE m i):=by
 have J:∀j (u:j<aA m.eK),dQ m j=m.eK[j]:=λj u=>by unfold dQ;rw[cx u];rfl
 have B:∀j (u:j<aA m.eK),xX (dQ m j):=λj u=>by rw[J j u];exact Y.r _<|bD u
 have x:∀j (u:j<aA m.eK) (h:H),cF h (ae,4) (.fz<|m.eK.map dr) (j:Int)=.ok (.bA (dr<|dQ m j) 0):=λj u h=>by rw[J j u];exact db (s:=4) dr m.eK j u
 have U:aA m.eK<1048576:=Y.n;have g:=aaw m.dS m.eX (dQ m i) Y.t Y.l Y.a<|B i a;unfold rE;by_cases f:jM m.dS m.eX (dQ m i)=0;have P:((0:Int)==0)=aa:=rfl;have⟨_,_,n,_⟩:=wk f;have L:(dQ m i).b_.length<1048576:=(B i a).p;have D:0<(dQ m i).b_.length:=uU.2 n;have X:av .i64 (((dQ m i).b_.length:Int)-1)=(((dQ m i).b_.length-1:Nat):Int):=(d' _ aW aW).trans aW;have t:∀h:H,cF h (ae,1) (iL (dQ m i).b_) (((dQ m i).b_.length-1:Nat):Int)=.ok (.bA [iV<|(dQ m i).b_[(dQ m i).b_.length-1]'aW] 0):=λh=>db (s:=1) iC (dQ m i).b_ _ aW;have k:Bo (dQ m i).b_=(dQ m i).b_[(dQ m i).b_.length-1]'aW:=Bp n;have l:=arn (dQ m i) m.dy m.iI;have C:0<i->aS VP 160 [.bA (gi m) 0,.agg<|dr<|dQ m<|i-1,.agg<|dr<|dQ m i] (iV<|yH m.dS (dQ m<|i-1)<|dQ m i):=λQ=>aro m.dS m.eX _ _ Y.t Y.l Y.a (B _ aW) (B i a) (M Q) f _;rw[f]at g|-;rw[P,a8,k];have v:=x i a;have c:=λQ:0<i=>x (i-1) aW;generalize(dQ m i).b_[(dQ m i).b_.length-1]'aW=d at*;generalize dQ m (i-1)=q at*;generalize dQ m i=r at*;generalize yH m.dS q r=T at*;generalize u7 r m.dy m.iI=W at*;obtain⟨N,A,o,I,R,E,G,b⟩:=m;simp only at*;cases V:ax (E<=d)||ax (G<r.first);cases W;refine gO Tryz.f91.eq_1 λw y=>?_;exact fm @gU @jZ @ue @jy v g.aP X t V l.aP tr;by_cases Q:i=0;subst Q;have z:ax ((0:Int)<((0:Nat):Int))=ab:=rfl;refine gO Tryz.f91.eq_1 λw y=>?_;exact eN @gU @jZ @ue @jy v g.aP X t V l.aP z tr;have z:ax ((0:Int)<(i:Int))=aa:=gu aW;have Z:av .i64 ((i:Int)-1)=((i-1:Nat):Int):=(d' _ aW aW).trans aW;have c:=c aW;have C:=C aW;refine gO Tryz.f91.eq_1 λw y=>?_;cases S:ax<|0<=T;exact awf;exact awf;refine gO Tryz.f91.eq_1 λw y=>?_;exact S9 @gU @jZ @ue @jy v g.aP X t V tr;have U:(jM m.dS m.eX (dQ m i)==0)=ab:=aum;have O:(jM m.dS m.eX (dQ m i)!=0)=aa:=by simp[bne,U]
 have v:=x i a;rw[U,br];generalize jM m.dS m.eX (dQ m i)=e at*;generalize dQ m i=r at*;obtain⟨N,A,o,I,R,E,G,b⟩:=m;simp only at*;refine gO Tryz.f91.eq_1 λw y=>?_;exact S6 @gU @jZ @jy v g.aP O tr
abbrev BU(m:i7):List Int:=(ao<|aA m.eK).map<|rE m
def rI(m:i7):Int:=bif wo m==0 then jr (BU m)else wo m
def Yo{m:i7}{i:Nat}(G:i<aA m.eK):jr ((BU m).drop i)=bif rE m i !=0 then rE m i else jr ((BU m).drop<|i+1):=by rw[fD<|by rw[bj,nN];exact G,jr,fK,Fv]
def Yp(m:i7):jr ((BU m).drop<|aA m.eK)=0:=by rw[mZ<|by rw[bj,nN];exact auS];rfl
def QB(a b c:aB)(w k f t:Int)(s:Bool):ga VP.D 175 [(0,.agg [.fz a,.fz b,uV w,iV k,.fz c,iV f,uV t,bV s])]=.ok (.agg [.fz a,.fz b,uV w,iV k,.fz c,iV f,uV t,bV s]):=aV
def w46(m:i7)(Y:Hs m):aS VP 46 [.agg<|gi m] (iV<|rI m):=by
 have g:=w90 m Y.t Y.l Y.a;have b:=λi=>w91 m i Y;have X:aA m.eK<1048576:=Y.n;have z:=λi=>Yo (m:=m) (i:=i);have V:=Yp m;have P:=λi=>Na (m:=m) (i:=i);unfold rI;generalize wo m=e at*;generalize BU m=L at*;generalize rE m=F at*;generalize(λi=>jM m.dS m.eX<|dQ m i)=G at*;have n:aA (m.eK.map dr)=aA m.eK:=bj _;by_cases J:e=0;subst J;have S:((0:Int)==0)=aa:=rfl;rw[S,a8];have⟨N,A,u,I,R,s,l,D⟩:=m;simp only at*;refine gO Tryz.f46.eq_1 λw y=>?_;refine S4 @dW @cC @QB g.aP ?_;refine lF 0 R.length (λi T h=>T 3=.aR 8 1 0 0/\ T 5=iV i/\ h.o 8=⟨1,0,.cells aa ab 175 8 [[.fz<|N.map c8,.fz<|A.map bQ,uV u,iV I,.fz<|R.map dr,iV s,uV l,bV D]]⟩/\ h.y=y/\ ∃e,T 4=iV e/\ (e=0/\ (∀j,j<i->F j=0)/\ jr L=jr (L.drop i)\/ e≠0/\ jr L=e)) ?_ ?_ ?_;refine S0 ?_;exact⟨aM,0,aM,.inl ⟨aM,λj h=>absurd h<|gH _,aM⟩⟩;rintro i T h a ⟨O,c,W,E,e,o,J⟩;have Z:i<9223372036854775807:=aW
 rcases J with⟨rfl,M,q⟩|⟨C,q⟩
 have x:=b i a λQ=>P _<|M (i-1) aW;rw[z i a]at q;generalize r:F i=f at*;refine fm O o c W (a6 a) @gU @vU @jy x.aP @bd ?_;refine⟨E,f,aM,?_⟩;by_cases t:f=0;subst t;refine .inl ⟨aM,λj d=>?_,q⟩;by_cases p:j=i;rw[p];exact r;exact M j aW;have v:(f !=0)=aa:=by simpa[bne]using t
 rw[v]at q;exact .inr ⟨t,q⟩;have U:(e==0)=ab:=by simpa using C
 rw[q];refine S9 O o c W (a6 a) @gU @vU @jy U ?_;rw[E];rintro T h ⟨O,c,W,E,e,o,J⟩;have q:jr L=e:=by
  rcases J with⟨rfl,M,q⟩|⟨C,q⟩
  rw[q,V];exact q
 rw[q];refine S8 O o c W @ee @gU @vU @jy ?_;rw[E];have U:(e==0)=ab:=by simpa using J
 rw[U,br];have⟨N,A,u,I,R,s,l,D⟩:=m;simp only at*;refine gO Tryz.f46.eq_1 λw y=>?_;refine S4 @dW @cC @QB g.aP ?_;refine lF 0 R.length (λi T h=>T 3=.aR 8 1 0 0/\ T 5=iV i/\ h.o 8=⟨1,0,.cells aa ab 175 8 [[.fz<|N.map c8,.fz<|A.map bQ,uV u,iV I,.fz<|R.map dr,iV s,uV l,bV D]]⟩/\ h.y=y/\ T 4=iV e) ?_ ?_ ?_;exact avo;rintro i T h a ⟨O,c,W,E,o⟩;exact fm O o c W (a6 a) @gU @vU @jy U E tr;rintro T h ⟨O,c,W,E,o⟩;exact S9 O o c W @ee @gU @vU @jy E tr
def w50(m:i7)(Y:Hs m):aS VP 50 [.agg<|gi m] (iV<|rI m):=by
 have g:=aai m.dS m.eX Y.t Y.l Y.a;unfold rI wo;by_cases p0:iT m.dS m.eX=0;have D0:=Dl p0;have a0:((0:Int)==0)=aa:=rfl;have D:=TL D0;have r0:=λi=>Yo (m:=m) (i:=i);have s0:=Yp m;have Z:aA m.eK<1048576:=Y.n;have J0:aA m.dS<1048576:=Y.t.1
 have t0:∀i,rE m i=bif jM m.dS m.eX (dQ m i)==0 then(bif ax (m.tU<=Bo (dQ m i).b_)||ax (m.dy<(dQ m i).first)then 2 else bif !u7 (dQ m i) m.dy m.iI then 10 else bif ax (0<(i:Int))&&ax (0<=yH m.dS (dQ m<|i-1) (dQ m i))then 9 else 0)else jM m.dS m.eX (dQ m i):=λi=>rfl
 have W:∀j (u:j<aA m.eK),dQ m j=m.eK[j]:=λj u=>by unfold dQ;rw[cx u];rfl
 have B:∀j (u:j<aA m.eK),xX (dQ m j):=λj u=>by rw[W j u];exact Y.r _<|bD u
 have B0:∀j (u:j<aA m.eK) (h:H),cF h (ae,4) (.fz<|m.eK.map dr) (j:Int)=.ok (.bA (dr<|dQ m j) 0):=λj u h=>by rw[W j u];exact db (s:=4) dr m.eK j u
 have b0:=λj (u:j<aA m.eK)=>aaj m.dS m.eX (dQ m j) Y.t Y.l Y.k Y.a<|B j u;have c0:=λj=>aq3 (dQ m j) m.dy m.iI Y.w;have d0:=λj (u:j<aA m.eK) b V h2=>aq4 m.dS m.eX (dQ m<|j-1) (dQ m j) Y.t Y.l Y.a (B _ aW) (B j u) V h2 Y.k m.iI m.cap (m.eK.map dr) m.tU m.dy m.B';have u0:=λi=>Na (m:=m) (i:=i);generalize BU m=L at*;generalize rE m=F at*;generalize dQ m=G at*;have⟨N,A,e0,I,R,o,l,f0⟩:=m;simp only at*;rw[p0]at g|-;rw[a0,a8];refine gO Tryz.f50.eq_1 λw y=>?_;refine S1 g.aP ?_;refine lF 0 (aA N) (λi T h=>T 1=.aR 1 1 0 0/\ T 4=iV i/\ h.o 1=⟨1,0,.cells aa ab 42 8 [[.fz<|N.map c8,.fz<|A.map bQ,uV e0,iV I,.fz<|R.map dr,iV o,uV l,bV f0]]⟩/\ h.y=y/\ (N.take i).any (tA N)=ab) ?_ ?_ ?_;refine S0 ?_;exact at1;rintro i T h a ⟨J,S,E,O,M⟩;have v0:i<9223372036854775807:=aW;have W:=gI (p:=tA N) a;have U:=gJ (p:=tA N) a M;have g0:=mw a;have⟨w0,x0⟩:=D _<|bD a;generalize N[i]=t at*;have W:jV [] (o' N t.be)=aa->N.any (tA N)=aa:=W;have U:jV [] (o' N t.be)=ab->(N.take<|i+1).any (tA N)=ab:=U;have Q:=aq2 N t.be w0 x0;generalize jV [] (o' N t.be)=q at*;cases q;refine S7 J S E (a6 a) g0 Q.aP @bd ?_;exact⟨O,U aM⟩;rw[W rfl,a8];exact S7 J S E (a6 a) g0 Q.aP O tr;rintro T h ⟨J,S,E,O,M⟩;rw[bP]at M;rw[M,br];cases m0:ax (10000<e0)||ax (I<0)||ax (64<I)||ax (o<0)||ax (1099511627776<o)||ax (1099511627776<l);cases y0:(f0&&ax (0<(R.length:Int)))||((o==0)&&(f0||ax (0<(R.length:Int))||(l !=0)));cases x:ax<|I<(R.length:Int);refine S7 J S E @ee m0 y0 x ?_;refine lF 3 R.length (λi T h=>T 1=.aR 1 1 0 0/\ T 5=iV i/\ h.o 1=⟨1,0,.cells aa ab 42 8 [[.fz<|N.map c8,.fz<|A.map bQ,uV e0,iV I,.fz<|R.map dr,iV o,uV l,bV f0]]⟩/\ h.y=y/\ (∀j,j<i->F j=0)/\ jr L=jr (L.drop i)) ?_ ?_ ?_;refine S1 J ?_;exact⟨aM,E,O,λj h=>absurd h<|gH _,aM⟩;rintro i T h a ⟨J,c,E,O,z0,M⟩;have v0:i<9223372036854775807:=aW;have v:=B0 i a;have k:=b0 i a;have o0:=c0 i;have C:=λb:0<i=>B0 (i-1) aW;have gc:=λb:0<i=>d0 i a aW<|u0 _<|z0 (i-1) aW;have E0:=λh:jM N A (G i)=0=>wk h;have F0:(G i).b_.length<1048576:=(B i a).p;rw[r0 i a]at M;have P:=t0 i;generalize i0:F i=f at*;generalize G (i-1)=q at*;generalize G i=r at*;by_cases j0:jM N A r=0;have⟨_,_,k0,_⟩:=E0 j0;have C0:0<aA r.b_:=uU.2 k0;have X:av .i64 ((aA r.b_:Int)-1)=((aA r.b_-1:Nat):Int):=(d' _ aW aW).trans aW;have z:∀h:H,cF h (ae,1) (iL r.b_) ((aA r.b_-1:Nat):Int)=.ok (.bA [iV<|r.b_[aA r.b_-1]'aW] 0):=λh=>db (s:=1) iC r.b_ _ aW;have A0:Bo r.b_=r.b_[aA r.b_-1]'aW:=Bp k0;have gc:=λb=>gc b j0;rw[j0,a0,a8,A0]at P;rw[j0]at k;generalize r.b_[aA r.b_-1]'aW=G0 at*;generalize yH N q r=H0 at*;generalize u7 r l e0=I0 at*;cases V:ax (o<=G0)||ax (l<r.first);rw[V,br]at P;cases I0;have P:f=10:=P;subst P;rw[show jr L=10 from M];exact eN J c E (a6 a) v k.aP X z V o0.aP O tr;by_cases b:i=0;subst b;have d:ax ((0:Int)<((0:Nat):Int))=ab:=rfl;have P:f=0:=P;subst P;refine bq J c E (a6 a) v k.aP X z V o0.aP d @bd ?_;exact⟨O,λj u=>by rw[show j=0 by omega];exact i0,M⟩;have d:ax ((0:Int)<(i:Int))=aa:=gu aW;have l0:av .i64 ((i:Int)-1)=((i-1:Nat):Int):=(d' _ aW aW).trans aW;have C:=C aW;have gc:=gc aW;rw[d]at P;cases x:ax<|0<=H0;rw[x]at P;have P:f=0:=P;subst P;refine bq J c E (a6 a) v k.aP X z V o0.aP d (an l0<|an C<|an gc.aP<|an x @bd) ?_;exact⟨O,λj u=>(Jx j i).elim (z0 j) λh=>by rw[show j=i by omega];exact i0,M⟩;rw[x]at P;have P:f=9:=P;subst P;rw[show jr L=9 from M];exact bq J c E (a6 a) v k.aP X z V o0.aP d (an l0<|an C<|an gc.aP<|an x O) tr;rw[V]at P;have P:f=2:=P;subst P;rw[show jr L=2 from M];exact fm J c E (a6 a) v k.aP X z V O tr;have Z:(jM N A r==0)=ab:=by simpa using j0
 have n:(jM N A r !=0)=aa:=by simp[bne,Z]
 rw[Z,br]at P;rw[<-P]at n k;rw[n]at M;rw[show jr L=f from M];exact S8 J c E (a6 a) v k.aP n O tr;rintro T h ⟨J,c,E,O,z0,M⟩;rw[M,s0];exact S5 J c E @ee O tr;exact S8 J S E @ee m0 y0 x O tr;exact S7 J S E @ee m0 y0 O tr;exact S6 J S E @ee m0 O tr;have Z:(iT m.dS m.eX==0)=ab:=by simpa using p0
 have n:(iT m.dS m.eX !=0)=aa:=by simp[bne,Z]
 rw[Z,br,Z,br];generalize iT m.dS m.eX=e at*;have⟨N,A,e0,I,R,o,l,f0⟩:=m;simp only at*;refine gO Tryz.f50.eq_1 λw y=>?_;exact S2 g.aP n tr
def w84:∀n,dt n->aS VP 84 [.agg<|bc n] (.agg<|bc n)
 |.mk k A F a W,X=>by
  rw[dt]at X;have⟨c,f,r⟩:=X;have g:∀i (G:i<aA W),aS VP 84 [.agg<|bc W[i]] (.agg<|bc W[i]):=λi G=>w84 W[i]<|r _<|bD G;have e:aA a.cy<1048576:=c;have V:fW 2 (a.cy.map ed)=aa:=TW _;have j:ah (aA a.cy) (2^30)=aa:=qx e;have p:ai (aA a.cy) (aA a.cy)=aa:=aY;have M:ar (aA a.cy) (au 0<|a.cy.map ed)=a.cy.map ed:=at8;refine gO Tryz.f84.eq_1 λw y=>?_;refine S4 @bg V j @bZ ?_;refine lF 0 (aA W) (λi T h=>T 1=.aR 1 1 0 0/\ T 2=.aR 2 1 0 0/\ T 4=iV i/\ (∃m,h.o 1=⟨1,m,.cells aa ab 31 9 [[iV k,iV A,iV F,iV a.kind,bV a.fF,uV a.fe,.bh 5 2 0<|aA a.cy,sV a.name,.fz<|W.map bc]]⟩)/\ h.o 2=⟨1,0,.cells aa ab 31 9 [[iV 0,iV 0,iV 0,iV 0,bV ab,uV 0,.nil,sV [],.nil]]⟩/\ (∃m,h.o 5=⟨2,m,.cells ab ab 77 2<|a.cy.map ed⟩)/\ h.y=y/\ ∃v,T 3=b9 ((W.take i).map bc) 27 v/\ b6 (h.o 27) ((W.take i).map bc) v 31 9) ?_ ?_ ?_;refine S0 ?_;exact⟨aM,⟨1,aM⟩,⟨0,aM⟩,0,aM,aM,λh=>absurd aM h⟩;rintro i T h G ⟨J,U,N,⟨P,E⟩,L,⟨I,l⟩,z,v,O,b⟩;have Z:aA ((W.take i).map bc)<536870912:=by unfold bk at f;exact aul
  have C:∀h:H,cF h (ae,9) (.fz<|W.map bc) (i:Int)=.ok (.bA (bc W[i]) 0):=λh=>by have:=db (s:=9) bc W i G (h:=h);rw[th]at this;exact aw0
  have Y:=g i G;have t:(W.take<|i+1).map bc=(W.take i).map bc++[bc W[i]]:=by rw[ej G,dg];rfl
  rw[t];generalize W[i]=x at*;have⟨B,u,D,q,S⟩:=x;simp only[bg]at C Y|-;refine eN J U O N E L (a6 G) @bd C Y.bE (iM b Z) ?_;refine⟨⟨P,aM⟩,⟨I,l⟩,z,v+1,aM,?_⟩;rw[b.1];exact auh;rintro T h ⟨J,U,N,⟨P,E⟩,L,⟨I,l⟩,z,v,O,b⟩;rw[bP]at O b;exact bq J U O N E L l (gf b) @ee p M (an @bZ z) tr
termination_by n=>SizeOf.sizeOf n
decreasing_by
 have:=j6<|bD G;simp only[ba.mk.sizeOf_spec];omega
def UF:VP.nv 148=ad (mJ 31 9):=rfl
def T6:og VP 148=aa:=rfl
def ahI(w:cV)(h:H):(vW VP).i 148 9014 [.fz []] w h=.ok (.emp 9,h):=by refine nw UF ?_;have Q:ai 7000 9014=aa:=rfl;unfold mJ;simp only[mO,cq,e8,aO,cp,Q,a8]
def ahJ(w:cV)(h:H)(c:aC)(es:aB)(a:ag (aA c) 9=aa)(l:aA (c::es)<536870912):(vW VP).i 148 9014 [.fz<|c::es] w h=.ok (.bh 9014005 ((h.o 9014005).ver+2) 0<|aA<|c::es,(h.new 9014005<|.cells ab ab 31 9 []).new 9014005<|.cells ab ab 31 9<|c::es):=by refine nw UF ?_;have g:ah (aA<|c::es) (2^29)=aa:=at2;have C:lD (9014*1000+5)=ab:=rfl;have G:lD (9014*1000+7)=ab:=rfl;have Q:ai 7000 9014=aa:=rfl;unfold mJ;simp only[mO,cq,e8,aO,cp,g,a,C,G,Q,j',iJ,a8]
def RD(n:Nat):jn (.emp n)=.ok [.emp n]:=rfl
def Wn(n:Nat):et (.emp n)=aa:=rfl
def ajl(h:H)(n:Nat):rZ h (.emp n)=.ok (iV 0):=rfl
def agS(h:H)(n k:Nat):cq h (n+1) (.emp k)=.ok (.fz [],[]):=rfl
def s9(d:Nat):dk 9 (ad d)=9000+d:=rfl
def Qw:VP.h5 75=9:=rfl
def Qq:9*1000+13+1=9014:=rfl
def w75:∀n,dt n->aS VP 75 [.agg<|bc n] (.agg<|bc n)
 |.mk k A F a W,P=>by
  rw[dt]at P;have⟨Q,C,o⟩:=P;have g:∀i (G:i<aA W),aS VP 75 [.agg<|bc W[i]] (.agg<|bc W[i]):=λi G=>w75 W[i]<|o _<|bD G;have M:=Rh a.cy Q;by_cases Z:W=[];subst Z;refine mQ Th ZC λw y=>?_;have b:=ahI w;refine bq Tryz.f75.eq_1 @Qw @s9 @bg M.bE @cC @T6 @Qq b @RD @Wn @ajl ?_;refine lF 0 0 (λi T h=>T 1=.aR 9001 1 0 0/\ T 2=.aR 9002 1 0 0/\ T 17=iV 0/\ T 18=iV i/\ (∃m,h.o 9001=⟨1,m,.cells aa ab 31 9 [[iV k,iV A,iV F,iV a.kind,bV a.fF,uV a.fe,.fz<|a.cy.map ed,sV a.name,.emp 9]]⟩)/\ (∃m,h.o 9002=⟨1,m,.cells aa ab 31 9 [[iV 0,iV 0,iV 0,iV 0,bV ab,uV 0,.nil,sV [],.nil]]⟩)/\ h.y=y) ?_ ?_ ?_;refine S0 ?_;exact⟨aM,⟨_,aM⟩,⟨_,aM⟩⟩;intro i T h G;exact absurd G<|gH _;rintro T h ⟨J,U,E,V,⟨L,N⟩,⟨I,O⟩,z⟩;have t:ax (((0:Nat):Int)<0)=ab:=rfl;exact eN J U E V N O t @RD @Wn @agS z tr;obtain⟨B,S,X⟩:∃B S,W=B::S:=by
   cases W with
   |nil=>exact absurd aM Z
   |cons x S=>exact⟨x,S,aM⟩
  have d:∀(w:cV) (h:H),(vW VP).i 148 9014 [.fz<|W.map bc] w h=.ok (.bh 9014005 ((h.o 9014005).ver+2) 0<|aA W,(h.new 9014005<|.cells ab ab 31 9 []).new 9014005<|.cells ab ab 31 9<|W.map bc):=λw h=>by
   have f:W.map bc=bc B::S.map bc:=by rw[X];rfl
   have r:aA (bc B::S.map bc)=aA W:=by rw[X,cr,bj,cr]
   rw[f];have:=ahJ w h (bc B) (S.map bc) (by rw[th];rfl) (by rw[r];omega);rw[r]at this;exact aw0
  refine mQ Th ZC λw y=>?_;refine S9 Tryz.f75.eq_1 @Qw @s9 @bg M.bE @T6 @Qq d @jc ?_;refine lF 0 (aA W) (λi T h=>T 1=.aR 9001 1 0 0/\ T 2=.aR 9002 1 0 0/\ T 16=.bh 9014005 2 0 (aA W)/\ T 17=iV (aA W)/\ T 18=iV i/\ (∃m,h.o 9001=⟨1,m,.cells aa ab 31 9 [[iV k,iV A,iV F,iV a.kind,bV a.fF,uV a.fe,.fz<|a.cy.map ed,sV a.name,.bh 9014005 2 0<|aA W]]⟩)/\ (∃m,h.o 9002=⟨1,m,.cells aa ab 31 9 [[iV 0,iV 0,iV 0,iV 0,bV ab,uV 0,.nil,sV [],.nil]]⟩)/\ (∃m,h.o 9014005=⟨2,m,.cells ab ab 31 9<|W.map bc⟩)/\ h.y=y) ?_ ?_ ?_;refine S0 ?_;exact⟨aM,⟨_,aM⟩,⟨_,aM⟩,⟨_,aM⟩⟩;rintro i T h G ⟨J,U,e,E,V,⟨L,N⟩,⟨I,O⟩,⟨D,l⟩,z⟩;have Y:=g i G;have j:(W.map bc)[i]?=ad (bc W[i]):=by rw[hY,cx G];rfl
  have c:(W.map bc).set i (bc W[i])=W.map bc:=YW j;generalize W[i]=x at*;have⟨a0,u,v,b0,q⟩:=x;simp only[bg]at j c Y;refine bq J U e E V @s9 N O l @fg @fk (an (a6 G)<|an (eB G)<|an @c6<|an @bZ<|an j<|an Y.bE<|an c @bd) ?_;exact⟨⟨_,aM⟩,⟨_,aM⟩,⟨_,aM⟩,z⟩;rintro T h ⟨J,U,e,E,V,⟨L,N⟩,⟨I,O⟩,⟨D,l⟩,z⟩;have p:ai (aA W) (aA W)=aa:=aY;have s:ar (aA W) (au 0<|W.map bc)=W.map bc:=at8;exact bq J U e E V N O l @ee p s (an @bZ z) tr
termination_by n=>SizeOf.sizeOf n
decreasing_by
 have:=j6<|bD G;simp only[ba.mk.sizeOf_spec];omega
def adT(l:List nS)(h:bk l):aS VP 76 [.fz<|l.map gw] (.fz<|l.map gw):=Kr (f:=76) (n:=4) (g:=gw) aM (λ_=>rfl) l<|by unfold bk at h;omega
def adU(l:List ln)(h:bk l):aS VP 77 [.fz<|l.map e7] (.fz<|l.map e7):=Kr (f:=77) (n:=2) (g:=e7) aM (λ_=>rfl) l<|by unfold bk at h;omega
def w33(q:cR)(e:q5 q):aS VP 33 [.agg<|bG q] (.agg<|bG q):=by have⟨h,p,d⟩:=e;have g:=w75 q.bt h;have o:=adT q.k_ p;have s:=adU q.kW d;obtain⟨k,M,F,a,W,u,v,Z,rfl⟩:=qC q;simp only[bG,bg,ck,b7]at g o s|-;refine gO Tryz.f33.eq_1 λw y=>?_;exact S3 g.bE o.bE s.bE tr
def w40(q:cR)(e:q5 q):aS VP 40 [.agg<|bG q] (.agg<|bG q):=by have⟨h,p,d⟩:=e;have g:=w84 q.bt h;have p:aA q.k_<1048576:=p;have d:aA q.kW<1048576:=d;have B:=TX q.k_;have z:ah (aA q.k_) (2^30)=aa:=qx p;have b:=TU q.kW;have o:ah (aA q.kW) (2^30)=aa:=qx d;have C:ai (aA q.k_) (aA q.k_)=aa:=aY;have f:ai (aA q.kW) (aA q.kW)=aa:=aY;have s:ar (aA q.k_) (au 0<|q.k_.map gw)=q.k_.map gw:=at8;have D:ar (aA q.kW) (au 0<|q.kW.map e7)=q.kW.map e7:=at8;obtain⟨k,M,F,a,W,u,v,Z,rfl⟩:=qC q;simp only[bG,bg,ck,b7]at g B z b o C f s D|-;refine gO Tryz.f40.eq_1 λw y=>?_;exact Z2 g.bE @bZ tr
def qb(s:dm)(n:Int)(q:cR)(c cap:Int):Int:=bif e9 s==0 then(bif ax (n<1)||ax (1099511627776<n)then 2 else bif kH q c==0 then mj q cap else kH q c)else e9 s
def Fc:ke:=⟨0,⟨.mk 0 0 0 ⟨0,ab,0,[],[]⟩ [],0,[],[]⟩,⟨[],[],0,0,[],0,0,ab⟩,0,[],[]⟩
def we(s:dm)(n:Int)(q:cR)(c cap:Int):ke:=bif qb s n q c cap==0 then⟨n,q,iW q cap,c,s.bw.map<|k8 c,[]⟩else Fc
def wQ:ga VP.D 48 []=.ok (.agg sg):=aV
def QJ(n k M F Z:Int)(A:Bool)(Q:Int)(cs:aB)(Y:aF)(W:aB)(u:Int)(v a G V:aB)(j f:Int)(rs:aB)(U r:Int)(D:Bool)(c:Int)(h:aB):
 ga VP.D 48 [(0,iV n),(1,.agg [iV k,iV M,iV F,iV Z,bV A,uV Q,.fz cs,sV Y,.fz W,uV u,.fz v,.fz a]),(2,.agg [.fz G,.fz V,uV j,iV f,.fz rs,iV U,uV r,bV D]),(3,.agg [uV c,.fz h])]=
  .ok (.agg [iV n,iV k,iV M,iV F,iV Z,bV A,uV Q,.fz cs,sV Y,.fz W,uV u,.fz v,.fz a,.fz G,.fz V,uV j,iV f,.fz rs,iV U,uV r,bV D,uV c,.fz h,.nil]):=aV
def ni(n:Int):(!ax (1<=n/\ n<=1099511627776))=(ax (n<1)||ax (1099511627776<n)):=by by_cases h:n<1;rw[gu h,kV aW];rfl;rw[kV h,jP];by_cases a:1099511627776<n;rw[gu a,kV aW];rfl;rw[kV a,gu aW];rfl
def XP{s:dm}{n:Int}{q:cR}{c cap:Int}(h:qb s n q c cap=0):we s n q c cap=⟨n,q,iW q cap,c,s.bw.map<|k8 c,[]⟩:=by unfold we;rw[h];rfl
def XQ{s:dm}{n:Int}{q:cR}{c cap:Int}(h:qb s n q c cap≠0):we s n q c cap=Fc:=by have:(qb s n q c cap==0)=ab:=auF;unfold we;exact avO
def XR:e_ Fc=[iV 0,iV 0,iV 0,iV 0,iV 0,bV ab,uV 0,.fz [],sV [],.fz [],uV 0,.fz [],.fz [],.fz [],.fz [],uV 0,iV 0,.fz [],iV 0,uV 0,bV ab,uV 0,.fz [],.fz []]:=by unfold e_ Fc;simp only[bG,bg];rfl
def w8(s:dm)(n:Int)(q:cR)(c cap:Int)(J:jg s)(X:gR q):aS VP 8 [.agg<|dH s,iV n,.agg<|bG q,uV c,iV cap] (.bn [.agg<|e_<|we s n q c cap,iV<|qb s n q c cap]):=by
 have U:=IV s J;have C:=w30 q c X;have d:=w31 q cap X;have j:=w32 s c J;have V:=w33 q X.1;by_cases M:qb s n q c cap=0;rw[XP M,M];unfold qb at M;cases f:e9 s==0<;>rw[f]at M j;rw[br]at M;rw[M]at f;cases f;have g:e9 s=0:=aum;rw[g]at U;cases Q:ax (n<1)||ax (1099511627776<n)<;>rw[Q]at M;cases t:kH q c==0<;>rw[t]at M;rw[a8,br,br]at M;rw[M]at t;cases t;have M:mj q cap=0:=M;have p:kH q c=0:=by simpa using t
 rw[p]at C;rw[M]at d;rw[a8]at j;generalize iW q cap=m at*;have j:aS VP 32 [.agg<|dH s,uV c] (.bn [.agg [uV c,uL<|s.bw.map<|k8 c],iV 0]):=j;generalize O:s.bw.map (k8 c)=h at*;have⟨N,A,I,r,R,E,G,D⟩:=m;obtain⟨k,x,F,a,W,u,v,Z,rfl⟩:=qC q;have⟨l,o,S,z⟩:=s;simp only[e_,bG,bg,ck,b7]at*;refine gO Tryz.f8.eq_1 λw y=>?_;exact Z8 U.aP C.aP d.bE j.bE V.bE @dW @cC @QJ tr;cases M;rw[XQ M,XR];unfold qb at M|-;cases f:e9 s==0;have B:(e9 s !=0)=aa:=avh;rw[br];generalize e9 s=e at*;exact aut;have g:e9 s=0:=aum;rw[g]at U;rw[f,a8]at M;rw[a8];cases Q:ax (n<1)||ax (1099511627776<n)<;>rw[Q]at M;cases t:kH q c==0<;>rw[t]at M;have B:(kH q c !=0)=aa:=by simp[bne,t]
 simp only[br]at M|-;generalize kH q c=e at*;have⟨l,o,S,z⟩:=s;obtain⟨k,x,F,a,W,u,v,Z,rfl⟩:=qC q;simp only[bG,bg,ck,b7]at*;refine gO Tryz.f8.eq_1 λw y=>?_;exact Z5 U.aP C.aP @cC @wQ sg.eq_1 tr;have p:kH q c=0:=by simpa using t
 rw[p]at C;simp only[br,a8]at M|-;have B:(mj q cap !=0)=aa:=by simp only[Av];exact M
 generalize iW q cap=m at*;generalize mj q cap=e at*;have⟨N,A,I,r,R,E,G,D⟩:=m;have⟨l,o,S,z⟩:=s;obtain⟨k,x,F,a,W,u,v,Z,rfl⟩:=qC q;simp only[bG,bg,ck,b7]at*;refine gO Tryz.f8.eq_1 λw y=>?_;exact Z6 U.aP C.aP d.bE @cC @wQ sg.eq_1 tr;simp only[a8];exact aut
def w10(s:dm)(n:Int)(q:cR)(c cap:Int)(J:jg s)(D:tz s)(P:aA s.bw<=9)(X:gR q):aS VP 10 [.agg<|dH s,iV n,.agg<|bG q,uV c,iV cap] (.bn [.agg<|e_<|we s n q c cap,iV<|qb s n q c cap]):=by
 have U:=EY s J D P;rw[<-Iz s J]at U;have F:=w36 n;have C:=w37 q c X;have d:=w38 q cap X;have j:=w39 s c J U;have V:=w40 q X.1;by_cases M:qb s n q c cap=0;rw[XP M,M];unfold qb at M;cases f:e9 s==0<;>rw[f]at M j;rw[br]at M;rw[M]at f;cases f;have g:e9 s=0:=aum;rw[g]at U;cases Q:ax (n<1)||ax (1099511627776<n)<;>rw[Q]at M;cases t:kH q c==0<;>rw[t]at M;rw[a8,br,br]at M;rw[M]at t;cases t;have M:mj q cap=0:=M;have p:kH q c=0:=by simpa using t
 rw[p]at C;rw[M]at d;rw[a8]at j;generalize iW q cap=m at*;have j:aS VP 39 [.agg<|dH s,uV c] (.bn [.agg [uV c,uL<|s.bw.map<|k8 c],iV 0]):=j;generalize O:s.bw.map (k8 c)=h at*;have⟨N,A,I,r,R,E,G,b⟩:=m;obtain⟨k,x,W,a,i,u,v,Z,rfl⟩:=qC q;have⟨l,o,S,z⟩:=s;simp only[e_,bG,bg,ck,b7]at*;refine gO Tryz.f10.eq_1 λw y=>?_;exact JG @ni F.aP U.aP C.aP d.bE j.bE V.bE @dW @cC @QJ tr;cases M;rw[XQ M,XR];unfold qb at M|-;cases f:e9 s==0;have B:(e9 s !=0)=aa:=avh;rw[br];generalize e9 s=e at*;exact auo;have g:e9 s=0:=aum;rw[g]at U;rw[f,a8]at M;rw[a8];cases Q:ax (n<1)||ax (1099511627776<n)<;>rw[Q]at M;cases t:kH q c==0<;>rw[t]at M;have B:(kH q c !=0)=aa:=by simp[bne,t]
 simp only[br]at M|-;generalize kH q c=e at*;have⟨l,o,S,z⟩:=s;obtain⟨k,x,W,a,i,u,v,Z,rfl⟩:=qC q;simp only[bG,bg,ck,b7]at*;refine gO Tryz.f10.eq_1 λw y=>?_;exact Z7 @ni F.aP U.aP C.aP @cC @wQ sg.eq_1 tr;have p:kH q c=0:=by simpa using t
 rw[p]at C;simp only[br,a8]at M|-;have B:(mj q cap !=0)=aa:=by simp only[Av];exact M
 generalize iW q cap=m at*;generalize mj q cap=e at*;have⟨N,A,I,r,R,E,G,b⟩:=m;have⟨l,o,S,z⟩:=s;obtain⟨k,x,W,a,i,u,v,Z,rfl⟩:=qC q;simp only[bG,bg,ck,b7]at*;refine gO Tryz.f10.eq_1 λw y=>?_;exact Z8 @ni F.aP U.aP C.aP d.bE @cC @wQ sg.eq_1 tr;simp only[a8];exact auo
def rD(m:i7):List Int:=m.eK.flatMap λr=>r.b_
def jH(k:List Int)(p:Int):List Int:=if p∈k then k else k++[p]
def ah8(a:Int)(k:aL)(p:Int)(h:p≠a):jH (a::k) p=a::jH k p:=by unfold jH;by_cases m:p∈k;rw[b8 m,b8<|dR _ m];rw[cG m,cG<|λj=>(dz.1 j).elim h m];rfl
def YR:∀(A:List<|Int×Bool) (p:Int) (b:Bool),(po A p b).map (λe=>e.1)=jH (A.map λe=>e.1) p
 |[],p,b=>rfl
 |e::A,p,b=>by rw[po,cL];cases h:p==e.1;have C:p≠e.1:=auF;rw[br,cL,YR A p b,ah8 _ _ _ C];have f:p=e.1:=auF;rw[a8,cL];unfold jH;rw[b8<|by rw[f];exact ei]
def aia{k:aL}(h:k.Nodup)(p:Int):(jH k p).Nodup:=by unfold jH;split;exact h;rename_i m;rw[Cr];exact⟨h,aY,λa J b X e=>by rw[ku]at X;subst e;subst X;exact m J⟩
def ah_{k:aL}{p x:Int}:x∈jH k p↔x∈k\/ x=p:=by unfold jH;split;rename_i m;exact⟨.inl,λh=>h.elim id λh=>by rw[h];exact m⟩;rw[mF,ku]
def ah9(k:aL)(p:Int):aA (jH k p)<=aA k+1:=by unfold jH;split;omega;rw[cN];exact auS
structure ze(m:i7):Prop where
 r:aA m.eK<=70
 p:∀r∈m.eK,aA r.b_<=14
def YF(d:Nat):dk 14 (ad d)=14000+d:=rfl
def Qk:0*1000+13+1=14:=rfl
def Ql:0*1000+14+1=15:=rfl
def Qm:0*1000+15+1=16:=rfl
def Uf:og VP 97=aa:=rfl
def Ug:og VP 98=aa:=rfl
def Uh:og VP 99=aa:=rfl
abbrev pY(A:List<|Int×Bool):List Int:=A.map λe=>e.1
def u99(w:cV)(h:H)(m:i7)(Y:ze m):∃h' v A md,(vW VP).i 99 14 [.agg<|gi m] w h=.ok (.cz 14008 v,h')/\ h'.y=h.y/\ (∀q,q<14000->h'.o q=h.o q)/\ h'.o 14008=⟨v,md,.map<|A.map<|hL kI⟩/\ pY A=(rD m).foldl jH []:=by
 have⟨N,A,Z,I,R,j,l,D⟩:=m;have⟨o,z⟩:=Y;simp only at o z;have c:∃h',ki VP Tryz.f99.results.toList (cv VP (cW VP w) 14 (VP.gk 99) (Tryz.f99.body.getD .skip) (gK [.agg<|gi ⟨N,A,Z,I,R,j,l,D⟩]) h)=.ok (.cz 14008<|(h.o 14008).ver+1,h')/\ (h'.y=h.y/\ (∀q,q<14000->h'.o q=h.o q)/\ ∃md A,h'.o 14008=⟨(h.o 14008).ver+1,md,.map<|A.map<|hL kI⟩/\ pY A=(R.flatMap λr=>r.b_).foldl jH []):=by
  refine vr ?_;refine S3 Tryz.f99.eq_1 @YF @UQ ?_;refine ot (G:=λx=>dL (cJ 0 x) _) R.length (λi T h'=>T 3=.cz 14008 ((h.o 14008).ver+1)/\ T 10=.fz (R.map dr)/\ T 11=iV R.length/\ T 12=iV i/\ h'.y=h.y/\ (∀q,q<14000->h'.o q=h.o q)/\ ∃md A,h'.o 14008=⟨(h.o 14008).ver+1,md,.map<|A.map<|hL kI⟩/\ pY A=((R.take i).flatMap λr=>r.b_).foldl jH []) ?_ ?_ ?_;refine S0 ?_;refine⟨aM,λq M=>?_,0,[],aM,aM⟩;exact auy;rintro i T h' P ⟨O,u,V,f,E,M,md,B,e,C⟩;have J:i<9223372036854775807:=aW;have y:∀h:H,cF h (ae,4) (.fz<|R.map dr) (i:Int)=.ok (.bA (dr R[i]) 0):=λh=>db (s:=4) dr R i P;have F:(R.take<|i+1).flatMap (λr=>r.b_)=(R.take i).flatMap (λr=>r.b_)++R[i].b_:=by rw[ej P,Cn];simp
  have L:=z _<|bD P;rw[F];generalize(R.take i).flatMap (λr=>r.b_)=X at*;generalize R[i]=r at*;refine S7 O u V f (a6 P) y @YF ?_;refine oF 1 2 (aA r.b_) (λk T a=>T 3=.cz 14008 ((h.o 14008).ver+1)/\ T 10=.fz (R.map dr)/\ T 11=iV R.length/\ T 12=iV i/\ T 17=iL r.b_/\ T 18=iV (aA r.b_)/\ T 19=iV k/\ a.y=h.y/\ (∀q,q<14000->a.o q=h.o q)/\ ∃md A,a.o 14008=⟨(h.o 14008).ver+1,md,.map<|A.map<|hL kI⟩/\ pY A=(X++r.b_.take k).foldl jH []) ?_ ?_ ?_;refine S4 O u V f ?_;refine⟨aM,E,λq d=>?_,md,B,e,by rw[i',ea];exact C⟩;rw[<-M q d];rintro k T a b ⟨O,u,V,f,n,Q,g,E,M,md,B,e,C⟩;have U:k<9223372036854775807:=aW;have t:∀h:H,cF h (ae,1) (iL r.b_) (k:Int)=.ok (.bA [iV r.b_[k]] 0):=λh=>db (s:=1) iC r.b_ k b;have S:X++r.b_.take (k+1)=(X++r.b_.take k)++[r.b_[k]]:=by rw[ej b,eF]
  rw[S,jQ];rw[<-C];generalize r.b_[k]=p at*;refine bq O u V f n Q g e (a6 b) t @Hr @bd ?_;refine⟨E,λq d=>?_,_,_,aM,YR B p aa⟩;rw[<-M q d];rintro T a ⟨O,u,V,f,n,Q,g,E,M,md,B,e,C⟩;rw[bP]at C;refine S9 O u V f n Q g @ee @bd ?_;exact⟨E,M,md,B,e,C⟩;rintro T h' ⟨O,u,V,f,E,M,md,B,e,C⟩;rw[bP]at C;refine S5 O u V f @ee ?_;exact⟨_,aM,E,M,md,B,e,C⟩
 have⟨h',W,k2,k3,md,A2,k4,k5⟩:=c;exact⟨h',_,A2,md,pW agz ap0 aX W,k2,k3,k4,k5⟩
def jX:List Int->Int->List Int
 |[],p=>[p]
 |a::l,p=>bif ax (a<p)then a::jX l p else bif a==p then a::l else p::a::l
def LY:∀{l:aL} {p x:Int},x∈jX l p↔x∈l\/ x=p
 |[],p,x=>by simp[jX]
 |a::l,p,x=>by
  rw[jX];cases V:ax<|a<p;cases j:a==p;simp only[br,dz];exact⟨λh=>h.elim .inr .inl,λh=>h.elim .inr .inl⟩;have:a=p:=by simpa using j
  subst this;simp only[br,a8,dz];exact⟨.inl,λh=>h.elim id .inl⟩;simp only[a8,dz,LY,or_assoc]
def Uz:∀{l:aL} (p:Int),l.Pairwise (·<·)->(jX l p).Pairwise (·<·)
 |[],p,_=>by simp[jX]
 |a::l,p,h=>by
  rw[lT]at h;rw[jX];cases V:ax<|a<p;cases j:a==p;rw[br,br,lT,lT];have O:p<a:=by
   have V:¬a<p:=of_decide_eq_false V;have j:a≠p:=by simpa using j
   omega
  refine⟨λx s=>?_,h.1,h.2⟩
  rcases dz.1 s with s|s
  rw[s];exact O;exact Int.lt_trans O<|h.1 x s;rw[br,a8,lT];exact h;rw[a8,lT];refine⟨λx s=>?_,Uz p h.2⟩
  rcases LY.1 s with s|s
  exact h.1 x s;rw[s];exact tm V
def Zl:∀{a b:aL},a.Pairwise (·<·)->b.Pairwise (·<·)->(∀x,x∈a↔x∈b)->a=b
 |[],[],_,_,_=>rfl
 |[],y::b,_,_,h=>absurd ((h y).2 ei) aY
 |x::a,[],_,_,h=>absurd ((h x).1 ei) aY
 |x::a,y::b,J,e,h=>by
  rw[lT]at J e;have F:x=y:=by
   rcases dz.1 ((h x).1 ei)with h1|h1
   exact h1
   rcases dz.1 ((h y).2 ei)with p|p
   exact p.symm;have:=e.1 x h1;have:=J.1 y p;omega
  subst F;rw[Zl J.2 e.2 λz=>?_];constructor;intro o
  rcases dz.1 ((h z).1 (dR _ o))with h1|h1
  subst h1;have:=J.1 z o;omega;exact h1;intro o
  rcases dz.1 ((h z).2 (dR _ o))with h1|h1
  subst h1;have:=e.1 z o;omega;exact h1
def To:∀(L l:aL),l.Pairwise (·<·)->(L.foldl jX l).Pairwise (·<·)
 |[],_,h=>h
 |p::L,l,h=>To L _<|Uz p h
def Tn:∀(L l:aL) (x:Int),x∈L.foldl jX l↔x∈l\/ x∈L
 |[],l,x=>aY
 |p::L,l,x=>by rw[gn,Tn L,LY,dz,or_assoc]
def Lm:∀(L l:aL) (x:Int),x∈L.foldl jH l↔x∈l\/ x∈L
 |[],l,x=>aY
 |p::L,l,x=>by rw[gn,Lm L,ah_,dz,or_assoc]
def Ln:∀(L l:aL),l.Nodup->(L.foldl jH l).Nodup
 |[],_,h=>h
 |p::L,l,h=>Ln L _<|aia h p
def Ll:∀(L l:aL),aA (L.foldl jH l)<=aA l+aA L
 |[],_=>bu _
 |p::L,l=>by have:=Ll L<|jH l p;have:=ah9 l p;rw[gn,cr];omega
def uN(m:i7):List Int:=(rD m).foldl jX []
def abf(L:aL):Go.Dt.hS (L.foldl jH [])=L.foldl jX []:=by have p:=Jo (L.foldl jH []) Go.Dt.Bs;have s:=Pb (le:=Go.Dt.Bs) (λa b c V j=>by unfold Go.Dt.Bs at*;exact aww) (λa b=>by unfold Go.Dt.Bs;simp only[iB,c_];omega)<|L.foldl jH [];have n:(Go.Dt.hS<|L.foldl jH []).Nodup:=p.nodup_iff.2<|Ln L [] Jq;refine Zl ?_ (To L [] List.Pairwise.nil) λx=>?_;have:=s.and n;refine this.imp λ{a b} h=>?_;have V:=h.1;unfold Go.Dt.Bs at V;have V:=tm V;have:=h.2;omega;rw[Tn,<-Lm];exact p.mem_iff
def SV:∀(R:List kv),(∀r∈R,aA r.b_<=14)->aA (R.flatMap λr=>r.b_)<=14*R.length:=by
 intro R
 induction R with
 |nil=>intro _;exact bu _
 |cons r R I=>intro h;have:=I λr x=>h r<|dR _ x;have:=h r ei;rw[kP,cN,cr];omega
def JQ(m:i7)(Y:ze m):aA (rD m)<=980:=by have:=SV m.eK Y.p;have:=Y.r;unfold rD;omega
def Uy(p:Int):∀(l:aL),aA (jX l p)<=aA l+1
 |[]=>bu _
 |a::l=>by rw[jX];have:=Uy p l;cases ax (a<p);cases a==p;rw[br,br,cr,cr];omega;rw[br,a8];omega;rw[a8,cr,cr];omega
def Tm:∀(L l:aL),aA (L.foldl jX l)<=aA l+aA L
 |[],_=>bu _
 |p::L,l=>by have:=Tm L<|jX l p;have:=Uy p l;rw[gn,cr];omega
def as2{m:i7}(Y:ze m):aA (uN m)<=980:=by have h:=JQ m Y;have a:=Ll (rD m) [];have d:aA (Go.Dt.hS<|(rD m).foldl jH [])=aA ((rD m).foldl jH []):=(Jo _ _).length_eq;unfold uN;rw[<-abf,d];rw[f_]at a;omega
def eG(l:List Int)(p:Int):Nat:=aA<|l.takeWhile λa=>decide (a<p)
def Un:∀(l:aL) (p:Int),eG l p<=aA l
 |[],_=>bu _
 |a::l,p=>by unfold eG;rw[List.takeWhile_cons];cases h:ax<|a<p;exact kQ _;have:=Un l p;exact Nat.succ_le_succ this
def DA(a:Int)(l:aL)(p:Int):eG (a::l) p=if a<p then eG l p+1 else 0:=by unfold eG;rw[List.takeWhile_cons];by_cases h:a<p;rw[b8 h,b8 auF];rfl;rw[cG h,cG auF];rfl
def Uo:∀(l:aL) (p:Int) (i:Nat) (G:i<eG l p) (h:i<aA l),l[i]<p
 |a::l,p,i,G,h=>by
  rw[DA]at G;split at G;rename_i D
  cases i with
  |zero=>exact D
  |succ i=>exact Uo l p i aW auF
  omega
def Um:∀(l:aL) (p:Int) (h:eG l p<aA l),¬l[eG l p]<p
 |a::l,p,h=>by
  by_cases D:a<p;have e:eG (a::l) p=eG l p+1:=by rw[DA,b8 D]
  have j:eG l p<aA l:=by rw[e]at h;exact auF
  have:=Um l p j;simp only[e,List.getElem_cons_succ];exact aw0;have e:eG (a::l) p=0:=by rw[DA,cG D]
  simp only[e,m_];exact D
def UA:∀(l:aL) (p:Int),jX l p=if l[eG l p]?=ad p then l else l.take (eG l p)++p::l.drop (eG l p)
 |[],p=>by simp[jX,eG]
 |a::l,p=>by
  rw[jX];by_cases D:a<p;have e:eG (a::l) p=eG l p+1:=by rw[DA,b8 D]
  rw[gu D,a8,UA l p,e,oK,j7,OU];split<;>rfl;have e:eG (a::l) p=0:=by rw[DA,cG D]
  rw[kV D,br,e];cases j:a==p;have:a≠p:=by simpa using j
  rw[cG<|by simpa using this];rfl;have:a=p:=by simpa using j
  rw[b8<|by simpa using this];rfl
def s3(d:Nat):dk 3 (ad d)=3000+d:=rfl
def acG:VP.h5 109=3:=rfl
structure JD(h:H)(x:VV)(l:List Int):Prop where
 n:aA l<=980
 x:∃D v,x=b9 (l.map iC) D v/\ b6 (h.o D) (l.map iC) v 3 1/\ (D=0\/ 1000000000<=D)/\ D<=3061+1000000000*(h.o 3061).ver
def aq5(m:i7)(e1:ze m):aS VP 109 [.agg<|gi m] (iL<|uN m):=by
 have j0:=JQ m e1;unfold uN;unfold rD at j0|-;have⟨N,A,f1,k0,R,l0,a0,g1⟩:=m;have⟨B0,e0⟩:=e1;simp only at B0 e0 j0|-;refine mQ agf apG λw y=>?_;refine S3 Tryz.f109.eq_1 @acG @s3 ?_;refine lF 0 R.length (λi T h=>T 1=.aR 3001 1 0 0/\ T 4=iV i/\ h.o 3001=⟨1,0,.cells aa ab 42 8 [[.fz<|N.map c8,.fz<|A.map bQ,uV f1,iV k0,.fz<|R.map dr,iV l0,uV a0,bV g1]]⟩/\ h.y=y/\ JD h (T 3) (((R.take i).flatMap λr=>r.b_).foldl jX [])) ?_ ?_ ?_;refine S0 ?_;exact⟨aM,kQ _,0,0,aM,⟨aM,λh=>absurd aM h⟩,.inl aM,kQ _⟩
 ·rintro i T h z0 ⟨t,X,M,b0,B⟩;have k1:i<9223372036854775807:=aW;have m0:∀h:H,cF h (ae,4) (.fz<|R.map dr) (i:Int)=.ok (.bA (dr R[i]) 0):=λh=>db (s:=4) dr R i z0;have l1:(R.take<|i+1).flatMap (λr=>r.b_)=(R.take i).flatMap (λr=>r.b_)++R[i].b_:=by rw[ej z0,Cn];simp
  have m1:=e0 _<|bD z0;have o0:aA ((R.take<|i+1).flatMap<|λr=>r.b_)<=980:=by have h1:=SV (R.take<|i+1) λr n1=>e0 r<|z_ n1;have h2:aA (R.take<|i+1)<=70:=aw5;omega
  rw[l1]at o0|-;generalize(R.take i).flatMap (λr=>r.b_)=L0 at*;generalize R[i]=r at*;refine S5 t X M @s3 (a6 z0) ?_;refine oF 1 2 (aA r.b_) (λk T h=>T 1=.aR 3001 1 0 0/\ T 4=iV i/\ T 5=iV k/\ h.o 3001=⟨1,0,.cells aa ab 42 8 [[.fz<|N.map c8,.fz<|A.map bQ,uV f1,iV k0,.fz<|R.map dr,iV l0,uV a0,bV g1]]⟩/\ h.y=y/\ JD h (T 3) ((L0++r.b_.take k).foldl jX [])) ?_ ?_ ?_;refine S2 t X ?_;exact⟨aM,M,b0,by rw[i',ea];exact B⟩
  ·rintro k T h C0 ⟨t,X,t5,M,b0,B⟩;have p1:k<9223372036854775807:=aW;have D0:∀h:H,cF h (ae,1) (iL r.b_) (k:Int)=.ok (.bA [iV r.b_[k]] 0):=λh=>db (s:=1) iC r.b_ k C0;have p0:L0++r.b_.take (k+1)=(L0++r.b_.take k)++[r.b_[k]]:=by rw[ej C0,eF]
   have f0:aA (((L0++r.b_.take k)++[r.b_[k]]).foldl jX [])<=980:=by have h1:=Tm ((L0++r.b_.take k)++[r.b_[k]]) [];rw[<-p0]at h1|-;rw[cN]at o0;rw[cN,ep,f_]at h1;omega
   rw[jQ]at f0;rw[p0,jQ];generalize(L0++r.b_.take k).foldl jX []=O at*;generalize r.b_[k]=p at*;have⟨hn,D,v,t3,i0,E0,F0⟩:=B;have r0:=Un O p;have c0:∀H:H,H.o D=h.o D->rZ H (b9 (O.map iC) D v)=.ok (iV<|aA O):=λH e=>by rw[<-e]at i0;have:=Vl i0;rwa[bj]at this
   have V:O≠[]->b9 (O.map iC) D v=.bh D v 0 (aA O):=λC=>by
    cases O with
    |nil=>exact absurd aM C
    |cons a O=>show VV.bh D v 0 (aA<|(a::O).map iC)=_;rw[bj]
   have u:O≠[]->∃f,h.o D=⟨v,f,.cells ab ab 3 1<|O.map iC⟩:=λC=>i0.2 (by simpa using C);refine S8 t X t5 M @s3 m0 D0 (a6 C0) ?_;refine Ej (G:=λx=>dL (cJ 3<|dL x _) _) (Q':=λo=>∃d0,o=.bI d0 h/\ d0 1=.aR 3001 1 0 0/\ d0 3=T 3/\ d0 4=iV i/\ d0 5=iV k/\ d0 6=iV p/\ d0 7=iV (eG O p)) ?_ ?_
   as_aux_lemma=>
    refine ot (G:=λx=>cJ 4 x) (eG O p) (λj T2 h2=>T2 1=.aR 3001 1 0 0/\ T2 3=T 3/\ T2 4=iV i/\ T2 5=iV k/\ T2 6=iV p/\ T2 7=iV j/\ h2=h) ?_ ?_ ?_;refine S3 t X t5 ?_;rfl;rintro j T2 h2 u1 ⟨z,S,d,Y,J,I,rfl⟩;have l:j<aA O:=aW;have v1:j<9223372036854775807:=aW;have C:O≠[]:=auN;have⟨f,g⟩:=u C;have b:(O.map iC)[j]?=ad [iV O[j]]:=by rw[hY,cx l];rfl
    have G0:ax (O[j]<p)=aa:=gu<|Uo O p j u1 l;rw[t3,V C]at S|-;generalize O[j]=a at*;exact bq z S d Y J I @jc g @fg @fk (a6 l) (an (eB l)<|an @c6<|an @bZ<|an b<|an G0 @bd) tr;rintro T2 h2 ⟨z,S,d,Y,J,I,rfl⟩;by_cases l:eG O p<aA O;have C:O≠[]:=auN;have⟨f,g⟩:=u C;have s0:=kV<|Um O p l;generalize eG O p=j at*;have b:(O.map iC)[j]?=ad [iV O[j]]:=by rw[hY,cx l];rfl
    rw[t3,V C]at S|-;generalize O[j]=a at*;refine bq z S d Y J I @jc g @fg @fk (a6 l) (an (eB l)<|an @c6<|an @bZ<|an b s0) ?_;refine⟨_,aM,?_⟩;exact S6 z S d Y J I tr;have A0:=c0 h2 aM;generalize eG O p=j at*;have w1:ax ((j:Int)<(aA O:Int))=ab:=auI;rw[t3]at S|-;refine S8 z S d Y J I A0 w1 ?_;refine⟨_,aM,?_⟩;exact S6 z S d Y J I tr
   ·rintro o ⟨d0,rfl,z,S,d,Y,J,I⟩;have W:=UA O p;by_cases F:O[eG O p]?=ad p;rw[b8 F]at W;have l:eG O p<aA O:=(lQ.1 F).1;have C:O≠[]:=auN;have⟨f,g⟩:=u C;have U:(((eG O p:Nat):Int)==(aA O:Int))=ab:=by rw[As];omega
    have g0:JD h (T 3) (jX O p):=by rw[W];exact⟨hn,D,v,t3,i0,E0,F0⟩
    have H0:(p !=p)=ab:=aY;rw[t3]at S g0;generalize eG O p=j at*;have b:(O.map iC)[j]?=ad [iV p]:=by rw[hY,F];rfl
    rw[V C]at S g0;refine bq z S d Y J I @jc g @fg @fk (eB l) (an @c6<|an @bZ<|an b<|an U<|an H0 @bd) ?_;exact⟨M,b0,g0⟩
    ·rw[cG F]at W;rw[t3]at S;have A0:=c0 h aM;have x1:aA O<1048576:=aW;have Q:∃q,q=aa/\ (eG O p<aA O->∃f,h.o D=⟨v,f,.cells ab ab 3 1<|O.map iC⟩/\ ∃a,(O.map iC)[eG O p]?=ad [iV a]/\ (a !=p)=aa):=by
      refine⟨aa,aM,λl=>?_⟩;have C:O≠[]:=auN;have⟨f,g⟩:=u C;refine⟨f,g,O[eG O p],by rw[hY,cx l];rfl,?_⟩;rw[cx l]at F;simp only[Av];exact λe=>F (by rw[e])
     have⟨_,_,Q⟩:=Q;obtain⟨Y1,Y2,I0⟩:∃Y1 Y2,∀H:H,H.o D=h.o D->yb H 1 (b9 (O.map iC) D v) 0 (ad<|eG O p)=.ok Y1/\ kF H Y1=.ok (ab,(O.take<|eG O p).map iC)/\ yb H 1 (b9 (O.map iC) D v) (eG O p) ae=.ok Y2/\ kF H Y2=.ok (ab,(O.drop<|eG O p).map iC):=by
      by_cases C:O=[];subst C;exact⟨.nil,.nil,λH _=>⟨aM,aM,aM,aM⟩⟩;have⟨f,g⟩:=u C;have i1:0<aA O:=uU.2 C;have b1:ah 0 (aA O)=aa:=at2;have b2:ai (eG O p) (aA O)=aa:=iE r0;have b3:ai (aA O) (aA O)=aa:=iE<|bu _;have b4:ai 0 (eG O p)=aa:=iE<|kQ _;refine⟨.bh D v 0<|eG O p,.bh D v (eG O p)<|aA O-eG O p,λH e=>?_⟩;rw[g]at e;rw[V C];generalize eG O p=j at*;have b5:ai (0+j) (aA<|O.map iC)=aa:=by rw[bj];exact iE aW
      have b6:ai (j+(aA O-j)) (aA<|O.map iC)=aa:=by rw[bj];exact iE aW
      refine⟨?_,?_,?_,?_⟩;exact avK;simp only[GB,kJ,e,jb,aO,b5,a8,e6,Fw];exact avK;simp only[GB,kJ,e,jb,aO,b6,a8,Jm];rw[eM<|by rw[j5,bj];exact auS]
     have L:aA (O.take<|eG O p)=eG O p:=aw5;have t0:aA (O.drop<|eG O p)=aA O-eG O p:=j5;have J0:=yV<|O.take<|eG O p;have K0:=yV<|O.drop<|eG O p;generalize eG O p=j at*;by_cases l:j<aA O
     focus
      have⟨f,g,a,b,M0⟩:=Q l;have U:(((j:Nat):Int)==(aA O:Int))=ab:=by rw[As];omega
      have O0:cF h (ae,1) (b9 (O.map iC) D v) (j:Int)=.ok (.aR D v j 0):=by rw[V auN,fg,fk,c6,eB l,kJ,g];simp only[jb,aO,a8,gX,iJ,bZ]
      refine bq z S d Y J I A0 g O0 @bZ b (an U<|an M0<|an @Ob<|an @s3 @IP) ?_
     rotate_left
     focus
      have U:(((j:Nat):Int)==(aA O:Int))=aa:=by rw[nj];omega
      refine eN z S d Y J I A0 U @Ob @s3 @IP ?_
     all_goals
      obtain⟨c,u0⟩:∃c,c=nq 3061 h:=⟨_,Eq.refl _⟩;have P0:c=3061+1000000000*((h.o 3061).ver+1):=u0;rw[<-u0];have Q0:D≠c/\ D≠3061/\ D≠3067/\ 1000000000<=c:=by clear Q u I0;omega
      have⟨P,v0,w0,R0⟩:=Q0;generalize T0:(h.o c).ver+1=U0;obtain⟨H1,n⟩:∃H1,H1=l6 3061 (h.new c<|.cells ab ab 3 1 []):=⟨_,Eq.refl _⟩;have q1:H1.o 3001=h.o 3001:=by rw[n,hN (hn:=aW),dE (hn:=aW)]
      have x0:H1.o c=⟨U0,0,.cells ab ab 3 1 []⟩:=by rw[n,hN (hn:=aW),jt,T0]
      have j1:H1.o D=h.o D:=by rw[n,hN (hn:=v0),dE (hn:=P)]
      have z1:(H1.o 3061).ver=(h.o 3061).ver+1:=by rw[n,sT,dE (hn:=aW)]
      have A1:H1.y=y:=by rw[n];exact b0
      rw[<-n];have⟨y1,y2,_,_⟩:=I0 H1 j1;have V0:ah j (2^30)=aa:=at2;have W0:ah (j+1) (2^30)=aa:=at2;refine bq z S d Y J I @s3 y1 y2 x0 J0 (an L<|an V0<|an W0<|an @bZ<|an @cC @Hj) ?_;obtain⟨H2,E⟩:∃H2:H,H2=((H1.new c<|.cells ab ab 3 1<|(O.take j).map iC).new 3067<|.cells ab ab 3 1 [[iV p]]).new c (.cells ab ab 3 1<|(O.take j).map iC++[[iV p]]):=⟨_,Eq.refl _⟩;have r1:H2.o 3001=h.o 3001:=by rw[E,dE (hn:=aW),dE (hn:=aW),dE (hn:=aW),q1]
      have h0:H2.o c=⟨U0+1+1,0,.cells ab ab 3 1<|(O.take j).map iC++[[iV p]]⟩:=by rw[E,jt,dE (hn:=aW),jt,x0]
      have B1:H2.o D=h.o D:=by rw[E,dE (hn:=P),dE (hn:=w0),dE (hn:=P),j1]
      have C1:(H2.o 3061).ver=(h.o 3061).ver+1:=by rw[E,dE (hn:=aW),dE (hn:=aW),dE (hn:=aW),z1]
      have D1:H2.y=y:=by rw[E];exact A1
      rw[<-E];clear E n;have⟨_,_,y3,y4⟩:=I0 H2 B1;have X0:ah (aA O-j) (2^30)=aa:=at2;have Y0:ah (j+1+(aA O-j)) (2^30)=aa:=at2;have a1:ag (j+1) (aA<|(O.take j).map iC++[[iV p]])=aa:=by rw[cN,bj,L];exact gX _
      have y0:[p].foldl jX O=O.take j++p::O.drop j:=W;have c1:(O.take j).map iC++[[iV p]]++(O.drop j).map iC=(O.take j++p::O.drop j).map iC:=by rw[dg,eF];rfl
      have d1:aA (O.take j++p::O.drop j)=j+1+(aA O-j):=by rw[cN,cr,L,t0];omega
      rw[y0]at f0|-;refine bq z S d Y J I @s3 y3 y4 h0 K0 (an L<|an t0<|an X0<|an Y0<|an a1<|an c1 @bd) ?_;have C:O.take j++p::O.drop j≠[]:=aY;generalize O.take j++p::O.drop j=Z at*;refine⟨r1.trans M,D1,f0,c,U0+1+1+1,?_,⟨by rw[jt,h0],λ_=>⟨0,by rw[jt,h0]⟩⟩,.inr R0,by rw[dE (hn:=aW),C1,P0];exact auS⟩
      cases Z with
      |nil=>exact absurd aM C
      |cons a Z=>show VV.bh _ _ 0 _=VV.bh _ _ 0 (aA<|(a::Z).map iC);rw[bj,d1]
  rintro T h ⟨t,X,t5,M,b0,B⟩;rw[bP]at B;refine S7 t X t5 M m0 @ee @bd ?_;exact⟨b0,B⟩
 rintro T h ⟨t,X,M,b0,B⟩;rw[bP]at B;have⟨hn,D,v,t3,i0,_⟩:=B;exact S7 t X M t3 @ee (gf i0) b0 tr
def UU:∀(A:List<|Int×Bool),(∀k∈pY A,-9223372036854775808<=k/\ k<=9223372036854775807)->Bm (A.map<|hL kI)=ad (pY A)
 |[],_=>rfl
 |e::A,h=>by
  have V:=h e.1 ei;have a:=UU A λk f=>h k<|dR _ f;have d:Go.Dt.Bl (kI e.1)=ad e.1:=by show(if _ then _ else _)=_;rw[b8 V]
  show(match Go.Dt.Bl (kI e.1),Bm (A.map<|hL kI)with|ad k,ad W=>ad (k::W)|_,_=>ae)=_;rw[d,a];rfl
def UH:VP.nv 97=ad (Bn 166 3):=rfl
def i97(w:cV)(h:H){s ver s2 e W N:Nat}{A:List (Int×Bool)}(E:h.o s=⟨ver,W,.cells aa ab 184 1 [[.cz s2 e]]⟩)(O:h.o s2=⟨e,N,.map<|A.map<|hL kI⟩)(r:(pY A).Nodup)(g:aA A<=2^30)(x:∀k∈pY A,-9223372036854775808<=k/\ k<=9223372036854775807):
 ∃h' v,(vW VP).i 97 16 [.func 166 [] [.aR s ver 0 0]] w h=.ok (b9 ((Go.Dt.hS<|pY A).map iC) 16999 v,h')/\ h'.y=h.y/\ (∀q,q≠16999->h'.o q=h.o q)/\ b6 (h'.o 16999) ((Go.Dt.hS<|pY A).map iC) v 3 1:=by
 have b:gB h s ver=.ok (aa,ab,184,1,[[.cz s2 e]]):=by rw[kJ,E];exact jb _ _ _ _ _ _ _
 have S:o7 h (.cz s2 e)=.ok (A.map<|hL kI):=by rw[Mp,O,Mw]
 have f:=UU A x;have Z:(pY A).Nodup/\ aA (A.map<|hL kI)<=2^30/\ True/\ True:=⟨r,by rw[bj];exact g,trivial,trivial⟩
 cases B:Go.Dt.hS (pY A)with
 |nil=>refine⟨h,(h.o 16999).ver,nw UH ?_,aM,λq _=>rfl,aM,λh=>absurd aM h⟩;unfold Bn;simp only[gX,a8,b,aO,S,f,B];rw[b8 Z];rfl
 |cons a l=>refine⟨h.new 16999<|.cells ab ab 3 1<|(a::l).map iC,(h.o 16999).ver+1,nw UH ?_,aM,λq M=>by rw[dE (hn:=M)],by rw[jt];exact auh⟩;unfold Bn;simp only[gX,a8,b,aO,S,f,B];rw[b8 Z];show(.ok (VV.bh 16999 ((h.o 16999).ver+1) 0<|aA<|a::l,h.new 16999<|.cells ab ab 3 1<|(a::l).map iC):R<|VV×H)=.ok (VV.bh 16999 ((h.o 16999).ver+1) 0<|aA<|(a::l).map iC,_);rw[bj]
def s15(d:Nat):dk 15 (ad d)=15000+d:=rfl
def u98(w:cV)(h:H)(s v:Nat):(vW VP).i 98 15 [.cz s v] w h=.ok (.func 166 [] [.aR 15001 ((h.o 15001).ver+1) 0 0],h.new 15001<|.cells aa ab 184 1 [[.cz s v]]):=by
 have l:∃Y,ki VP Tryz.f98.results.toList (cv VP (cW VP w) 15 (VP.gk 98) (Tryz.f98.body.getD .skip) (gK [.cz s v]) h)=.ok (.func 166 [] [.aR 15001 ((h.o 15001).ver+1) 0 0],Y)/\ Y=h.new 15001 (.cells aa ab 184 1 [[.cz s v]]):=by refine vr ?_;refine S2 Tryz.f98.eq_1 @s15 ?_;exact awm
 obtain⟨Y,C,rfl⟩:=l;exact pW agy apZ aX C
def aq0(p:Int)(k:pF):aS VP 101 [iV p,.agg<|kK k] (bV<|p==k.pos):=by have⟨a,v⟩:=k;refine gO Tryz.f101.eq_1 λw y=>?_;exact aug
def If:Int->pF->Bool:=λp k=>p==k.pos
def nr:List Int->List pF->Bool
 |[],[]=>aa
 |p::l,k::m=>If p k&&nr l m
 |_,_=>ab
def KR:∀{l:aL} {m:List pF},aA l≠aA m->nr l m=ab
 |[],[],h=>absurd aM h
 |[],_::_,_=>rfl
 |_::_,[],_=>rfl
 |p::l,k::m,h=>by rw[nr,KR (l:=l) (m:=m)<|λe=>h<|by rw[cr,cr,e],Fi]
def Sl{l:aL}{m:List pF}{i:Nat}(G:i<aA l)(u:i<aA m):nr (l.drop i) (m.drop i)=(If l[i] m[i]&&nr (l.drop<|i+1) (m.drop<|i+1)):=by rw[fD G,fD u];rfl
def aqZ(l:aL)(m:List pF)(P:bk l):aS VP 100 [iL l,.fz<|m.map kK,.func 101 [] []] (bV<|nr l m):=by refine gO Tryz.f100.eq_1 λw y=>?_;by_cases z:aA l=aA m;refine S1 z ?_;refine lF 0 (aA l) (λi T h=>T 1=.fz (m.map kK)/\ T 2=.func 101 [] []/\ T 15=iL l/\ T 16=iV (aA l)/\ T 17=iV i/\ h.y=y/\ nr l m=nr (l.drop i) (m.drop i)) ?_ ?_ ?_;refine S1 z ?_;exact at1;rintro i T h G ⟨J,W,F,e,E,O,q⟩;have u:i<aA m:=aW;have t:∀h:H,cF h (ae,1) (iL l) (i:Int)=.ok (.bA [iV l[i]] 0):=λh=>db (s:=1) iC l i G;have f:∀h:H,cF h (ae,7) (.fz<|m.map kK) (i:Int)=.ok (.bA (kK m[i]) 0):=λh=>db (s:=7) kK m i u;have d:=aq0 l[i] m[i];rw[Sl G u]at q;have B:If l[i] m[i]=(l[i]==m[i].pos):=rfl;rw[B]at q;generalize l[i]=p at*;generalize m[i]=k at*;have⟨a,v⟩:=k;simp only at*;cases X:p==a;rw[X]at d q;rw[show nr l m=ab from q];exact eN J W F e E (a6 G) t f d.aP @bd O tr;rw[X]at d q;refine fm J W F e E (a6 G) t f d.aP @bd ?_;exact⟨O,q⟩;rintro T h ⟨J,W,F,e,E,O,q⟩;rw[fS,z,fS]at q;rw[show nr l m=aa from q];exact S7 J W F e E @ee O tr;exact S2 (nB z) (KR z) tr
def mc(c:Int):Int->List pF->Int
 |_,[]=>0
 |o,k::l=>bif ra k.ev==0 then(bif !below k.ev.id.label c then 13 else bif ax (k.ev.order<=o)then 9 else mc c k.ev.order l)else ra k.ev
def xo(m:i7)(c:Int)(K:List pF):Int:=bif nr (uN m) K then mc c 0 K else 3
def US{c o:Int}{K:List pF}{i:Nat}(G:i<K.length):mc c o (K.drop i)=bif ra K[i].ev==0 then(bif !below K[i].ev.id.label c then 13 else bif ax (K[i].ev.order<=o)then 9 else mc c K[i].ev.order<|K.drop<|i+1)else ra K[i].ev:=by rw[fD G,mc]
def x7(K:List pF)(i:Nat)(G:i<K.length)(h:H):cF h (ae,7) (.fz<|K.map kK) (i:Int)=.ok (.bA (kK K[i]) 0):=db (s:=7) kK K i G
def w49(x:ke)(I:ze x.cH)(i0:∀k∈rD x.cH,-9223372036854775808<=k/\ k<=9223372036854775807)(j0:bk x.nx):aS VP 49 [.bA (e_ x) 0] (iV<|xo x.cH x.fx x.nx):=by
 refine gO Tryz.f49.eq_1 λw y=>?_;have⟨V,v,B,F0,F,d0,k0,e0,j⟩:=u99 w (H.empty y) x.cH I;have M:=u98 w V 14008 v;have A:∀k,k∈pY B↔k∈rD x.cH:=λk=>by rw[j,Lm];simp
 have r:aA B<=980:=by have V:=Ll (rD x.cH) [];have h2:=JQ x.cH I;rw[<-j,bj,f_]at V;omega
 obtain⟨h3,v3,b,f0,l0,L⟩:=i97 w (V.new 15001<|.cells aa ab 184 1 [[.cz 14008 v]]) (s:=15001) (s2:=14008) (by rw[jt]) (by rw[dE (hn:=aT)];exact e0) (by rw[j];exact Ln _ _ Jq) aW<|λk h=>i0 k<|(A k).1 h;have C:Go.Dt.hS (pY B)=uN x.cH:=by rw[j];exact abf _
 rw[C]at b L;have m0:=as2 I;have S:=aqZ (uN x.cH) x.nx (by show aA (uN x.cH)<1048576;omega);have z:h3.y=y:=by rw[f0];show V.y=y;rw[d0];rfl
 have G0:aA x.nx<1048576:=j0;unfold xo;generalize uN x.cH=W at*;obtain⟨n,⟨⟨k,o0,p0,a,r0⟩,s0,u0,v0⟩,⟨t,Y,P,a0,c,b0,l,w0⟩,m,next,u⟩:=x;simp only[e_,gi,bG,bg,ck,b7]at*;cases g0:nr W u;rw[g0]at S;exact bq @gU @jZ @Uf @Ug @Uh @Qk @Ql @Qm F M b (an (gf L)<|an S.aP z) tr;rw[g0]at S;refine bq @gU @jZ @Uf @Ug @Uh @Qk @Ql @Qm F M b (an (gf L) S.aP) ?_;clear F M b d0 k0 e0 j A r f0 l0 L C S;obtain⟨X,J⟩:∃X:VV,X=.bA [iV n,iV k,iV o0,iV p0,iV a.kind,bV a.fF,uV a.fe,.fz<|a.cy.map ed,sV a.name,.fz<|r0.map bc,uV s0,.fz<|u0.map gw,.fz<|v0.map e7,.fz<|t.map c8,.fz<|Y.map bQ,uV P,iV a0,.fz<|c.map dr,iV b0,uV l,bV w0,uV m,uL next,.fz<|u.map kK] 0:=⟨_,aM⟩;refine lF 0 (aA u) (λi T h=>T 0=X/\ T 28=.fz (u.map kK)/\ T 29=iV (aA u)/\ T 30=iV i/\ h.y=y/\ ∃o,T 4=uV o/\ mc m 0 u=mc m o (u.drop i)) ?_ ?_ ?_;refine S2 J z ?_;exact⟨aM,0,aM,aM⟩;rintro i T h g ⟨O,Q,Z,E,U,o,N,d⟩;have x0:i<9223372036854775807:=aW;have f:=x7 u i g;have G:=aq1 u[i].ev;have q:=w71 u[i].ev.id.label m;rw[US g]at d;generalize u[i]=y0 at*;obtain⟨H0,⟨⟨h0,z0⟩,c0,A0,B0,C0⟩⟩:=y0;simp only at*;generalize ra ⟨⟨h0,z0⟩,c0,A0,B0,C0⟩=e at*;generalize below h0 m=D0 at*;cases D:e==0;have hn:(e !=0)=aa:=by simp[bne,D]
 rw[D]at d;rw[show mc m 0 u=e from d];exact fm O N Q Z E (a6 g) f G.aP hn U tr;have hn:(e !=0)=ab:=by simp[bne,D]
 rw[D,a8]at d;cases D0;rw[show mc m 0 u=13 from d];rw[J]at O;exact bq O N Q Z E (a6 g) f G.aP hn @gU @jZ (an @jy<|an q.aP U) tr;cases p:ax<|c0<=o;rw[p]at d;have E0:=J;rw[J]at O;refine bq O N Q Z E (a6 g) f G.aP hn @gU @jZ (an @jy<|an q.aP<|an p<|an @bd J) ?_;exact⟨U,c0,aM,d⟩;rw[p]at d;rw[show mc m 0 u=9 from d];rw[J]at O;exact bq O N Q Z E (a6 g) f G.aP hn @gU @jZ (an @jy<|an q.aP<|an p U) tr;rintro T h ⟨O,Q,Z,E,U,o,N,d⟩;rw[fS]at d;rw[show mc m 0 u=0 from d];exact S7 O N Q Z E @ee U tr
def aoE{s:bJ}(h:ra s=0):1<=s.order:=by unfold ra c7 at h;cases V:(bif uv s.id.no==0 then vN s.kind else uv s.id.no)==0;rw[V,br]at h;rw[h]at V;cases V;rw[V,a8]at h;unfold tL at h;by_cases B:s.order<1;rw[gu B]at h;exact auu;omega
def w54(x:ke)(u0:ze x.cH)(M0:bk x.nx):aS VP 54 [.agg<|e_ x] (iV<|xo x.cH x.fx x.nx):=by
 have z:=aq5 x.cH u0;unfold xo;generalize uN x.cH=W at*;have⟨n,⟨⟨k,v0,w0,a,x0⟩,y0,z0,A0⟩,⟨t,Y,e0,f0,S,g0,D,B0⟩,m,next,u⟩:=x;simp only[e_,gi,bG,bg,ck,b7]at*;by_cases b0:aA W=aA u;have i0:((aA W:Int)!=(aA u:Int))=ab:=by rw[b0];simp
 refine gO Tryz.f54.eq_1 λw y=>?_;refine S2 z.bE i0 ?_;obtain⟨c0,G⟩:∃c0:aC,c0=[iV n,iV k,iV v0,iV w0,iV a.kind,bV a.fF,uV a.fe,.fz<|a.cy.map ed,sV a.name,.fz<|x0.map bc,uV y0,.fz<|z0.map gw,.fz<|A0.map e7,.fz<|t.map c8,.fz<|Y.map bQ,uV e0,iV f0,.fz<|S.map dr,iV g0,uV D,bV B0,uV m,uL next,.fz<|u.map kK]:=⟨_,aM⟩;refine lF 0 (aA W) (λi T h=>T 1=.aR 1 1 0 0/\ T 3=iL W/\ T 4=iV i/\ h.o 1=⟨1,0,.cells aa ab 48 24 [c0]⟩/\ h.y=y/\ nr W u=nr (W.drop i) (u.drop i)) ?_ ?_ ?_;refine S1 G ?_;exact at1;rintro i T h g ⟨J,t3,t4,E,O,q⟩;have j0:i<9223372036854775807:=aW;have l:i<aA u:=aW;have b:∀h:H,cF h (ae,1) (iL W) (i:Int)=.ok (.bA [iV W[i]] 0):=λh=>db (s:=1) iC W i g;have f:=x7 u i l;rw[Sl g l]at q;have C0:If W[i] u[i]=(W[i]==u[i].pos):=rfl;rw[C0]at q;generalize W[i]=p at*;generalize u[i]=Q at*;have⟨k0,v⟩:=Q;simp only at*;rw[G]at E;cases C:p==k0;have r:(p !=k0)=aa:=by simp[bne,C]
 rw[C]at q;rw[show nr W u=ab from q];exact S9 J t3 t4 E (a6 g) b f r O tr;have r:(p !=k0)=ab:=by simp[bne,C]
 rw[C]at q;refine fm J t3 t4 E (a6 g) b f r @bd G ?_;exact⟨O,q⟩;rintro T h ⟨J,t3,t4,E,O,q⟩;rw[fS,b0,fS]at q;rw[show nr W u=aa from q,a8];have l0:=E;rw[G]at E;refine S5 J t3 t4 E @ee ?_;refine lF 2 (aA u) (λi T h=>T 1=.aR 1 1 0 0/\ T 5=iV i/\ h.o 1=⟨1,0,.cells aa ab 48 24 [c0]⟩/\ h.y=y/\ ∃o,(i=0->o<=0)/\ (∀j (l:j<aA u),i=j+1->u[j].ev.order=o)/\ mc m 0 u=mc m o (u.drop i)) ?_ ?_ ?_;refine S1 J ?_;exact⟨aM,l0,O,0,rq _,λj l e=>absurd e aW,aM⟩;rintro i T h g ⟨J,c,E,O,o,U,X,d⟩;have j0:i<9223372036854775807:=aW;have f:=x7 u i g;have Z:=aq6 u[i].ev;have D0:=aoE (s:=u[i].ev);have F:below u[i].ev.id.label m=(u9 u[i].ev.id.label m==0):=rfl;have M:∀j (l:j<aA u),i+1=j+1->u[j].ev.order=u[i].ev.order:=λj l e=>by have:j=i:=aW;subst this;rfl
 rw[US g]at d;rw[G]at E;by_cases h0:i=0;subst h0;have d0:ax ((0:Int)<((0:Nat):Int))=ab:=rfl;have U:=U aM;generalize u[0]=Q at*;have⟨E0,⟨⟨N,m0⟩,A,o0,p0,r0⟩⟩:=Q;simp only at*;generalize ra ⟨⟨N,m0⟩,A,o0,p0,r0⟩=e at*;rw[F]at d;cases L:e==0;exact au8;have r:(e !=0)=ab:=by simp[bne,L]
 have s0:e=0:=by simpa using L
 rw[L,a8]at d;cases P:u9 N m==0;exact au1;have I:(u9 N m !=0)=ab:=by simp[bne,P]
 rw[P]at d;have B:ax (A<=o)=ab:=auI;rw[B]at d;refine bq J c E (a6 g) f Z.aP r @vF I d0 @bd G ?_;exact⟨O,A,λh=>absurd h aW,M,d⟩;obtain⟨j,rfl⟩:∃j,i=j+1:=⟨i-1,aW⟩;have l:j<aA u:=aW;have d0:ax ((0:Int)<((j+1:Nat):Int))=aa:=gu aW;have a0:av .i64 (((j+1:Nat):Int)-1)=(j:Int):=(d' _ aW aW).trans aW;have V:=x7 u j l;have X:=X j l aM;generalize u[j+1]=Q at*;have⟨E0,⟨⟨N,m0⟩,A,o0,p0,r0⟩⟩:=Q;simp only at*;generalize ra ⟨⟨N,m0⟩,A,o0,p0,r0⟩=e at*;rw[F]at d;cases L:e==0;exact au8;have r:(e !=0)=ab:=by simp[bne,L]
 have s0:e=0:=by simpa using L
 rw[L,a8]at d;cases P:u9 N m==0;exact au1;have I:(u9 N m !=0)=ab:=by simp[bne,P]
 rw[P]at d;generalize u[j]=F0 at*;have⟨G0,⟨⟨H0,I0⟩,t0,J0,K0,L0⟩⟩:=F0;simp only at X V;subst X;cases B:ax<|A<=t0;rw[B]at d;refine bq J c E (a6 g) f Z.aP r @vF I d0 a0 (an V<|an B<|an @bd G) ?_;exact⟨O,A,λh=>absurd h aW,M,d⟩;rw[B]at d;rw[show mc m 0 u=9 from d];exact bq J c E (a6 g) f Z.aP r @vF I d0 a0 (an V<|an B O) tr;rintro T h ⟨J,c,E,O,o,U,X,d⟩;rw[fS]at d;rw[show mc m 0 u=0 from d];rw[G]at E;exact S5 J c E @ee O tr;have q:nr W u=ab:=KR b0;rw[q];refine gO Tryz.f54.eq_1 λw y=>?_;exact S2 z.bE (nB b0) tr
def acz{q:cR}(e:gR q):bk (jU q)/\ ∀a∈jU q,bk a.cy:=by
 refine⟨?_,J6 e⟩;unfold jU;cases bR 200 q.bt;exact auz;have h:=uk q.bt;have p:=e.2
 grind
def MC{q:cR}(e:gR q)(c:Int):hU (iW q c).dS/\ bk (iW q c).eX/\ ∀a∈(iW q c).eX,bk a.cy:=by unfold iW;cases mj q c==0;exact⟨⟨auz,λt D=>by cases D⟩,auz,λa b=>by cases b⟩;have⟨h,p⟩:=acz e;refine⟨?_,h,p⟩;show hU<|v8 q;unfold v8;cases p_ q==0;exact⟨auz,λt D=>by cases D⟩;exact NZ λy Q=>((Ml e).2 y Q).2
def BI(x:ke):Bool:=(mj x.ie x.cH.cap==0)&&((iW x.ie x.cH.cap).iI==x.cH.iI)&&dK fV (iW x.ie x.cH.cap).dS x.cH.dS&&dK l9 (iW x.ie x.cH.cap).eX x.cH.eX
def w47(x:ke)(q:gR x.ie):aS VP 47 [.bA (e_ x) 0] (bV<|BI x):=by have d:=w31 x.ie x.cH.cap q;have⟨h,p,X⟩:=MC q x.cH.cap;have B:=w92 (iW x.ie x.cH.cap).dS x.cH.dS h.1 h.2;have b:=w94 (iW x.ie x.cH.cap).eX x.cH.eX p X;unfold BI;generalize iW x.ie x.cH.cap=M at*;generalize mj x.ie x.cH.cap=e at*;have⟨N,V,I,r,D,J,E,U⟩:=M;have⟨n,⟨⟨k,A,F,a,W⟩,P,v,Z⟩,⟨dS,eX,j,t,T,s,G,O⟩,m,next,u⟩:=x;simp only[e_,gi,bG,bg,ck,b7]at*;generalize dK fV N dS=z at*;generalize dK l9 V eX=q2 at*;refine gO Tryz.f47.eq_1 λw y=>?_;exact S6 @gU @jZ @jy d.bE B.aP b.aP tr
def Qt:∀{P:aL} {b:Int},pJ b P=ab->∀p∈P,b<p/\ p<=P.getLast?.getD 0
 |[],_,_,p,M=>by cases M
 |[a],b,h,p,M=>by rw[ku]at M;subst M;rw[pJ,gz,cE]at h;exact at6
 |a::z::P,b,h,p,M=>by
  rw[pJ,gz,cE]at h;have I:=λq u=>Qt (P:=z::P) h.2 q u;have e:(a::z::P).getLast?.getD 0=(z::P).getLast?.getD 0:=aY;rw[e]
  rcases dz.1 M with M|M
  subst M;have:=I z ei;omega
  grind
def Ty:∀{l:aL},jr l=0->∀x∈l,x=0
 |a::l,h,x,s=>by
  rw[jr]at h;cases b:a !=0;rw[b]at h
  rcases dz.1 s with s|s
  subst s;simpa using b;exact Ty h x s;exact at6
def alP{m:i7}(h:rI m=0):∀k∈rD m,-9223372036854775808<=k/\ k<=9223372036854775807:=by
 unfold rI at h;cases B:wo m==0;exact at6;rw[B,a8]at h;have B:wo m=0:=by simpa using B
 have d:m.tU<=1099511627776:=by
  unfold wo at B
  grind
 intro k f;have⟨r,x,j⟩:=oL.1 f;obtain⟨i,G,rfl⟩:=zZ x;have Q:=Ty h (rE m i)<|fv.2 ⟨i,lS.2 G,aM⟩;have V:=Na Q;have N:dQ m i=m.eK[i]:=by unfold dQ;rw[cx G];rfl
 unfold rE at Q;rw[V]at Q;rw[N]at Q V;have s:Bo m.eK[i].b_<m.tU:=by grind
 have n:pJ (-1) m.eK[i].b_=ab:=by
  have⟨o,⟨a,J,p,X⟩,_,P⟩:=wk V;unfold jM at V;cases t:iT m.dS m.eX==0<;>rw[t]at V;rw[br]at V;rw[V]at t;cases t;rw[a8]at V;have b:ax (m.eK[i].node<1)=ab:=auI;have l:ax ((aA m.dS:Int)<=m.eK[i].node)=ab:=auI;rw[b,l,tD,br]at V;unfold EE at V
  grind
 have:=Qt n k j;unfold Bo at s;omega
def nl(s:dm)(x:ke):Int:=
 bif e9 s==0 then(bif ax (x.number<1)||ax (1099511627776<x.number)then 2 else
  bif kH x.ie x.fx==0 then(bif rI x.cH==0 then(bif BI x then(bif gr s x.fx x.next==0 then xo x.cH x.fx x.nx else gr s x.fx x.next)else 3)else rI x.cH)else kH x.ie x.fx)
 else e9 s
def acW(cs:aC)(n k M F Z:Int)(A:Bool)(Q:Int)(cs:aB)(Y:aF)(W:aB)(u:Int)(v a G V:aB)(j f:Int)(rs:aB)(U r:Int)(D:Bool)(c:Int)(h t:aB):
 ga VP.D 119 [(0,.agg [iV n,iV k,iV M,iV F,iV Z,bV A,uV Q,.fz cs,sV Y,.fz W,uV u,.fz v,.fz a,.fz G,.fz V,uV j,iV f,.fz rs,iV U,uV r,bV D,uV c,.fz h,.fz t])]=.ok (.agg [iV n,iV k,iV M,iV F,iV Z,bV A,uV Q,.fz cs,sV Y,.fz W,uV u,.fz v,.fz a,.fz G,.fz V,uV j,iV f,.fz rs,iV U,uV r,bV D,uV c,.fz h,.fz t]):=aV
structure H5(x:ke):Prop where
 q:gR x.ie
 m:Hs x.cH
 l:ze x.cH
 n:bk x.next
 k:bk x.nx
def Og(s:dm)(x:ke)(v:jg s)(m:H5 x):aS VP 12 [.agg<|dH s,.agg<|e_ x] (iV<|nl s x):=by
 have U:=IV s v;have C:=w30 x.ie x.fx m.q;have u:=w46 x.cH m.m;have T:=w47 x m.q;have F:=Ox s x.fx x.next v m.n;have V:rI x.cH=0->aS VP 49 [.bA (e_ x) 0] (iV<|xo x.cH x.fx x.nx):=λh=>w49 x m.l (alP h) m.k;unfold nl;generalize xo x.cH x.fx x.nx=e6 at*;generalize rI x.cH=A at*;generalize BI x=q at*;generalize kH x.ie x.fx=O at*;have⟨n,⟨⟨k,f,p,a,i⟩,P,S,b⟩,⟨t,Y,j,I,c,E,G,N⟩,J,next,B⟩:=x;simp only at*
 generalize gr s J next=W at*
 generalize e9 s=g at*;have⟨l,o,a0,z⟩:=s;simp only[e_,gi,bG,bg,ck,b7]at*;have b0:=acW [] n k f p a.kind a.fF a.fe (a.cy.map ed) a.name (i.map bc) P (S.map gw) (b.map e7) (t.map c8) (Y.map bQ) j I (c.map dr) E G N J (next.map λn=>[uV n])<|B.map kK;cases d:g==0;have n1:(g !=0)=aa:=by simp[bne,d]
 exact awJ;have L:g=0:=by simpa using d
 subst L;cases h2:ax (n<1)||ax (1099511627776<n);cases X:O==0;refine gO Tryz.f12.eq_1 λw y=>?_;exact Z4 @dW @cC U.aP C.aP tr;have M:O=0:=by simpa using X
 subst M;cases r:A==0;refine gO Tryz.f12.eq_1 λw y=>?_;exact Z5 @dW @cC U.aP C.aP u.aP tr;have Z:A=0:=by simpa using r
 subst Z;have V:=V aM;cases q;refine gO Tryz.f12.eq_1 λw y=>?_;exact Z6 @dW @cC U.aP C.aP u.aP T.aP tr;have e:c7 0 W=W:=rfl;rw[e]at F;cases Q:W==0;refine gO Tryz.f12.eq_1 λw y=>?_;exact Z7 @dW @cC U.aP C.aP u.aP T.aP F.aP tr;have D:W=0:=by simpa using Q
 subst D;refine gO Tryz.f12.eq_1 λw y=>?_;exact Z8 @dW @cC U.aP C.aP u.aP T.aP F.aP V.aP tr;exact awJ
def Oh(s:dm)(x:ke)(B:jg s)(c0:tz s)(h9:aA s.bw<=9)(U:H5 x):aS VP 13 [.agg<|dH s,.agg<|e_ x] (iV<|nl s x):=by
 have N:=EY s B c0 h9;rw[<-Iz s B]at N;have F:=w36 x.number;have r:=w37 x.ie x.fx U.q;have b:=w50 x.cH U.m;have m:=w38 x.ie x.cH.cap U.q;have⟨m1,m2,m3⟩:=MC U.q x.cH.cap;have Y:=w51 (iW x.ie x.cH.cap).dS x.cH.dS m1;have I:=w52 (iW x.ie x.cH.cap).eX x.cH.eX m2 m3;have g:=Oy s x.fx x.next B U.n N;have Q:=w54 x U.l U.k;have t:BI x=((mj x.ie x.cH.cap==0)&&((iW x.ie x.cH.cap).iI==x.cH.iI)&&dK fV (iW x.ie x.cH.cap).dS x.cH.dS&&dK l9 (iW x.ie x.cH.cap).eX x.cH.eX):=rfl;unfold nl;generalize xo x.cH x.fx x.nx=e6 at*;generalize rI x.cH=G at*;generalize BI x=q at*;generalize kH x.ie x.fx=O at*;generalize iW x.ie x.cH.cap=M at*;generalize mj x.ie x.cH.cap=i at*;have⟨d0,e0,J,T,i0,f,E,f0⟩:=M;have⟨n,⟨⟨k,j0,k0,a,l0⟩,m0,o0,p0⟩,⟨dS,eX,j,g0,u,h0,a0,r0⟩,X,next,b0⟩:=x;simp only at*;generalize dK fV d0 dS=q1 at*;generalize dK l9 e0 eX=q2 at*
 generalize gr s X next=W at*
 generalize e9 s=P at*;have⟨l,o,s0,z⟩:=s;simp only[e_,gi,bG,bg,ck,b7]at*;cases h:P==0;have n1:(P !=0)=aa:=by simp[bne,h]
 refine gO Tryz.f13.eq_1 λw y=>?_;exact S4 @ni N.aP h n1 tr;have L:P=0:=auF;subst L;cases p:ax (n<1)||ax (1099511627776<n);cases d:O==0;have n3:(O !=0)=aa:=by simp[bne,d]
 refine gO Tryz.f13.eq_1 λw y=>?_;exact S7 @ni N.aP F.aP p r.aP d n3 tr;have V:O=0:=by simpa using d
 subst V;cases A:G==0;have n4:(G !=0)=aa:=by simp[bne,A]
 refine gO Tryz.f13.eq_1 λw y=>?_;exact S8 @ni N.aP F.aP p r.aP b.aP A n4 tr;have Z:G=0:=by simpa using A
 subst Z;have e:c7 0 W=W:=rfl;rw[e]at g;cases v:i==0;have n6:(i !=0)=aa:=by simp[bne,v]
 rw[v]at t;have t:q=ab:=t;subst t;refine gO Tryz.f13.eq_1 λw y=>?_;exact S8 @ni N.aP F.aP p r.aP b.aP m.bE n6 tr;have S:i=0:=by simpa using v
 subst S;cases c:J==j;have C:(J !=j)=aa:=by simp[bne,c]
 rw[c]at t;have t:q=ab:=t;subst t;cases q1;exact avP;cases q2;exact avG;refine gO Tryz.f13.eq_1 λw y=>?_;exact fm @ni N.aP F.aP p r.aP b.aP m.bE Y.aP I.aP C tr;have C:(J !=j)=ab:=by simp[bne,c]
 rw[c]at t;cases q1;have t:q=ab:=t;subst t;exact avP;cases q2;have t:q=ab:=t;subst t;exact avG;have t:q=aa:=t;subst t;cases h5:W==0;have n5:(W !=0)=aa:=by simp[bne,h5]
 refine gO Tryz.f13.eq_1 λw y=>?_;exact bq @ni N.aP F.aP p r.aP b.aP m.bE Y.aP I.aP C g.aP n5 tr;have D:W=0:=by simpa using h5
 subst D;refine gO Tryz.f13.eq_1 λw y=>?_;exact bq @ni N.aP F.aP p r.aP b.aP m.bE Y.aP I.aP C g.aP Q.aP tr;refine gO Tryz.f13.eq_1 λw y=>?_;exact S4 @ni N.aP F.aP p tr
def Rq(h f:Int):∀N:Nat,aA ((ao N).filter λi:Nat=>decide (h<=f+(i:Int)))=N-(h-f).toNat
 |0=>aY
 |N+1=>by
  rw[wE,ry,cN,Rq h f N]
  grind
def SX{α β:Type}{f:α->List β}{p:α->Bool}:∀{l:List α},(∀x∈l,aA (f x)=if p x then 1 else 0)->aA (l.flatMap f)=aA (l.filter p)
 |[],_=>rfl
 |x::l,h=>by
  rw[kP,cN,h x ei,SX λy Q=>h y<|dR _ Q]
  grind
def Yf{r:cf}(e:eE r)(h:dY r=0):p7 r/\ eC r=(eY r r.first).map (λn=>dp r<|dq r n)/\ ∀n∈eY r r.first,(dp r<|dq r n).id.label=r.label/\ (dp r<|dq r n).id.no=n:=by
 have f:(dY r==0)=aa:=by rw[h];rfl
 unfold eC;rw[f,a8];unfold dY at h;cases V:oN r;have I:=FR e V;rw[V,br]at h;have l:=(oC h).1;have m:ey 0 r.first=r.first:=by have:=I.f1;unfold ey;rw[gu aW];rfl
 rw[m]at l;refine⟨I,by unfold oY;rw[m],λn X=>?_⟩;have:=(Gz r _ _ l).1 n X;omega;rw[V]at h;cases h
def agH{r:cf}(X:eE r)(h:dY r=0)(m:Int):aA (h8 r m)=aA ((eC r).filter λx=>decide (m<=x.id.no)):=by
 have⟨I,e,z⟩:=Yf X h;have f:(dY r==0)=aa:=by rw[h];rfl
 unfold h8;rw[f,a8,e];unfold oY;rw[bj,List.filter_map,bj];have V:((eY r r.first).filter<|(λx:bJ=>decide (m<=x.id.no))∘λn=>dp r<|dq r n)=(eY r r.first).filter λn=>decide (m<=n):=OX λn Z=>at6;rw[V];unfold eY;rw[bj,nN,List.filter_map,bj];have:=Rq m r.first (r.next-r.first).toNat;have a:aA ((ao (r.next-r.first).toNat).filter ((λn:Int=>decide (m<=n))∘λi:Nat=>r.first+(i:Int)))=aA ((ao (r.next-r.first).toNat).filter λi:Nat=>decide (m<=r.first+(i:Int))):=rfl;rw[a,this];unfold ey
 grind
def afZ{n j:Nat}{p:Nat->Bool}(u:j<n)(h:∀k,k<n->k≠j->p k=ab):aA ((ao n).filter p)=if p j then 1 else 0:=by
 have:∀n,aA ((ao n).filter λk=>decide (k=j)&&p k)=if j<n then(if p j then 1 else 0)else 0:=by
  intro n
  induction n with
  |zero=>rfl
  |succ n I=>
   rw[wE,ry,cN,I];by_cases r:n=j
   grind
   grind
 have V:=this n;rw[b8 u]at V;rw[<-V];congr 1;refine OX λk f=>?_
 grind
def R'{L:aL}(h:jV [] L=ab):∀i j (G:i<aA L) (u:j<aA L),i<j->L[i]≠L[j]:=by
 intro i j G u y e
 have:jV [] L=aa:=AT (l:=L) (done:=[]) u (by
  rw[b7]
  refine mD.2 ⟨L[i],Fx.2 ⟨i,aW,rfl⟩,by rw[e];simp⟩)
 rw[h]at this;cases this
def abb{s:dm}{c:Int}{next:aL}(B:jg s)(h:e9 s=0):aA (rj s c next)=aA (yg s c next):=by
 have n:=Iy h;unfold e9 at h;rw[kV aW,br]at h;have⟨M,h⟩:=oC h;have z:=La M;have⟨t,_⟩:=oC h;have t:jV [] (s.bw.map cf.label)=ab:=by grind
 have C:∀i j (g:i<aA s.bw) (u:j<aA s.bw),i≠j->s.bw[i].label≠s.bw[j].label:=λi j g u y e=>by
  have P:i<aA (s.bw.map cf.label):=by rw[bj];exact g
  have G:j<aA (s.bw.map cf.label):=by rw[bj];exact u
  rcases Nat.lt_or_gt_of_ne y with h|h
  exact R' t i j P G h (by rw[fK,fK];exact e);exact R' t j i G P h (by rw[fK,fK];exact e.symm)
 have d:∀r∈s.bw,dY r=0:=λr o=>z _<|Cq o
 have X:∀j (u:j<aA s.bw),aA ((eC s.bw[j]).flatMap λx=>rV s c next x (aA s.bw))=if below s.bw[j].label c then aA (h8 s.bw[j]<|ef next j)else 0:=λj u=>by
  have Y:=bD u;have⟨I,e,L⟩:=Yf (B.2 _ Y)<|d _ Y;have l:∀x∈eC s.bw[j],x.id.label=s.bw[j].label:=λx U=>by grind
  rw[agH (B.2 _ Y)<|d _ Y]
  rw[SX (p:=λx=>below s.bw[j].label c&&ax (ef next j<=x.id.no)) λx U=>by
   unfold rV
   rw[bj,afZ u λk f V=>by
    unfold wU
    grind]
   unfold wU
   grind]
  cases w:below s.bw[j].label c;simp;simp
 have A:∀m j,j+m=aA s.bw->aA ((((s.bw.drop j).map eC).flatten).flatMap λx=>rV s c next x (aA s.bw))=aA ((eW c j<|s.bw.drop j).flatMap λp=>h8 p.2<|ef next p.1):=by
  intro m
  induction m with
  |zero=>intro j u;rw[mZ aW];rfl
  |succ m Z=>intro j u;have G:j<aA s.bw:=aW;have:=Z (j+1) aW;rw[Ih G,fD G,cL,Ft,Cn,cN,X j G,this];cases below s.bw[j].label c;simp;simp
 have Q:=A (aA s.bw) 0 aW;rw[e6]at Q;unfold rj yg;rw[<-Q];exact((Iq<|h6 s.bw).1.flatMap_right _).length_eq
theorem F8{s:dm}{x:ke}(h:nl s x=0):e9 s=0/\ gr s x.fx x.next=0/\ rI x.cH=0:=by
 unfold nl at h
 grind
def E8(s:dm)(x:ke):Bool:=(nl s x==0)&&!x.cH.B'&&zM s x.fx x.next
def CP(s:dm)(x:ke):Nat:=bif nl s x==0 then aA (yg s x.fx x.next)else 0
section
variable(s:dm)(x:ke)(hs:jg s)(hx:H5 x)
include hs hx
theorem w14:aS VP 14 [.agg<|dH s,.agg<|e_ x] (.bn [bV<|E8 s x,iV<|nl s x]):=by
 have L:=Og s x hs hx;have F:=w55 s x.fx x.next hs hx.n;have Q:=F8 (s:=s) (x:=x);unfold E8;generalize nl s x=e at*;by_cases f:e=0;subst f;have⟨h,p,_⟩:=Q aM;have g:c7 0 0=0:=rfl;rw[h,p,g]at F;replace F:aS VP 55 [.agg<|dH s,.agg<|iR x.fx x.next] (.bn [bV<|zM s x.fx x.next,iV 0]):=F;generalize zM s x.fx x.next=q at*;have⟨n,⟨⟨k,M,B,a,W⟩,P,v,Z⟩,⟨t,Y,j,I,T,E,G,D⟩,m,next,u⟩:=x;have⟨l,o,r,z⟩:=s;simp only[e_,gi,bG,bg,ck,b7]at*;cases D;refine gO Tryz.f14.eq_1 λw y=>?_;exact S2 L.aP F.aP tr;refine gO Tryz.f14.eq_1 λw y=>?_;exact S1 L.aP tr;have U:(e==0)=ab:=aum;have i:(e !=0)=aa:=by simp[bne,U]
 rw[U,mB,mB];have⟨n,⟨⟨k,M,B,a,W⟩,P,v,Z⟩,⟨t,Y,j,I,T,E,G,D⟩,m,next,u⟩:=x;have⟨l,o,r,z⟩:=s;simp only[e_,gi,bG,bg,ck,b7]at*;refine gO Tryz.f14.eq_1 λw y=>?_;exact Z1 L.aP tr
theorem w16:aS VP 16 [.agg<|dH s,.agg<|e_ x] (.bn [iV<|CP s x,iV<|nl s x]):=by
 have A:=Og s x hs hx;have⟨L,j,N⟩:=w57 s x.fx x.next hs hx.n;have Q:=F8 (s:=s) (x:=x);unfold CP;generalize nl s x=e at*;by_cases f:e=0;subst f;have⟨h,p,_⟩:=Q aM;have g:c7 0 0=0:=rfl;rw[h,p,g]at N j;have c:((0:Int)==0)=aa:=rfl;rw[c,a8,<-j rfl];clear j;have⟨n,⟨⟨k,M,F,a,W⟩,P,v,Z⟩,⟨t,Y,D,I,T,E,G,O⟩,m,next,u⟩:=x;have⟨l,o,r,z⟩:=s;simp only[e_,gi,bG,bg,ck,b7]at*;refine gO Tryz.f16.eq_1 λw y=>?_;exact S2 A.aP N.bE tr;have U:(e==0)=ab:=aum;have i:(e !=0)=aa:=by simp[bne,U]
 rw[U,br];have⟨n,⟨⟨k,M,F,a,W⟩,P,v,Z⟩,⟨t,Y,D,I,T,E,G,O⟩,m,next,u⟩:=x;have⟨l,o,r,z⟩:=s;simp only[e_,gi,bG,bg,ck,b7]at*;refine gO Tryz.f16.eq_1 λw y=>?_;refine Z1 A.aP ?_;rfl
theorem w15(D:tz s)(M:aA s.bw<=9):aS VP 15 [.agg<|dH s,.agg<|e_ x] (.bn [bV<|E8 s x,iV<|nl s x]):=by
 have S:=Oh s x hs D M hx;have N:=w56 s x.fx x.next hs D M hx.n;have Q:=F8 (s:=s) (x:=x);have W:=abb (s:=s) (c:=x.fx) (next:=x.next) hs;unfold E8;rw[<-Iz s hs]at N;generalize nl s x=e at*;by_cases f:e=0;subst f;have⟨h,p,_⟩:=Q aM;have g:c7 0 0=0:=rfl;rw[h,p,g]at N;have G:(ax (0<uq s x.fx x.next)||ax (0<aA (rj s x.fx x.next)))=zM s x.fx x.next:=by rw[W h,Bool.or_comm];rfl
 replace N:aS VP 56 [.agg<|dH s,.agg<|iR x.fx x.next] (.bn [bV<|ax (0<uq s x.fx x.next)||ax (0<aA (rj s x.fx x.next)),iV 0]):=N;rw[G]at N;clear G W;generalize zM s x.fx x.next=q at*;have⟨n,⟨⟨k,A,F,a,B⟩,P,v,Z⟩,⟨t,Y,j,I,T,E,i,O⟩,m,next,u⟩:=x;have⟨l,o,r,z⟩:=s;simp only[e_,gi,bG,bg,ck,b7]at*;cases O;refine gO Tryz.f15.eq_1 λw y=>?_;exact S2 S.aP N.aP tr;refine gO Tryz.f15.eq_1 λw y=>?_;exact S1 S.aP tr;have U:(e==0)=ab:=aum;have d:(e !=0)=aa:=by simp[bne,U]
 rw[U,mB,mB];have⟨n,⟨⟨k,A,F,a,B⟩,P,v,Z⟩,⟨t,Y,j,I,T,E,i,O⟩,m,next,u⟩:=x;have⟨l,o,r,z⟩:=s;simp only[e_,gi,bG,bg,ck,b7]at*;refine gO Tryz.f15.eq_1 λw y=>?_;exact Z1 S.aP tr
theorem w17(D:tz s)(M:aA s.bw<=9):aS VP 17 [.agg<|dH s,.agg<|e_ x] (.bn [iV<|CP s x,iV<|nl s x]):=by
 have S:=Oh s x hs D M hx;have A:=w58 s x.fx x.next hs D M hx.n;have Q:=F8 (s:=s) (x:=x);have W:=abb (s:=s) (c:=x.fx) (next:=x.next) hs;unfold CP;rw[<-Iz s hs]at A;generalize nl s x=e at*;by_cases f:e=0;subst f;have⟨h,p,_⟩:=Q aM;have g:c7 0 0=0:=rfl;rw[h,p,g]at A;have E:((0:Int)==0)=aa:=rfl;replace A:aS VP 58 [.agg<|dH s,.agg<|iR x.fx x.next] (.bn [.fz<|df<|rj s x.fx x.next,iV 0]):=A;rw[E,a8,<-W h];clear W;generalize rj s x.fx x.next=L at*;have⟨n,⟨⟨k,F,B,a,d⟩,P,v,Z⟩,⟨t,Y,j,I,T,X,G,O⟩,m,next,u⟩:=x;have⟨l,o,r,z⟩:=s;simp only[e_,gi,bG,bg,ck,b7]at*;refine gO Tryz.f17.eq_1 λw y=>?_;exact S2 S.aP A.bE tr;have U:(e==0)=ab:=aum;have i:(e !=0)=aa:=by simp[bne,U]
 rw[U,br];have⟨n,⟨⟨k,F,B,a,d⟩,P,v,Z⟩,⟨t,Y,j,I,T,X,G,O⟩,m,next,u⟩:=x;have⟨l,o,r,z⟩:=s;simp only[e_,gi,bG,bg,ck,b7]at*;refine gO Tryz.f17.eq_1 λw y=>?_;refine Z1 S.aP ?_;rfl
end
mutual
def Rs:∀(d:Nat) (n:ba),eL d n<=40->(lv n:Int)<=eL d n
 |0,n,h=>by rw[eL]at h;omega
 |d+1,.mk k M F a W,h=>by rw[eL]at h|-;split at h;omega;rename_i c;rw[cG c];have:=Rt d W 1 aW h;rw[lv];omega
def Rt(d:Nat):∀(W:List ba) (s:Int),0<=s->W.foldl (λs k=>if s<=40 then s+eL d k else s) s<=40->s+(l7 W:Int)<=W.foldl (λs k=>if s<=40 then s+eL d k else s) s
 |[],s,_,h=>by simp[l7]
 |k::W,s,Q,h=>by
  simp only[gn]at h|-;have u:∀(l:List ba) (s:Int),s<=l.foldl (λs k=>if s<=40 then s+eL d k else s) s:=λl=>by
   induction l with
   |nil=>intro s;exact rq _
   |cons a l I=>intro s;rw[gn];refine Int.le_trans ?_<|I _;split;have:=(Cd d a).1;omega;exact rq _
  have B:s<=40:=by
   have V:=u W<|if s<=40 then s+eL d k else s
   by_cases B:s<=40;exact B;rw[cG B]at V h;omega
  rw[b8 B]at h|-;have p:=u W<|s+eL d k;have X:=(Cd d k).1;have V:=Rt d W _ aW h;have Z:eL d k<=40:=aW;have A:=Rs d k Z;rw[l7];omega
end
def aa_(d:Nat):∀(W:List ba) (s:Int),0<=s->W.foldl (λs k=>if s<=40 then s+eL d k else s) s<=40->∀k∈W,eL d k<=40
 |[],s,_,_=>λk f=>by cases f
 |k::W,s,Q,h=>by
  simp only[gn]at h;have B:s<=40:=by by_cases B:s<=40;exact B;rw[cG B,GK W s aW]at h;omega
  rw[b8 B]at h;have X:=(Cd d k).1;have f:s+eL d k<=40:=by by_cases f:s+eL d k<=40;exact f;rw[GK W _ aW]at h;omega
  intro q M
  rcases dz.1 M with rfl|M
  omega;exact aa_ d W _ aW h q M
def Wj:∀(d:Nat) (n:ba),eL d n<=40->dt n
 |0,n,h=>by rw[eL]at h;omega
 |d+1,.mk k M F a W,h=>by rw[eL]at h;split at h;omega;rename_i c;rw[dt];exact⟨auQ,auQ,λk f=>Wj d k<|aa_ d W 1 aW h k f⟩
structure I6(s:dm)(x:ke):Prop where
 sb:∀r∈s.bw,eE r
 tb:tz s
 lb:k7 x.cH.dS
 rb:∀r∈x.cH.eK,0<=r.blocked/\ r.blocked<18446744073709551616
 wb:0<=x.cH.iI
def Xx{q:cR}(h:tc q=aa):gR q:=by unfold tc at h;simp only[bW,c_]at h;have V:=h.1.1.1.1;have:=Rs 8 q.bt V;refine⟨⟨Wj 8 _ V,?_,?_⟩,aW⟩;have:=h.1.1.1.2;exact auQ;have:=h.1.1.2;exact auQ
def x_K{s:dm}{x:ke}(h:I6 s x)(l:Bu s x=aa):aA s.bw<=9/\ jg s/\ xT x/\ H5 x:=by
 unfold Bu at l;simp only[bW,c_,kt]at l;have⟨⟨⟨⟨⟨⟨⟨⟨⟨V,p⟩,d⟩,j⟩,W⟩,Y⟩,c⟩,C⟩,u⟩,q⟩:=l;have Z:∀t∈x.cH.dS,aA t.be<=20/\ aA t.bN.bH<=5:=λt D=>by have:=C t D;simpa only[By,bW,c_]using this
 have G:∀a∈x.cH.eX,bk a.cy:=λa J=>by have:=u a J;simp only[Bz,bW,c_]at this;exact auQ
 have b:∀r∈x.cH.eK,aA r.b_<=14:=λr A=>by have:=q r A;simpa only[BA,c_]using this
 have M:=Xx p;have w:VS x.cH:=⟨⟨auQ,λt D=>⟨by have:=(Z t D).2;exact auQ,by have:=(Z t D).1;exact auQ⟩⟩,⟨auQ,G⟩,auQ,λr A=>by have:=b r A;exact auQ⟩;have n:bk x.next:=auQ;have f:bk x.nx:=auQ;refine⟨V,⟨auQ,h.sb⟩,⟨M.1,w,n,f⟩,M,⟨w.1,h.lb,λt D=>(Z t D).1,⟨w.2.1.1,λa J=>?_⟩,w.2.2.1,λr A=>⟨w.2.2.2 r A,h.rb r A⟩,h.wb⟩,⟨W,b⟩,n,f⟩;rw[dt];exact⟨G a J,by unfold bk;simp,λk f=>by cases f⟩
abbrev yA(n:Int)(q:cR)(c cap:Int):List VV:=iV n::(bG q++[uV c,iV cap])
def w6:aS VP 6 [] (bV aa):=Xe (g:=CM) aX aM
def amI{s:dm}{n:Int}{q:cR}{c cap:Int}(u:aA s.bw<=9)(M:gR q):xT (we s n q c cap):=by
 have z:∀{α:Type},bk ([]:List α):=λ{α}=>by unfold bk;simp
 unfold we;cases qb s n q c cap==0;rw[br];unfold Fc;refine⟨⟨?_,z,z⟩,⟨⟨z,λt D=>by cases D⟩,⟨z,λa b=>by cases b⟩,z,λr x=>by cases x⟩,z,z⟩;rw[dt];exact⟨z,z,λk f=>by cases f⟩;rw[a8];have⟨h,p,d⟩:=MC M cap;refine⟨M.1,⟨h,⟨p,d⟩,?_,?_⟩,?_,z⟩;unfold iW;cases mj q cap==0<;>exact z;unfold iW;cases mj q cap==0<;>exact λr x=>by cases x
 unfold bk;exact auC
def w3(s:dm)(x:ke)(n:Int)(q:cR)(c cap:Int)(h:I6 s x):aS VP 3 [.agg<|dH s,.agg<|e_ x,.agg<|yA n q c cap] (bV aa):=by have I:=w4 s x;have i:=w5 q;have F:=w6;cases P:Bu s x;rw[P]at I;obtain⟨g0,O,L,h0,N,J,E,C,rfl⟩:=qC q;have⟨i0,⟨⟨k,j0,k0,a,l0⟩,m0,o0,p0⟩,⟨t,Y,j,v,T,X,G,r0⟩,W,next,u⟩:=x;have⟨l,o,s0,z⟩:=s;simp only[yA,e_,gi,bG,bg,ck,b7]at*;refine gO Tryz.f3.eq_1 λw y=>?_;exact S2 I.aP F.aP tr;rw[P]at I;cases Z:tc q;rw[Z]at i;obtain⟨g0,O,L,h0,N,J,E,C,rfl⟩:=qC q;have⟨i0,⟨⟨k,j0,k0,a,l0⟩,m0,o0,p0⟩,⟨t,Y,j,v,T,X,G,r0⟩,W,next,u⟩:=x;have⟨l,o,s0,z⟩:=s;simp only[yA,e_,gi,bG,bg,ck,b7]at*;refine gO Tryz.f3.eq_1 λw y=>?_;exact S3 I.aP i.aP F.aP tr;rw[Z]at i;have⟨M,Q,U,m⟩:=x_K h P;have A:=Xx Z;have t0:=amI (s:=s) (n:=n) (c:=c) (cap:=cap) M A;have g7:=w7 x U;have g8:=w8 s n q c cap Q A;have g9:=w9 q A.1;have p:=w10 s n q c cap Q h.tb M A;have b:=YE _ t0;have f:=YE _ U;have S:=Og s x Q m;have g:=Oh s x Q h.tb M m;have d:=w14 s x Q m;have r:=w15 s x Q m h.tb M;have V:=w16 s x Q m;have a0:=w17 s x Q m h.tb M;generalize nl s x=e at*;generalize E8 s x=G0 at*;generalize CP s x=H0 at*;generalize qb s n q c cap=I0 at*;generalize we s n q c cap=x0 at*;clear h m A t0 P Z M Q U;obtain⟨g0,O,L,h0,N,J,E,C,rfl⟩:=qC q;have⟨i0,⟨⟨k,j0,k0,a,l0⟩,m0,o0,p0⟩,⟨t,Y,j,v,T,X,G,r0⟩,W,next,u⟩:=x;have⟨y0,⟨⟨k2,z0,A0,a2,B0⟩,C0,D0,E0⟩,⟨D,B,u0,b0,c0,v0,d0,F0⟩,w0,e0,f0⟩:=x0;have⟨l,o,s0,z⟩:=s;simp only[yA,e_,gi,bG,bg,ck,b7]at*;refine gO Tryz.f3.eq_1 λw y=>?_;refine bq I.aP i.aP F.aP g7.bE g8.bE g9.bE p.bE b.aP f.aP S.aP g.aP (an d.aP<|an r.aP<|an V.aP a0.aP) ?_;simp only[ve,uO]
end Go.Proofs.YtgdldhogfmambaaGreatDoor
namespace Go.Proofs.YtgdldhogfmambaaGreatDoor.Ck
open Go Go.Dt Go.Dt.Vm
set_option maxRecDepth 100000
set_option maxHeartbeats 4000000
def oc:List Nat:=[253,254,255,256,257,258]
def tV:List AV:=oc.map λg=>.func (.func g) [] []
noncomputable def A9:Code:=match Tryz.f139.body with
 |ad (.seq a _)=>a
 |_=>.skip
noncomputable def B9:Code:=match Tryz.f139.body with
 |ad (.seq _<|.scope<|.seq b _)=>b
 |_=>.skip
noncomputable def R9:Code:=match Tryz.f139.body with
 |ad (.seq _<|.scope<|.seq _<|.seq _ r)=>r
 |_=>.skip
def ux:Oper:={dst:=ad 6,op:=.makeFunc (Fn.func 197) #[] #[.tmp 3,.tmp 2],type:=1,pos:= "wellformed.go:138",after:=#[],guard:=ae}
def xI:Oper:={dst:=ae,op:=.defer {callee:=.value<|.tmp 6,args:=#[],argTypes:=#[]},type:=0,pos:= "wellformed.go:138",after:=#[{on:=0,ground:=Ground.data}],guard:=ae}
def c9:Tryz.f139.body=ad (.seq A9<|.scope<|.seq B9<|.seq (.region 2 #[ux,xI] ab) R9):=rfl
def Sz:bO.func 139=ad Tryz.f139:=aV
def K_:bO.func 197=ad Tryz.f197:=aV
def afH:bO.func 198=ad Tryz.f198:=aV
def alw:bO.pure 139=ab:=aV
def alx:bO.pure 198=ab:=aV
def adE:Vm.hK bO 139=aa:=aV
def adF:Dt.hK bO 197=aa:=aV
def Q8:Dt.hK bO 198=aa:=aV
def PO(n:Nat):PW bO 55 n=.ok (.aR n 0,.cells [bY .i64 0] 55 aa 1):=aV
def apA:size bO 35=.ok 12:=aV
def apB:size bO 55=.ok 1:=aV
def Hg:Hb bO 55=aa:=aV
def ai_:Hb bO 232=aa:=aV
def ab0:JN bO 35 12=aa:=aV
def adl(n:Nat):F5 bO 300 6 [(0,.func (.func 253) [] []),(1,.func (.func 254) [] []),(2,.func (.func 255) [] []),(3,.func (.func 256) [] []),(4,.func (.func 257) [] []),(5,.func (.func 258) [] [])] n=.ok (.slice n 0 6 (ad 6) 1,.cells tV 232 aa 1):=aV
def ajj(n:Nat)(c:Option Nat):nz bO 300 (.slice n 0 6 c 1)=.ok (bY .i64 6):=aV
def DT{k:Nat}(h:k<=6):k=0\/ k=1\/ k=2\/ k=3\/ k=4\/ k=5\/ k=6:=aW
def VE{k:Nat}(h:k<=6)(q:Bool):Go.Dt.binOp bO .lss 3 (bY .i64 k) (bY .i64 6) q=.ok (cO<|ah k 6):=av5
def ad9{k:Nat}(h:k<=6)(q:Bool):Go.Dt.binOp bO .add 3 (bY .i64 k) (bY .i64 1) q=.ok (bY .i64 (k+1:Nat)):=av5
def ix9{k:Nat}(h:k<6)(n:Nat)(c:Option Nat):indexAddr bO 300 (.slice n 0 6 c 1) (bY .i64 k)=.ok (.aR n k):=by rcases DT (Jw h)with h|h|h|h|h|h|h<;>subst h<;>first|omega|kernel_rfl
def MA(n:Int)(q:Bool):Go.Dt.binOp bO .neq 55 (bY .i64 n) (bY .i64 0) q=.ok (cO<|n !=0):=by show hP .neq .i64 .i64 n 0=_;exact at6
def at9{k:Nat}(h:k<6):J5 tV k=.ok (.func (.func<|oc.getD k 0) [] []):=av2
def dr9{k:Nat}(h:k<6):oc.drop k=oc.getD k 0::oc.drop (k+1):=av2
def Iu{σ:St}{b:Nat}{v:AV}{e sz:Nat}(n:Int)(P:b<σ.n)(h:σ.a7 b=.cells [v] e aa sz):wt bO σ 55 (.aR b 0) (bY .i64 n)=.ok (σ.set b<|.cells [bY .i64 n] e aa sz):=by have x:(bY .i64 n).cells=[bY .i64 n]:=rfl;unfold wt;simp only[ca,aO,apB,x,sA,dj];unfold Dt.storeCells;simp only[b8 P,h];rfl
def abC(σ:St):dw bO 198 [] σ=.ok (.ret<|.slice σ.n 0 6 (ad 6) 1,σ.push<|.cells tV 232 aa 1):=by
 have:pE (dw bO 198 [] σ) λr z=>r=.slice σ.n 0 6 (ad 6) 1/\ z=σ.push (.cells tV 232 aa 1):=by refine OA 198 Tryz.f198 2 afH alx aM aM aY ?_;simp(disch:=first|decide|omega)only[Tryz.f198,Option.getD,xm,sZ,y6,y7,xl,y8,tu,tt,BH,Ef,HC,Dt.rU,Dt.tB,Dt.Z_,IN,Dt.Bg,Dt.Bf,cL,i_,adl,nU,aO,xq,xr,vJ,lf,ou,pf,jL,FE];exact at6
 obtain⟨v,z,h,rfl,rfl⟩:=this;exact h
structure Ow(n0:Nat)(cs:List AV)(v:AV)(σ:St):Prop where
 wf:aA σ.l=σ.n
 n:n0+4<=σ.n
 q:σ.a7 n0=.cells cs 35 aa 12
 r:∃u,σ.a7 (n0+1)=.cells [u] 55 aa 1
 t:σ.a7 (n0+2)=.cells [v] 55 aa 1
 f:σ.a7 (n0+3)=.cells tV 232 aa 1
section
variable{E:Vm.cI}{X K F:Nat->Prop}{σ0:St}
structure Lc(E:Vm.cI)(X K F:Nat->Prop)(σ0:St)(y:List<|List VV)(X' K':Nat->Prop)(σ:St):Prop where
 n:σ0.n+4<=σ.n
 M:σ.M=σ0.M
 dO:E.dO y X' K' σ
 xx:∀b,X b->X' b
 xn:∀b,X' b->b<σ.n/\ (X b\/ σ0.n+4<=b)
 kn:∀b,K' b->b<σ.n/\ ¬X' b/\ (K b\/ (¬E.D8/\ (F b\/ σ0.n+4<=b)))
 fN:∀b,b<σ0.n->¬X b->σ.a7 b=σ0.a7 b
def Lc.call(T:∀b,X b->b<σ0.n)(W:∀b,F b->b<σ0.n/\ ¬X b)(q:∀b,K b->b<σ0.n/\ ¬X b){y y':aB}{X' K':aE}{σ:St}(h:Lc E X K F σ0 y X' K' σ){cs:aD}{v:AV}(o:Ow σ0.n cs v σ){m:aE}{σ':St}(k:Fz E X' σ y' m (KN E K' F σ m σ') σ'):
 Lc E X K F σ0 y' m (KN E K' F σ m σ') σ'/\ Ow σ0.n cs v σ':=by
 have z:∀b,b<σ.n->¬X' b->¬m b:=λb e x a=>by
  rcases(k.xn b a).2 with d|d
  exact x d;omega
 have B:∀b,σ0.n<=b->b<σ0.n+4->σ'.a7 b=σ.a7 b:=λb h1 a=>k.fN b (by have:=h.n;omega) λx=>by
  rcases(h.xn b x).2 with d|d
  have:=T b d;omega;omega
 have r:=h.n;have kn:=k.n;refine⟨⟨aW,k.M.trans h.M,k.dO,λb e=>k.xx b<|h.xx b e,λb e=>?_,λb e=>?_,λb e x=>?_⟩,k.wf,aW,by rw[B _ aW aW];exact o.q,by rw[B _ aW aW];exact o.r,by rw[B _ aW aW];exact o.t,by rw[B _ aW aW];exact o.f⟩;refine⟨(k.xn b e).1,?_⟩
 rcases(k.xn b e).2 with h1|h1
 exact(h.xn b h1).2;right;omega
 rcases e with e|⟨Y,e⟩
 have⟨h1,a,d⟩:=h.kn b e
 grind
 rcases e with e|⟨h1,a,d⟩
 have:=(W b e).1;refine⟨aW,z b aW λx=>?_,.inr ⟨Y,.inl e⟩⟩
 rcases(h.xn b x).2 with d|d
 exact at6;omega
 grind
 rw[k.fN b aW λi=>?_,h.fN b e x]
 rcases(h.xn b i).2 with d|d
 exact x d;omega
def Lc.set(L:E.n0<=σ0.n)(T:∀b,X b->b<σ0.n)(S:∀b,F b->b<σ0.n/\ ¬X b)(k:∀b,K b->b<σ0.n/\ ¬X b){y:aB}{X' K':aE}{σ:St}(h:Lc E X K F σ0 y X' K' σ)(P:aA σ.l=σ.n)(b:Nat)(h1:σ0.n<=b)(a:b<σ0.n+4)(o:AO):Lc E X K F σ0 y X' K' (σ.set b o):=by
 have r:=h.n;have s:∀c,c≠b->(σ.set b o).a7 c=σ.a7 c:=λc Q=>kZ aW<|hG Q;refine⟨h.n,h.M,?_,h.xx,h.xn,h.kn,λc Q x=>by rw[s c aW];exact h.fN c Q x⟩;refine E.jN _ _ _ _ σ _ h.dO (bu _) (by simp[St.set,P]) (λc Q W=>s c ?_) aM λ_ h=>h
 rcases W with d|d|d
 omega
 rcases(h.xn c d).2 with A|A
 have:=T c A;omega;omega
 rcases(h.kn c d).2.2 with A|⟨_,A|A⟩
 have:=(k c A).1;omega;have:=(S c A).1;omega;omega
end
def aiG{ρ:Type}{D:a_}{g:iZ}{J:i6}{N:Nat}(i:Nat)(k:K ρ)(T:Rg)(σ:St):gd D g J N (.label i) k T σ=k.bI T σ:=bL aM
def adL(σ:St):yC bO (dw bO) (fI bO) (.func (.func 198) [] []) [] σ=dw bO 198 [] σ:=by first|exact Dt.Ax _ _ _ Q8|exact Dt.Ax _ _ _ _ Q8
def Ev{N:Nat}{T:Rg}{v:AV}:cZ N T ae v=T:=rfl
def z9:((0:Nat)=1)=False:=aT
def tk9{cs:aD}(h:aA cs=12):fO cs 0 12=.ok cs:=by unfold fO;rw[e6,eM aW,b8 h]
section
variable{E:Vm.cI}{X K F:Nat->Prop}{σ0:St}
def amR{c:Vm.VC}(i0:lV bO c){xs:aC}{an:cV}{y y':aB}{r:VV}{cs:aD}(j0:aA cs=12)(x:nk c.z xs an oc y=.ok (r,y'))(k0:E.iN=an)(l0:E.D=bO)(hn:E.n0<=σ0.n)(m0:bO.gx<=σ0.n)
 (V:∀b,X b->b<σ0.n)(U:∀b,K b->b<σ0.n/\ ¬X b)(S:∀b,F b->b<σ0.n/\ ¬X b)(o0:GL bO F σ0)(p0:RL σ0 F E.L LU xs [.agg cs]){T:Rg}{σ:St}(z:σ.n=σ0.n+3)(t:Ow σ0.n cs (bY .i64 0)<|σ.push<|.cells tV 232 aa 1)(j:Lc E X K F σ0 y X K<|σ.push<|.cells tV 232 aa 1)
 (J:T 1=.aR σ0.n 0)(W:T 2=.aR (σ0.n+1) 0)(C:T 3=.aR (σ0.n+2) 0):
 rA (gd bO (dw bO) (fI bO) 20 R9 ui T σ) λo=>∃T' σ' X' K' n,o=.ret T' σ'/\ r=.aN (.int .i64 n)/\ T' 2=.aR (σ0.n+1) 0/\ T' 3=.aR (σ0.n+2) 0/\ Ow σ0.n cs (bY .i64 n) σ'/\ Lc E X K F σ0 y' X' K' σ':=by
 simp(disch:=first|decide|omega)only[R9,Tryz.f139,xm,sZ,y6,y7,xl,y8,aiG,aiH,tu,tt,BH,Wr,akS,Dt.rU,Dt.tB,Dt.Z_,Od,i_,adL,abC,z,nU,ts,xq,xr,pf,jL,ajj];refine rA.loop (λm T σ=>∃k X' K' B,m=6-k/\ k<=6/\ T 1=.aR σ0.n 0/\ T 2=.aR (σ0.n+1) 0/\ T 3=.aR (σ0.n+2) 0/\ T 7=.slice (σ0.n+3) 0 6 (ad 6) 1/\ T 8=bY .i64 6/\ T 9=bY .i64 (k:Nat)/\ Ow σ0.n cs (bY .i64 0) σ/\ Lc E X K F σ0 B X' K' σ/\ nk c.z xs an (oc.drop k) B=.ok (r,y'))
  (λo=>∃T σ X' K' n,o=.exit 0 T σ/\ r=.aN (.int .i64 n)/\ T 2=.aR (σ0.n+1) 0/\ T 3=.aR (σ0.n+2) 0/\ Ow σ0.n cs (bY .i64 n) σ/\ Lc E X K F σ0 y' X' K' σ) 6 ?_ ?_ ?_
 refine⟨0,X,K,y,aM,kQ _,?_,?_,?_,?_,?_,?_,t,j,x⟩<;>simp(disch:=first|decide|omega)only[pf,jL,J,W,C,Int.natCast_zero]<;>rfl
 ·rintro m T σ ⟨k,X',K',B,rfl,f0,J,W,C,t7,w,t9,t,j,Q⟩;have g:=t.n
  cases e:ah k 6 with
  |false=>
   have:k=6:=by
    have:¬k<6:=λh=>by rw[show ah k 6=aa from at2]at e;cases e
    omega
   subst this;simp(disch:=first|decide|omega)only[xm,sZ,y6,y7,xl,y8,UO,tu,tt,Dt.Eg,Dt.rU,Dt.tB,w,t9,VE<|bu 6,nU,xq,xr,U',pf,jL,C5,AK,e,UN,JA];cases Q;exact⟨_,_,X',K',0,aM,aM,avu,avv,t,j⟩
  |true=>
   have v:k<6:=by have:=e;simp only[ah,dh]at this;omega
   rw[dr9 v]at Q
   change aO (c.z (oc.getD k 0) xs an B) (λp=>match DE p.1 with
    |some n=>bif n==0 then nk c.z xs an (oc.drop<|k+1) p.2 else .ok p
    |none=>.error "")=_ at Q
   rw[bF]at Q;have⟨⟨r0,Z⟩,h1,Y⟩:=Q;have⟨s,N⟩:=i0 _ _ _ _ _ _ h1;have A:∃n,r0=.aN (.int .i64 n):=by simp only at Y;unfold DE at Y;split at Y;rename_i G;split at G;exact avb;cases G;cases Y
   obtain⟨n,rfl⟩:=A;have L:∀b,F b->(b<σ.n/\ ¬X' b)/\ σ.a7 b=σ0.a7 b:=λb e=>by
    have:=S b e;refine⟨⟨aW,λs0=>?_⟩,j.fN b this.1 this.2⟩
    rcases(j.xn b s0).2 with G|G
    exact this.2 G;omega
   have⟨a,d,X2,e1,l1,_,r1⟩:=N E X' K' F σ [.agg cs] k0 l0 j.dO t.wf aW aW (λb e=>(j.xn b e).1) (λb e=>⟨(j.kn b e).1,(j.kn b e).2.1⟩) (λb e=>(L b e).1) (o0.mono λb e=>⟨e,(L b e).2⟩)
    (RL.mono aW (λb e g0=>⟨g0,aW,(L b g0).2⟩) (λ_ _ h=>h) _ _ p0)
   have⟨a0,D⟩:=j.call V S U t l1;have b0:=D.n;simp only[RR]at r1;obtain⟨rfl,_,_⟩:=r1;have f1:jw bO σ 35 (.aR σ0.n 0)=.ok (.agg cs):=by rw[Bq aW,t.q,ajo ab0,tk9 j0];rfl
   have f2:jw bO σ 232 (.aR (σ0.n+3) k)=.ok (.func (.func<|oc.getD k 0) [] []):=by rw[Bq aW,t.f,DV ai_,at9 v]
   have f3:=Iu (σ:=d) n aW D.t;have O:(d.set (σ0.n+2)<|.cells [bY .i64 n] 55 aa 1).l.length=(d.set (σ0.n+2)<|.cells [bY .i64 n] 55 aa 1).n:=by simp[St.set,D.wf]
   have f:=a0.set hn V S U D.wf (σ0.n+2) aW aW<|.cells [bY .i64 n] 55 aa 1;have I:∀b,b≠σ0.n+2->(d.set (σ0.n+2)<|.cells [bY .i64 n] 55 aa 1).a7 b=d.a7 b:=λb e=>kZ aW<|hG e;have q:Ow σ0.n cs (bY .i64 n) (d.set (σ0.n+2)<|.cells [bY .i64 n] 55 aa 1):=⟨O,b0,by rw[I _ aW];exact D.q,by rw[I _ aW];exact D.r,pS D.wf aW,by rw[I _ aW];exact D.f⟩;have f4:jw bO (d.set (σ0.n+2)<|.cells [bY .i64 n] 55 aa 1) 55 (.aR (σ0.n+2) 0)=.ok (bY .i64 n):=by rw[Bq (by have:=q.n;omega),q.t,DV Hg];rfl
   have c0:yC bO (dw bO) (fI bO) (.func (.func<|oc.getD k 0) [] []) [.agg cs] σ=dw bO (oc.getD k 0) [.agg cs] σ:=by
    have i:Dt.hK bO (oc.getD k 0)=aa:=s
    first|exact Dt.Ax _ _ _ i|exact Dt.Ax _ _ _ _ i
   generalize d.set (σ0.n+2) (.cells [bY .i64 n] 55 aa 1)=P at*;change(bif n==0 then nk c.z xs an (oc.drop<|k+1) Z else .ok (.aN<|.int .i64 n,Z))=_ at Y;cases d0:n !=0
   all_goals
    simp(disch:=first|decide|omega)only[xm,sZ,y6,y7,xl,y8,UO,tu,tt,Dt.Eg,Dt.rU,Dt.tB,Od,J,W,C,t7,w,t9,VE f0,nU,xq,xr,U',aiI,UP,pf,jL,C5,AK,a8,e,UN,akR,MJ,HD,Ef,BH,ix9 v,f1,f2,Wr,cL,i_,c0,e1,ts,<-show bY .i64 n=AV.aN (.int .i64 n)from aM,f3,f4,MA,ad9 f0,dj,JA,Ev,L9,z9,ff,d0]
   have h0:n=0:=by simpa using d0
   subst h0;exact⟨6-(k+1),aW,k+1,X2,_,Z,rfl,aW,by simp(disch:=first|decide|omega)only[jL,J],avu,avv,by simp(disch:=first|decide|omega)only[jL,t7],by simp(disch:=first|decide|omega)only[jL,w],by simp(disch:=first|decide|omega)only[pf],q,f,Y⟩;rw[show(n==0)=ab by simpa using d0]at Y;cases Y;exact⟨_,_,X2,_,n,aM,aM,avu,avv,q,f⟩
 rintro o ⟨T',σ',X',K',n,rfl,rfl,u2,u3,M,e0⟩;have g:=M.n;have f1:jw bO σ' 55 (.aR (σ0.n+2) 0)=.ok (bY .i64 n):=by rw[Bq aW,M.t,DV Hg];rfl
 have⟨u,t0⟩:=M.r;have f2:=Iu (σ:=σ') n aW t0;have O:(σ'.set (σ0.n+1)<|.cells [bY .i64 n] 55 aa 1).l.length=(σ'.set (σ0.n+1)<|.cells [bY .i64 n] 55 aa 1).n:=by simp[St.set,M.wf]
 have f:=e0.set hn V S U M.wf (σ0.n+1) aW aW<|.cells [bY .i64 n] 55 aa 1;have I:∀b,b≠σ0.n+1->(σ'.set (σ0.n+1)<|.cells [bY .i64 n] 55 aa 1).a7 b=σ'.a7 b:=λb e=>kZ aW<|hG e;have q:Ow σ0.n cs (bY .i64 n) (σ'.set (σ0.n+1)<|.cells [bY .i64 n] 55 aa 1):=⟨O,g,by rw[I _ aW];exact M.q,⟨_,pS M.wf aW⟩,by rw[I _ aW];exact M.t,by rw[I _ aW];exact M.f⟩;generalize σ'.set (σ0.n+1) (.cells [bY .i64 n] 55 aa 1)=P at*;simp(disch:=first|decide|omega)only[acq,UP,dj,xq,xr,xm,sZ,xl,tu,tt,MJ,HD,Dt.rU,Dt.tB,u2,u3,pf,jL,f1,f2,nU,aiF,JA,Ev];exact⟨_,P,X',K',n,aM,aM,by simp(disch:=first|decide|omega)only[jL,u2],by simp(disch:=first|decide|omega)only[jL,u3],q,f⟩
end
section
variable{E:Vm.cI}{X K F:Nat->Prop}{σ:St}
def aeH{n0:Nat}{cs:aD}{n:Int}{σ':St}(o:Ow n0 cs (bY .i64 n) σ'):gd bO (dw bO) (fI bO) 3 (sK bO 197) (vJ bO []) (mH [.aR (n0+2) 0,.aR (n0+1) 0]) σ'=.ok (.ret<|.tuple [],σ'.set (n0+1)<|.cells [bY .i64 n] 55 aa 1):=by
 have h:=o.n;have J:jw bO σ' 55 (.aR (n0+2) 0)=.ok (bY .i64 n):=by rw[Bq aW,o.t,DV Hg];rfl
 have⟨u,q⟩:=o.r;have Q:=Iu (σ:=σ') n aW q;have e:sK bO 197=Tryz.f197.body.getD .skip:=by simp[sK,K_]
 rw[e];simp(disch:=first|decide|omega)only[Tryz.f197,Option.getD,sZ,tu,tt,MJ,HD,Dt.rU,Dt.tB,CK,FP,pf,jL,J,Q,nU,Ev,vJ,lf,ou]
def x91(T:Rg)(s:St):Dt.execOp bO (cn bO T) s ux.op=.ok (.value<|.func (.func 197) [] [T 3,T 2],s):=aV
def x92(T:Rg)(s:St)(cap:aD):Dt.execOp bO (cn bO<|cZ 20 T ux.dst<|.func (.func 197) [] cap) s xI.op=.ok (.defer<|.fn (.func 197) cap [],s):=aV
def adQ{c:Vm.VC}(p0:lV bO c){xs:aC}{an:cV}{y y':aB}{r:VV}{args:aD}(q:zp 12 xs=aa)(A:nk c.z xs an oc y=.ok (r,y'))(r0:E.iN=an):wA bO 139 xs y r y' E X K F σ args:=by
 intro s0 J t0 k0 j s t l0 u0 L;unfold zp at q;split at q;rename_i W;have v0:aA W=12:=dB q;have a0:=L;simp only[RL]at L;obtain⟨a,_,rfl,P,rfl⟩:=L;simp only[RR]at P;obtain⟨V,rfl,_,b0⟩:=P;have w0:aA V=12:=by rw[RL.len b0,v0]
 obtain⟨s3,S⟩:∃s3,s3=((σ.push<|.cells V 35 aa 12).push<|.cells [bY .i64 0] 55 aa 1).push (.cells [bY .i64 0] 55 aa 1):=⟨_,aM⟩;have n3:s3.n=σ.n+3:=by rw[S];rfl
 have w3:s3.l.length=s3.n:=by rw[S];simp[St.push,t0]
 have q0:s3.a7 σ.n=.cells V 35 aa 12:=by rw[S,eP<|by show σ.n<σ.n+2;omega,eP<|by show σ.n<σ.n+1;omega,kk]
 have q1:s3.a7 (σ.n+1)=.cells [bY .i64 0] 55 aa 1:=by rw[S,eP<|by show σ.n+1<σ.n+2;omega];exact kk
 have q2:s3.a7 (σ.n+2)=.cells [bY .i64 0] 55 aa 1:=by rw[S];exact kk
 have x0:∀b,b<σ.n->s3.a7 b=σ.a7 b:=λb e=>by rw[S,eP<|by show b<σ.n+2;omega,eP<|by show b<σ.n+1;omega,eP e]
 have m0:=Iu (σ:=s3) 0 (b:=σ.n+2) aW q2;obtain⟨s4,O⟩:∃s4,s4=s3.set (σ.n+2) (.cells [bY .i64 0] 55 aa 1):=⟨_,aM⟩;have n4:s4.n=σ.n+3:=by rw[O];exact n3
 have w4:s4.l.length=s4.n:=by rw[O];simp[St.set,w3]
 have o4:∀b,b≠σ.n+2->s4.a7 b=s3.a7 b:=λb e=>by rw[O];exact kZ aW<|hG e
 have p2:s4.a7 (σ.n+2)=.cells [bY .i64 0] 55 aa 1:=by rw[O];exact pS w3 aW
 have M4:s4.M=σ.M:=by rw[O,S];rfl
 rw[<-O]at m0;have y0:Ow σ.n V (bY .i64 0) (s4.push<|.cells tV 232 aa 1):=⟨by simp[St.push,w4],by rw[zk];omega,by rw[eP aW,o4 _ aW,q0],⟨_,by rw[eP aW,o4 _ aW,q1]⟩,by rw[eP aW,p2],by rw[<-n4];exact kk⟩;have Z:∀b,b<σ.n->(s4.push<|.cells tV 232 aa 1).a7 b=σ.a7 b:=λb e=>by rw[eP aW,o4 _ aW,x0 b e]
 have z0:Lc E X K F σ y X K (s4.push<|.cells tV 232 aa 1):=⟨by rw[zk];omega,M4,E.jN _ _ _ _ σ _ J (by rw[zk];omega) (by simp[St.push,w4]) (λb e _=>Z b e) M4 λ_ h=>h,λ_ h=>h,λb e=>⟨by rw[zk];have:=s b e;omega,.inl e⟩,λb e=>⟨by rw[zk];have:=(t b e).1;omega,(t b e).2,.inl e⟩,λb e _=>Z b e⟩;have c0:TE 20 (mH [.agg V]) ([.agg V]++gF (20-[AV.agg V].length)):=TE.start aY;have e1:gd bO (dw bO) (fI bO) 20 A9 ui (mH [.agg V]) σ=.ok (.bI (cZ 20 (cZ 20 (mH [.agg V]) (ad 1)<|.aR σ.n 0) (ad 2)<|.aR (σ.n+1) 0)<|(σ.push<|.cells V 35 aa 12).push<|.cells [bY .i64 0] 55 aa 1):=by simp(disch:=first|decide|omega)only[A9,Tryz.f139,sZ,tu,tt,akQ,Wq,Dt.tB,CK,adk apA,adK,nU,PO,zk,L9]
 obtain⟨p,G⟩:∃p:Rg,p=cZ 20 (cZ 20 (mH [.agg V]) (ad 1)<|.aR σ.n 0) (ad 2) (.aR (σ.n+1) 0):=⟨_,aM⟩;rw[<-G]at e1;have e2:gd bO (dw bO) (fI bO) 20 B9 ui p ((σ.push<|.cells V 35 aa 12).push<|.cells [bY .i64 0] 55 aa 1)=.ok (.bI (cZ 20 p (ad 3)<|.aR (σ.n+2) 0) s4):=by simp(disch:=first|decide|omega)only[B9,Tryz.f139,sZ,tu,tt,Wq,HD,Dt.rU,Dt.tB,Od,nU,PO,zk,<-S,pf,Ev,L9,yn,Nat.reduceAdd,m0]
 obtain⟨w,B⟩:∃w:Rg,w=cZ 20 p (ad 3) (.aR (σ.n+2) 0):=⟨_,aM⟩;rw[<-B]at e2;have t1:w 1=.aR σ.n 0:=au3;have t2:w 2=.aR (σ.n+1) 0:=au3;have t3:w 3=.aR (σ.n+2) 0:=au3;have⟨L1,d0,k1⟩:=Dt.Steps.code (ds:=[]) (rd:=ae) (fn:=139) c0<|C8 bO (dw bO) (fI bO) 20 e1;have⟨L2,e0,k2⟩:=Dt.Steps.code (ds:=[]) (rd:=ae) (fn:=139) d0<|C8 bO (dw bO) (fI bO) 20 e2;have x1:Dt.execOp bO (cn bO w) s4 ux.op=.ok (.value<|.func (.func 197) [] [.aR (σ.n+2) 0,.aR (σ.n+1) 0],s4):=by rw[<-t2,<-t3];exact x91 _ _
 have x2:Dt.execOp bO (cn bO<|cZ 20 w ux.dst<|.func (.func 197) [] [.aR (σ.n+2) 0,.aR (σ.n+1) 0]) s4 xI.op=.ok (.defer<|.fn (.func 197) [.aR (σ.n+2) 0,.aR (σ.n+1) 0] [],s4):=x92 _ _ _;have⟨L4,U,k4⟩:=Dt.Steps.defer (fn:=139) (k:=[.code R9,.inScope<|.seq B9<|.seq (.region 2 #[ux,xI] ab) R9]) (i:=2) e0 aM aM x1 x2;have f0:Dt.Steps bO (cA [] ae 139 ([.agg V]++gF (20-[AV.agg V].length)) [.code<|.seq A9<|.scope<|.seq B9<|.seq (.region 2 #[ux,xI] ab) R9]) σ (cA [.fn (.func 197) [.aR (σ.n+2) 0,.aR (σ.n+1) 0] []] ae 139 L4 [.code R9,.inScope<|.seq B9<|.seq (.region 2 #[ux,xI] ab) R9]) s4:=(Dt.Steps.seq _ _).trans<|(k1 _).trans<|(Dt.Steps.scope _).trans<|(Dt.Steps.seq _ _).trans<|(k2 _).trans<|(Dt.Steps.seq _ _).trans k4
 obtain⟨T4,C⟩:∃T4:Rg,T4=cZ 20 (cZ 20 w ux.dst<|.func (.func 197) [] [.aR (σ.n+2) 0,.aR (σ.n+1) 0]) xI.dst .undef:=⟨_,aM⟩;rw[<-C]at U;have g:∀i,i<6->T4 i=w i:=λi E0=>by rw[C];show cZ 20 (cZ 20 w (ad 6) _) ae _ i=_;rw[Ev,jL aW]
 obtain⟨o,A0,o0,z,B0,F0,n,rfl,rfl,u2,u3,M,g0⟩:=amR p0 w0 A r0 s0 k0 j s t l0 u0 a0 n4 y0 z0 ((g 1 aW).trans t1) ((g 2 aW).trans t2)<|(g 3 aW).trans t3;have x:=aeH M;have C0:=M.n;have⟨u,G0⟩:=M.r;have Y:(z.set (σ.n+1)<|.cells [bY .i64 n] 55 aa 1).l.length=(z.set (σ.n+1)<|.cells [bY .i64 n] 55 aa 1).n:=by simp[St.set,M.wf]
 have T:=g0.set k0 s l0 t M.wf (σ.n+1) aW aW<|.cells [bY .i64 n] 55 aa 1;have q5:(z.set (σ.n+1)<|.cells [bY .i64 n] 55 aa 1).a7 (σ.n+1)=.cells [bY .i64 n] 55 aa 1:=pS M.wf aW;have n5:(z.set (σ.n+1)<|.cells [bY .i64 n] 55 aa 1).n=z.n:=rfl;generalize z.set (σ.n+1) (.cells [bY .i64 n] 55 aa 1)=s5 at*;have f5:jw bO s5 55 (.aR (σ.n+1) 0)=.ok (bY .i64 n):=by rw[Bq aW,q5,DV Hg];rfl
 have Q:lf bO s5 o0 (λW=>.ok (cY.ret<|ou W,s5)) Tryz.f139.results.toList=.ok (.ret<|bY .i64 n,s5):=by show lf bO s5 o0 _ [.cell 2 55]=_;simp only[lf,u2,f5,nU,ou]
 have⟨gc,m,h0,I⟩:=anG (D:=bO) (f:=197) (args:=[.aR (σ.n+2) 0,.aR (σ.n+1) 0]) (rs:=[]) (N:=3) K_ aM aM aM aY x;have⟨H0,v,D0⟩:=rK (ds:=[.fn (.func 197) [.aR (σ.n+2) 0,.aR (σ.n+1) 0] []]) (rd:=ae) 139 R9 _ L4 s4 _ U<|C8 bO (dw bO) (fI bO) 20 A0;have⟨n9,i0⟩:=af2 (D:=bO) (fid:=139) (Q5 bO adF) K_ h0 ⟨m,I⟩ Sz v Q;have⟨m2,j0⟩:=D0 [.inScope<|.seq B9<|.seq (.region 2 #[ux,xI] ab) R9] n9 (.ret<|bY .i64 n,ae,s5) i0;have e9:dw bO 139 [.agg V] σ=.ok (.ret<|bY .i64 n,s5):=adw Sz alw c9<|f0.dC ⟨m2,j0⟩;refine⟨_,s5,B0,e9,⟨aW,Y,T.M,?_,T.xx,λb e=>⟨(T.xn b e).1,?_⟩,T.fN⟩,aM,?_⟩;refine E.jN _ _ _ _ s5 _ T.dO (bu _) Y (λ_ _ _=>rfl) aM λb e=>?_;have⟨h1,h2,d⟩:=T.kn b e
 rcases d with d|⟨I,d|d⟩
 exact .inl d;exact .inr ⟨I,.inl d⟩;exact .inr ⟨I,.inr ⟨aW,h1,h2⟩⟩
 rcases(T.xn b e).2 with h1|h1
 exact .inl h1;right;omega;simp only[RR];exact auM;cases q
end
end Go.Proofs.YtgdldhogfmambaaGreatDoor.Ck
namespace Go.Proofs.YtgdldhogfmambaaGreatDoor
open Go Go.Dt Go.Dt.Vm Ck
set_option maxRecDepth 100000
set_option maxHeartbeats 4000000
def pu6:bO.pure 6=aa:=aV
def cb6:Vm.hK bO 6=aa:=aV
def W6(σ:St):dw bO 6 [] σ=.ok (.ret<|cO aa,σ):=by refine tO.2 ⟨1,?_⟩;show lr bO (cg bO 0) 6 [] σ=_;have h:bO.tn 6=ad HK:=rfl;simp only[lr,pu6,dj,h];rfl
def acA{xs:aC}{r:VV}(h:CM xs=.ok r)(E:Vm.cI)(X K F:aE)(σ:St)(args:aD)(y:aB):wA bO 6 xs y r y E X K F σ args:=by intro p B P n k o q W G l;unfold CM at h;split at h;cases h;simp only[RL]at l;subst l;refine⟨_,σ,X,W6 σ,⟨bu _,P,aM,?_,λ_ h=>h,λb e=>⟨o b e,.inl e⟩,λ_ _ _=>rfl⟩,aM,?_⟩;exact E.jN _ _ _ _ σ _ B (bu _) P (λ_ _ _=>rfl) aM λb e=>.inl e;simp only[RR];exact auM;exact avN
def abA:yt VP:=by
 refine⟨λf g o=>?_,λf g o c z t an y r N B Q=>?_⟩;change(match yG f with|some n=>ad (yF n)|none=>bif ag f 6 then ad CM else ae)=ad g at o
 cases S:yG f with
 |none=>
  rw[S]at o;simp only at o
  cases Y:ag f 6 with
  |false=>rw[Y]at o;cases o
  |true=>rw[Y]at o;cases o;have:=dB Y;subst this;exact λt r x=>⟨cb6,acA x⟩
 |some n=>
  rw[S]at o;cases o
  rcases ad4 S with h|h|h<;>obtain⟨rfl,rfl⟩:=h<;>intro t r x
  exact⟨Rj.cb,Ks Rj FJ CB x⟩;exact⟨Rk.cb,Ks Rk FJ CB x⟩;exact⟨Ri.cb,Ks Ri FJ CB x⟩
 change(bif ag f 139 then ad (12,oc)else ae)=ad g at o
 cases Y:ag f 139 with
 |false=>rw[Y]at o;cases o
 |true=>rw[Y]at o;cases o;have:=dB Y;subst this;exact⟨adE,λE X K F σ args b=>adQ z B Q b⟩
def abB:lV bO (vW VP)/\ qq bO (vW VP):=EV abA abz
end Go.Proofs.YtgdldhogfmambaaGreatDoor
namespace Go.Proofs.YtgdldhogfmambaaGreatDoor
open Go Go.Dt Go.Dt.Vm
set_option maxRecDepth 100000
section
def Sy{α:Type}{Q:Nat->α->Prop}:∀(n:Nat),(∀i,i<n->∃a,Q i a)->∃l:List α,aA l=n/\ ∀i (h:i<aA l),Q i l[i]
 |0,_=>⟨[],aM,λi h=>auu⟩
 |n+1,h=>by
  have⟨l,V,p⟩:=Sy n λi G=>h i aW;have⟨a,J⟩:=h n<|nR _;refine⟨l++[a],by simp[V],λi G=>?_⟩;by_cases P:i<aA l;rw[Jl P];exact p i P;have:i=aA l:=by simp at G;omega
  subst this;rw[List.getElem_append_right<|bu _];simp only[Cu,m_];rw[V];exact J
def SY{α:Type}{sz:Nat}(h0:0<sz):∀{css:List (List α)} {k:Nat} {v:α},(∀c∈css,aA c=sz)->css.flatten[k]?=ad v->∃i j c,k=i*sz+j/\ j<sz/\ css[i]?=ad c/\ c[j]?=ad v
 |[],k,v,_,h=>auu
 |c::css,k,v,l,h=>by have Q:aA c=sz:=l c ei;rw[Ft]at h;by_cases f:k<sz;rw[Fu aW]at h;exact⟨0,k,c,aW,f,rfl,h⟩;rw[Jj aW]at h;have⟨i,j,d,V,a,X,A⟩:=SY h0 (λc Q=>l c<|dR _ Q) h;exact⟨i+1,j,d,by rw[wF];omega,a,X,A⟩
variable{H:Type}{e:TypeId×Value->H}{w:World}{b:Nat}{d:Bool}{n:Nat}{t:TypeId}{cs:List Value}{fs:Array Field}
def Rd(e:TypeId×Value->H)(w:World)(b:Nat)(d:Bool)(n:Nat)(t:TypeId)(cs:List Value):Prop:=∃x,DataW.trod e Tryz.prog w b (λ_=>aa) d n t cs=ad x
def Nq{a:Addr}{n:Nat}{cs:List Value}(h:w.cells? b a n=ad cs)(hn:0<n):a.spot=ae/\ aA cs=n/\ ∀i v,cs[i]?=ad v->∃B e O,w.heap[a.block]?=ad (.cells B e O)/\ B[a.off+i]?=ad v:=by
 have⟨_,V,p⟩:=World.cells?_some h;have⟨c,Z,X⟩:=a;have j:X=ae:=by have f:=p 0 aW;rw[cx aW]at f;simpa[Addr.add]using World.cell?_spot f
 subst j;refine⟨aM,V,λi v G=>?_⟩;have l:i<n:=by rw[<-V];exact(lQ.1 G).1
 have:=p i l;rw[G,abq]at this;unfold World.cell? at this;split at this;rename_i B e O P;exact⟨B,e,O,P,by simpa using this⟩;simp at this
def Ad.Wf(a:Option Addr):Ad w [.fz []] [.slice a 0 0]:=λσ ι R h=>⟨σ,ι,[.aN<|.slice a 0 0],pw.refl R h,aM,⟨trivial,trivial⟩,by cases a<;>simp[cT,cU,AV.dN,kx],λ_=>RL.gb (by simp only[RR];exact awz) RL.jd⟩
def sG{α:Type}(en:α->aC)(Pa:α->Prop){u:TypeId}{sz:Nat}(c0:Tryz.prog.underlying t=ad (.slice u))(h:Rd e w b d n t cs)
 (g:∀m cs,m<n->Rd e w b d m u cs->∃a,Pa a/\ aA (en a)=sz/\ Ad w (en a) cs)(h0:0<sz:=by decide)(Q:Tryz.prog.cellsOf u=sz:=by kernel_rfl):∃l:List α,(∀a∈l,Pa a)/\ Ad w [.fz<|l.map en] cs:=by
 have⟨x,h⟩:=h
 rcases DataW.trod_slice c0 h with⟨rfl,rfl⟩|⟨a,L,cap,f,E,n,rfl,rfl,rfl,_,d0,_,F,N,J,_⟩
 exact⟨[],λa h=>(by cases h),Ad.Wf _⟩;rw[Q]at N J;by_cases z:cap=0;have:L=0:=aW;subst z this;exact⟨[],λa h=>(by cases h),Ad.Wf _⟩;have e0:a.spot=ae:=by by_cases P:0<L;have V:=N 0 P;exact avR;have A:L=0:=aW;subst A;have⟨k1,o⟩:=J aM;have V:=o 0 aW;exact avR
 have⟨b,off,X⟩:=a;subst e0;have Y:∀i,i<L->∃q:α×List Value,Pa q.1/\ aA (en q.1)=sz/\ Ad w (en q.1) q.2/\ aA q.2=sz/\ ∀j v,q.2[j]?=ad v->∃B e fz,w.heap[b]?=ad (.cells B e fz)/\ B[off+i*sz+j]?=ad v:=λi G=>by have V:=N i G;rw[cx aW,Pr]at V;have⟨c,p,h3⟩:=V;have⟨_,o,D⟩:=Nq p h0;have⟨a,r,U,S⟩:=g n c (nR _) ⟨_,h3⟩;rw[abq]at D;exact⟨(a,c),r,U,S,o,D⟩
 have⟨l,O,I⟩:=Sy L Y;refine⟨l.map (·.1),λa f0=>?_,?_⟩;obtain⟨q,M,rfl⟩:=fv.1 f0;obtain⟨i,G,rfl⟩:=Cp.1 M;exact(I i G).1
 have:=Ad.slice (w:=w) (sz:=sz) (es:=(l.map (·.1)).map en) (css:=l.map (·.2)) (b:=b) (off:=off) (cap:=cap) aY (λi V p=>by
  have G:i<aA l:=by simpa using p
  have⟨r,U,S,p4,_⟩:=I i G;simp only[fK];exact⟨S,U,p4⟩) h0 (by simp[O];omega) (λC=>by
  have P:0<aA l:=by
   cases l with
   |nil=>simp at C
   |cons _ _=>simp
  have z:=I 0 P;obtain⟨v0,T⟩:∃v,l[0].2[0]?=ad v:=⟨_,cx<|by rw[z.2.2.2.1];exact h0⟩;have⟨B,e,fz,a0,_⟩:=z.2.2.2.2 0 v0 T;refine⟨B,e,fz,a0,λk v g0=>?_⟩
  obtain⟨i,j,c,rfl,k0,Z,W⟩:=SY h0 (λc Q=>by
   obtain⟨q,M,rfl⟩:=fv.1 Q;obtain⟨i,G,rfl⟩:=Cp.1 M
   exact(I i G).2.2.2.1) g0
  rw[hY]at Z
  cases y:l[i]? with
  |none=>rw[y]at Z;cases Z
  |some q=>
   rw[y]at Z;cases Z;obtain⟨G,rfl⟩:=lQ.1 y;have⟨b0,l0,i0,s,j0⟩:=(I i G).2.2.2.2 j v W;rw[a0]at s;cases s
   rw[<-yn];exact j0)
 simpa[O]using this
def Ad.di{v u:aC}{o s:Nat}(h1:Ad w v<|(cs.drop o).take s)(a:Ad w u<|cs.drop<|o+s):Ad w (v++u) (cs.drop o):=by have:=h1.iO a;rwa[<-ru,Jt]at this
def Gt(e:TypeId×Value->H)(w:World)(b:Nat)(d:Bool)(n:Nat)(fs:Array Field)(cs:List Value):Prop:=∀i ty o s:Nat,(fs[i]?.map λf:Field=>(f.type,f.offset))=ad (ty,o)->Tryz.prog.cellsOf ty=s->Rd e w b d (n-1) ty ((cs.drop o).take s)
def Gt.a(g:Gt e w b d n fs cs)(i ty o s:Nat)(j:(fs[i]?.map λf:Field=>(f.type,f.offset))=ad (ty,o):=by exact aM)(B:Tryz.prog.cellsOf ty=s:=by kernel_rfl):Rd e w b d (n-1) ty ((cs.drop o).take s):=g i ty o s j B
def gt(h:Rd e w b d n t cs)(X:Tryz.prog.underlying t=ad (.struct fs)):Gt e w b d n fs cs:=by
 intro i P o s j J;have⟨x,h⟩:=h;obtain⟨y,n,rfl,rfl,V,a,W⟩:=OL X h
 cases B:fs[i]? with
 |none=>rw[B]at j;cases j
 |some f=>
  rw[B]at j;cases j;have G:i<aA y:=by rw[a];exact(qm.1 B).1
  have:=W i f B;rw[cx G,J]at this;exact⟨_,this⟩
def kG{k:Nat}(h:Rd e w b d n t cs)(X:Tryz.prog.underlying t=ad (.struct fs))(f:Tryz.prog.cellsOf t=k:=by kernel_rfl):Ad w [] (cs.drop k):=by have⟨x,h⟩:=h;obtain⟨y,n,rfl,rfl,V,_⟩:=OL X h;rw[mZ aW];exact Ad.nil
def ps0(h:Rd e w b d n t cs)(X:Tryz.prog.underlying t=ad (.struct fs)):0<n:=by have⟨x,h⟩:=h;obtain⟨y,n,rfl,_⟩:=OL X h;exact Pp _
def FM{k:IntKind}(h:Rd e w b d n t cs)(X:Tryz.prog.underlying t=ad (.int k)):∃n,(Lit.int k n).wf=aa/\ Ad w [.aN<|.int k n] cs:=by have⟨x,h⟩:=h;obtain⟨n,rfl,_,P⟩:=DataW.trod_int X h;exact⟨n,P,Ad.aN aM aM<|by simp[cT,cU,AV.dN,kx]⟩
def lW(h:Rd e w b d n 3 cs):∃n,n<9223372036854775808/\ Ad w [iV n] cs:=by have⟨n,V,a⟩:=FM h Tryz.underlying3;exact⟨n,by have:=bounds_i64 V;omega,a⟩
def lY(h:Rd e w b d n 23 cs):∃n,(0<=n/\ n<18446744073709551616)/\ Ad w [uV n] cs:=by have⟨n,V,a⟩:=FM h Tryz.underlying23;exact⟨n,by have:=bounds_u64 V;omega,a⟩
def JH(h:Rd e w b d n 4 cs):∃v,Ad w [bV v] cs:=by have⟨x,h⟩:=h;obtain⟨v,rfl,_⟩:=DataW.trod_bool Tryz.underlying4 h;exact awV
def PH(h:Rd e w b d n 9 cs):∃v,Ad w [sV v] cs:=by have⟨x,h⟩:=h;obtain⟨⟨⟨v⟩⟩,rfl,_,_⟩:=DataW.trod_string (by kernel_rfl:Tryz.prog.underlying 9=ad .string) h;exact awV
def PE(h:Rd e w b d n 77 cs):∃a:nf,True/\ aA (ed a)=2/\ Ad w (ed a) cs:=by have g:=gt h Tryz.underlying77;have⟨x,_,u⟩:=lW<|g.a 0 3 0 1;have⟨y,_,s⟩:=FM (g.a 1 2 1 1) Tryz.underlying2;exact⟨⟨x,y⟩,trivial,aM,.di (o:=0) u<|.di s<|kG h Tryz.underlying77⟩
def PC(h:Rd e w b d n 75 cs):∃a:ln,True/\ aA (e7 a)=2/\ Ad w (e7 a) cs:=by have g:=gt h Tryz.underlying75;have⟨x,_,u⟩:=lW<|g.a 0 3 0 1;have⟨y,s⟩:=PH<|g.a 1 9 1 1;exact⟨⟨x,y⟩,trivial,aM,.di (o:=0) u<|.di s<|kG h Tryz.underlying75⟩
def abL(h:Rd e w b d n 79 cs):∃a:nS,True/\ aA (gw a)=4/\ Ad w (gw a) cs:=by have g:=gt h Tryz.underlying79;have⟨x,_,_,u⟩:=PC<|g.a 0 75 0 2;have⟨y,_,_,s⟩:=PE<|g.a 1 77 2 2;exact⟨⟨x,y⟩,trivial,aM,.di (o:=0) (v:=e7 x) u<|.di (v:=ed y) s<|kG h Tryz.underlying79⟩
def PD(h:Rd e w b d n 28 cs):∃a:dZ,True/\ aA (bQ a)=5/\ Ad w (bQ a) cs:=by have g:=gt h Tryz.underlying28;have⟨x,_,u⟩:=lW<|g.a 0 3 0 1;have⟨y,P⟩:=JH<|g.a 1 4 1 1;have⟨z,_,k⟩:=lY<|g.a 2 23 2 1;have⟨l,_,J⟩:=sG ed (λ_=>True) Tryz.underlying26 (g.a 3 26 3 1) λ_ _ _=>PE;have⟨s,B⟩:=PH<|g.a 4 9 4 1;exact⟨⟨x,y,z,l,s⟩,trivial,aM,.di (o:=0) u<|.di P<|.di k<|.di J<|.di B<|kG h Tryz.underlying28⟩
def abO:∀(n:Nat) {cs:List Value},Rd e w b d n 31 cs->∃a:ba,True/\ aA (bc a)=9/\ Ad w (bc a) cs:=by
 intro n
 induction n using Nat.strongRecOn with
 |_ n I=>
 intro cs h;have g:=gt h Tryz.underlying31;have⟨x,_,u⟩:=lW<|g.a 0 3 0 1;have⟨y,_,s⟩:=lW<|g.a 1 3 1 1;have⟨z,_,k⟩:=lW<|g.a 2 3 2 1;have⟨t,D,_,l⟩:=PD<|g.a 3 28 3 5;have⟨W,_,B⟩:=sG bc (λ_=>True) Tryz.underlying29 (g.a 4 29 8 1) λm cs Y h=>I m aW h;refine⟨.mk x y z t W,trivial,th _,?_⟩;rw[bg];exact .di (o:=0) u<|.di s<|.di k<|.di (v:=bQ t) l<|.di B<|kG h Tryz.underlying31
def PG(h:Rd e w b d n 35 cs):∃a:cR,aA (bG a)=12/\ Ad w (bG a) cs:=by have g:=gt h Tryz.underlying35;have⟨p,M,L,y⟩:=abO _<|g.a 0 31 0 9;have⟨c,_,s⟩:=lY<|g.a 1 23 9 1;have⟨l,_,k⟩:=sG gw (λ_=>True) Tryz.underlying32 (g.a 2 32 10 1) λ_ _ _=>abL;have⟨r,_,x⟩:=sG e7 (λ_=>True) Tryz.underlying33 (g.a 3 33 11 1) λ_ _ _=>PC;refine⟨⟨p,c,l,r⟩,by rw[bG,cN,th];rfl,?_⟩;exact .di (o:=0) y<|.di s<|.di k<|.di x<|kG h Tryz.underlying35
def JI(h:Rd e w b d n 66 cs):∃l:aL,Ad w [iL l] cs:=by
 have⟨l,_,d⟩:=sG (λn=>[iV n]) (λ_=>True) Tryz.underlying66 h λm cs _ h=>by have⟨a,_,d⟩:=lW h;exact⟨a,trivial,aM,d⟩
 exact⟨l,d⟩
def abN(h:Rd e w b d n 43 cs):∃l:aL,Ad w [uL l] cs:=by
 have⟨l,_,d⟩:=sG (λn=>[uV n]) (λ_=>True) Tryz.underlying43 h λm cs _ h=>by have⟨a,_,d⟩:=lY h;exact⟨a,trivial,aM,d⟩
 exact⟨l,d⟩
def abR(h:Rd e w b d n 70 cs):∃t:bl,t.cc<9223372036854775808/\ aA (c8 t)=6/\ Ad w (c8 t) cs:=by have g:=gt h Tryz.underlying70;have Q:=g.a 0 68 0 2;have f:=gt Q Tryz.underlying68;have⟨a,_,y⟩:=lW<|f.a 0 3 0 1;have⟨P,s⟩:=JI<|f.a 1 66 1 1;have⟨c,_,k⟩:=lW<|g.a 1 3 2 1;have⟨W,J⟩:=JI<|g.a 2 66 3 1;have⟨x,z⟩:=JH<|g.a 3 4 4 1;have⟨l,G,E⟩:=lW<|g.a 4 3 5 1;have i:Ad w ([iV a]++([iL P]++[])) ((cs.drop 0).take 2):=.di (o:=0) y<|.di s<|kG Q Tryz.underlying68;exact⟨⟨⟨a,P⟩,c,W,x,l⟩,G,aM,.di (o:=0) i<|.di k<|.di J<|.di z<|.di E<|kG h Tryz.underlying70⟩
def abQ(h:Rd e w b d n 72 cs):∃t:kv,(0<=t.blocked/\ t.blocked<18446744073709551616)/\ aA (dr t)=4/\ Ad w (dr t) cs:=by have g:=gt h Tryz.underlying72;have⟨a,_,y⟩:=lW<|g.a 0 3 0 1;have⟨O,s⟩:=JI<|g.a 1 66 1 1;have⟨x,_,k⟩:=lY<|g.a 2 23 2 1;have⟨c,Q,l⟩:=lY<|g.a 3 23 3 1;exact⟨⟨a,O,x,c⟩,Q,aM,.di (o:=0) y<|.di s<|.di k<|.di l<|kG h Tryz.underlying72⟩
def PI(h:Rd e w b d n 114 cs):∃t:bJ,0<=t.dy/\ aA (cd t)=6/\ Ad w (cd t) cs:=by have g:=gt h Tryz.underlying114;have Q:=g.a 0 112 0 2;have f:=gt Q Tryz.underlying112;have⟨a,_,u⟩:=lY<|f.a 0 23 0 1;have⟨x,_,s⟩:=lY<|f.a 1 23 1 1;have⟨c,_,k⟩:=lY<|g.a 1 23 2 1;have⟨y,D,l⟩:=lY<|g.a 2 23 3 1;have⟨z,_,B⟩:=lW<|g.a 3 3 4 1;have⟨v,_,E⟩:=FM (g.a 4 2 5 1) Tryz.underlying2;have i:Ad w ([uV a]++([uV x]++[])) ((cs.drop 0).take 2):=.di (o:=0) u<|.di s<|kG Q Tryz.underlying112;exact⟨⟨⟨a,x⟩,c,y,z,v⟩,D.1,aM,.di (o:=0) i<|.di k<|.di l<|.di B<|.di E<|kG h Tryz.underlying114⟩
def PF{α:Type}{en:α->aC}{Pa:α->Prop}{sz:Nat}:∀(n:Nat) {cs:List Value},aA cs=n*sz->(∀i,i<n->∃a,Pa a/\ aA (en a)=sz/\ Ad w (en a) ((cs.drop<|i*sz).take sz))->∃l:List α,aA l=n/\ (∀a∈l,Pa a)/\ Ad w (l.flatMap en) cs
 |0,cs,P,_=>by
  have:cs=[]:=by cases cs with
   |nil=>rfl
   |cons _ _=>simp at P
  subst this;exact⟨[],aM,λa h=>(by cases h),Ad.nil⟩
 |n+1,cs,P,h=>by
  have⟨a,J,_,d⟩:=h 0<|Pp _;rw[kb,e6]at d
  have⟨l,V,p,W⟩:=PF (en:=en) (Pa:=Pa) (sz:=sz) n (cs:=cs.drop sz) (by rw[j5,P,lU];omega) (λi G=>by
   have⟨a,J,e,d⟩:=h (i+1)<|z8 G;refine⟨a,J,e,?_⟩;rw[ru]
   rwa[lU,nQ]at d)
  refine⟨a::l,by simp[V],λb X=>?_,?_⟩
  rcases dz.1 X with rfl|X
  exact J;exact p b X;have:=d.iO W;rwa[Jt]at this
def abP(h:Rd e w b d n 151 cs):∃t:cf,(eE t/\ ∀p∈t.v',0<=p.dy)/\ aA (du t)=388/\ Ad w (du t) cs:=by
 have g:=gt h Tryz.underlying151;have⟨a,_,u⟩:=lY<|g.a 0 23 0 1;have⟨x,_,s⟩:=lW<|g.a 1 3 1 1;have⟨c,_,k⟩:=lY<|g.a 2 23 2 1;have⟨y,_,J⟩:=lY<|g.a 3 23 3 1;have⟨z,I⟩:=g.a 4 149 4 384;obtain⟨W,m,_,rfl,F,G,A⟩:=DataW.trod_array Tryz.underlying149 I
 obtain⟨l,S,q,r⟩:=PF (en:=cd) (Pa:=λt=>0<=t.dy) (sz:=6) 64 (F.trans aV) (λi P=>by
  have V:=A i P;rw[cx aW,show Tryz.prog.cellsOf 114=6 by kernel_rfl]at V
  exact PI ⟨_,V⟩)
 have B:eE ⟨a,x,c,y,l⟩:=S;refine⟨⟨a,x,c,y,l⟩,⟨B,q⟩,dF B,?_⟩;have:=Ad.di (o:=0) u<|.di s<|.di k<|.di J<|.di (v:=l.flatMap cd) r<|kG h Tryz.underlying151;rw[ea]at this;exact aw0
def atM(h:Rd e w b d n 25 cs):∃s:dm,((∀r∈s.bw,eE r)/\ tz s)/\ Ad w (dH s) cs:=by
 have g:=gt h Tryz.underlying25;have⟨l,S,u⟩:=sG du (λt=>eE t/\ ∀p∈t.v',0<=p.dy) Tryz.underlying22 (g.a 0 22 0 1) λ_ _ _=>abP;have⟨x,_,P⟩:=lY<|g.a 1 23 1 1;have⟨c,_,k⟩:=lY<|g.a 2 23 2 1;have⟨y,_,J⟩:=lY<|g.a 3 23 3 1;refine⟨⟨l,x,c,y⟩,⟨λr A=>(S r A).1,λr A p=>?_⟩,.di (o:=0) u<|.di P<|.di k<|.di J<|kG h Tryz.underlying25⟩;unfold dp
 cases M:r.v'[p]? with
 |none=>exact rq _
 |some e=>exact(S r A).2 e (nO M)
def abM(h:Rd e w b d n 42 cs):∃m:i7,(k7 m.dS/\ (∀r∈m.eK,0<=r.blocked/\ r.blocked<18446744073709551616)/\ 0<=m.iI)/\ aA (gi m)=8/\ Ad w (gi m) cs:=by have g:=gt h Tryz.underlying42;have Q:=g.a 0 38 0 1;have⟨N,L,u⟩:=sG c8 (λt=>t.cc<9223372036854775808) Tryz.underlying36 ((gt Q Tryz.underlying38).a 0 36 0 1) λ_ _ _=>abR;have⟨A,_,s⟩:=sG bQ (λ_=>True) Tryz.underlying39 (g.a 1 39 1 1) λ_ _ _=>PD;have⟨x,U,k⟩:=lY<|g.a 2 23 2 1;have⟨c,_,l⟩:=lW<|g.a 3 3 3 1;have⟨R,q,B⟩:=sG dr (λt=>0<=t.blocked/\ t.blocked<18446744073709551616) Tryz.underlying40 (g.a 4 40 4 1) λ_ _ _=>abQ;have⟨y,_,E⟩:=lW<|g.a 5 3 5 1;have⟨z,_,Z⟩:=lY<|g.a 6 23 6 1;have⟨f,F⟩:=JH<|g.a 7 4 7 1;have i:Ad w ([VV.fz<|N.map c8]++[]) ((cs.drop 0).take 1):=.di (o:=0) u<|kG Q Tryz.underlying38;exact⟨⟨N,A,x,c,R,y,z,f⟩,⟨L,q,U.1⟩,aM,.di (o:=0) i<|.di s<|.di k<|.di l<|.di B<|.di E<|.di Z<|.di F<|kG h Tryz.underlying42⟩
def atK(h:Rd e w b d n 48 cs):∃r:ke,(k7 r.cH.dS/\ (∀q∈r.cH.eK,0<=q.blocked/\ q.blocked<18446744073709551616)/\ 0<=r.cH.iI)/\ Ad w (e_ r) cs:=by
 have g:=gt h Tryz.underlying48;have X:=g.a 3 45 21 2;have⟨a,_,y⟩:=lW<|g.a 0 3 0 1;have⟨q,N,s⟩:=PG<|g.a 1 35 1 12;have⟨M,C,j,k⟩:=abM<|g.a 2 42 13 8;have⟨x,_,l⟩:=lY<|(gt X Tryz.underlying45).a 0 23 0 1;have⟨m,z⟩:=abN<|(gt X Tryz.underlying45).a 1 43 1 1;have⟨K,_,E⟩:=sG (sz:=7) kK (λ_=>True) Tryz.underlying46 (g.a 4 46 23 1) λn cs _ h=>by have⟨a,_,y⟩:=lW<|(gt h Tryz.underlying116).a 0 3 0 1;have⟨v,_,_,s⟩:=PI<|(gt h Tryz.underlying116).a 1 114 1 6;exact⟨⟨a,v⟩,trivial,aM,.di (o:=0) y<|.di (v:=cd v) s<|kG h Tryz.underlying116⟩
 have i:Ad w ([uV x]++([uL m]++[])) ((cs.drop 21).take 2):=.di (o:=0) l<|.di z<|kG X Tryz.underlying45;refine⟨⟨a,q,M,x,m,K⟩,C,?_⟩;have:=Ad.di (o:=0) y<|.di (v:=bG q) s<|.di (v:=gi M) k<|.di i<|.di E<|kG h Tryz.underlying48;exact aw0
def atJ(h:Rd e w b d n 50 cs):∃(n:Int) (q:cR) (c cap:Int),Ad w (yA n q c cap) cs:=by have g:=gt h Tryz.underlying50;have⟨a,_,y⟩:=lW<|g.a 0 3 0 1;have⟨q,_,s⟩:=PG<|g.a 1 35 1 12;have⟨x,_,k⟩:=lY<|g.a 2 23 13 1;have⟨c,_,l⟩:=lW<|g.a 3 3 14 1;exact⟨a,q,x,c,.di (o:=0) y<|.di (v:=bG q) s<|.di k<|.di l<|kG h Tryz.underlying50⟩
end
def Sf:Vm.cI where
 D:=bO
 n0:=0
 L:=0
 iN:=λ_=>.error ""
 dO:=λ_ _ _ _=>True
 jN:=λ_ _ _ _ _ _ _ _ _ _ _ _=>trivial
 tC:=λ_ _ _ _ _ _ _ _ _ _ _ _ h=>by cases h
def ME:bO.gx=1:=aV
def D9:List AV:=yw.map λs=>.aN<|.string ⟨⟨s⟩⟩
def start{V:World}{d:Array Value}{e:TypeId}{U:Nat×Nat}(X:V.heap[0]?=ad (.cells d e U))(hn:∀(i:Nat) (v:AV),D9[i]?=ad v->d[i]?=ad (aQ UE v)):
 ∃σ ι,bz bO ι σ V/\ (∀b,b<σ.n->(σ.a7 b).fG=ab)/\ bO.gx<=σ.n/\ GL bO (λb=>b<σ.n) σ:=by
 obtain⟨σ,u⟩:∃σ:St,σ={n:=1,l:=[.cells D9 e ab 1],M:=.e}:=⟨_,aM⟩;have o:σ.a7 0=.cells D9 e ab 1:=by rw[u];rfl
 have O:σ.n=1:=by rw[u]
 have r:∀(ι:Nat->Dt.bf) A,b5 ι A D9:=λι A=>by rw[jF];intro v y;obtain⟨s,_,rfl⟩:=fv.1 y;trivial
 refine⟨σ,λb=>⟨b,0,0,1⟩,⟨by rw[u];rfl,by rw[ME,O];exact auS,λg _=>⟨aM,aM⟩,λb I=>?_,λb W Q _ _ Y=>?_,λm Y=>?_⟩,λb I=>?_,by rw[ME,O];exact auS,λ_=>⟨by rw[ME];decide,by rw[O];decide,e,ab,o⟩⟩;have:b=0:=aW;subst this;rw[o];refine⟨r _ _,aM,d,U,X,λi v G=>?_,λh=>by cases h⟩;rw[bZ];have y:=hn i v G;obtain⟨s,_,rfl⟩:=fv.1<|nO G;exact y;have:b=0:=aW;subst this;rw[o]at Y;cases Y;rw[u]at Y;exact Y.elim;have:b=0:=aW;subst this;rw[o];rfl
def at0{V:World}{B:Array Value}{e:TypeId}{a0:Nat×Nat}(X:V.heap[0]?=ad (.cells B e a0))(hn:∀(i:Nat) (v:AV),D9[i]?=ad v->B[i]?=ad (aQ UE v))
 {s:dm}{x:ke}{n:Int}{q:cR}{c cap:Int}(b0:I6 s x){I z f:List Value}(h0:Ad V (dH s) I)(h1:Ad V (e_ x) z)(h2:Ad V (yA n q c cap) f):
 Calls Tryz.prog 3 #[.agg I.toArray,.agg z.toArray,.agg f.toArray] V λe U=>e=.returned (.bool aa)/\ @mY oi V U:=by
 letI:=oi;have⟨σ,ι,R,d0,C,O⟩:=start X hn;have⟨P,D,a,F,k1,r,o1,r1⟩:=h0 σ ι R d0;have⟨o,y,b,w,k2,g,o2,r2⟩:=h1 P D F.eH F.xj;have⟨G,A,d,k,k3,i3,o3,r3⟩:=h2 o y w.eH w.xj;have p:=w.trans k;have T:=F.trans p;have S:RL G (λb=>b<G.n) 0 (λ_ _=>False) (dH s) a:=RL.mono p.n (λb X _=>⟨dc X p.n,dc X p.n,p.old b X⟩) (λ_ _ h=>h) _ _<|r1 0;have j:RL G (λb=>b<G.n) 0 (λ_ _=>False) (e_ x) b:=RL.mono k.n (λb X _=>⟨dc X k.n,dc X k.n,k.old b X⟩) (λ_ _ h=>h) _ _<|r2 0;have Z:∀{J:aC} {l:aD},RL G (λb=>b<G.n) 0 (λ_ _=>False) J l->RL G (λb=>b<G.n) 0 LU J l:=λh=>RL.mono (bu _) (λb X e0=>⟨e0,X,aM⟩) (λ_ _ h=>h.elim) _ _ h;have M:RL G (λb=>b<G.n) 0 LU [.agg<|dH s,.agg<|e_ x,.agg<|yA n q c cap] [.agg a,.agg b,.agg d]:=by refine RL.gb ?_<|RL.gb ?_<|RL.gb ?_ RL.jd;simp only[RR];exact⟨a,aM,o1,Z S⟩;simp only[RR];exact⟨b,aM,o2,Z j⟩;simp only[RR];exact⟨d,aM,o3,Z<|r3 0⟩
 have Q:=w3 s x n q c cap b0 Sf.iN [];have⟨_,u⟩:=abB.1 _ _ _ _ _ _ Q;have⟨v,f0,o0,t,_,_,Y⟩:=u Sf (λ_=>False) (λ_=>False) (λb=>b<G.n) G [.agg a,.agg b,.agg d] aM aM trivial T.eH.len (kQ _) (jS C T.n) (λ_ h=>h.elim) (λ_ h=>h.elim) (λb X=>⟨X,λh=>h⟩)
  (O.mono λb X=>⟨dc X T.n,T.old b X⟩) M
 simp only[RR]at Y;obtain⟨rfl,_,_⟩:=Y;have⟨N,g0⟩:=tO.1 t;have W:b5 A (·<G.n) a:=ju (λb X=>⟨dc X p.n,p.io b X⟩) a r;have L:b5 A (·<G.n) b:=ju (λb X=>⟨dc X k.n,k.io b X⟩) b g;have m:=(@GJ oi bO Tryz.prog ap4 ap5 ap6 N).call _ _ _ _ _ g0 A V T.eH ⟨W,L,i3,trivial⟩;have i0:(bb A [.agg a,.agg b,.agg d]).toArray=#[.agg I.toArray,.agg z.toArray,.agg f.toArray]:=by simp only[bb,aQ];rw[k3,lx (λb X=>k.io b X) b g,k2,lx (λb X=>p.io b X) a r,k1]
 rw[i0]at m;intro j0;obtain⟨e,U,k0,⟨l0,rfl,_,E,_⟩,t,m0⟩:=m j0;exact⟨_,U,k0,⟨aM,E.yP T.xj⟩,t,m0⟩
