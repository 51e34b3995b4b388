/- The walks, second part: cursors, lines of a query, trees, with the laws that both sides give the same. No statement of this seat stands here, and no condition. -/
import Derived.Test.YtgdldhogfmambaaGreatDoorxE
open Bool renaming true->aa,false->ab
open Option renaming some->ad,none->ae
open And renaming intro->af
open Nat renaming beq->ag,blt->ah,ble->ai,shiftLeft->aj
open List renaming replicate->ak,range->ao,map->aq,take->ar,drop->au,length->aA
open Go.IntKind renaming wrap->av
open BitVec renaming ofInt->aw
open Decidable renaming decide->ax
open Go.Result renaming andThen_ok->ay
open Go.Sem renaming run_pure->az
set_option linter.all false
noncomputable section
namespace Go.Proofs.YtgdldhogfmambaaGreatDoor
open Go Go.Dt Go.Dt.Vm
set_option maxRecDepth 100000
set_option maxHeartbeats 4000000
def apC:size VZ.D 114=.ok 6:=aV
def agB:vv VZ.D 114 1=.ok 2:=aV
def aoa:qe VZ.D 23=.ok ae:=aV
def agh:VZ.D.func 117=ad Tryz.f117:=aV
def apH:fp VZ 117 2=aa:=aV
def aq_(a b:bJ):aS VZ 117 [.agg<|cd a,.agg<|cd b] (iV<|bif ax (a.order<b.order)then-1 else 1):=by refine GP agh apH λw y=>?_;exact S4 Tryz.f117.eq_1 @apC @agB @aoa tr
def HS(n:Nat)(N:Nat->Nat->Int)(X:Go.Sort.SWO λx y=>decide (N x y<0)):aA (Go.Dt.j_ n N)=n:=by unfold Go.Dt.j_;rw[Fg];exact Go.Dt.MZ _ X n
def yg(s:dm)(c:Int)(next:List Int):List bJ:=(eW c 0 s.bw).flatMap λp=>h8 p.2<|ef next p.1
def Iy{s:dm}(h:e9 s=0):aA s.bw<=8:=by
 unfold e9 at h
 grind
def AL{s:dm}{c:Int}{next:aL}(h:gr s c next=0):aA next=aA s.bw:=by
 unfold gr at h
 grind
def zM(s:dm)(c:Int)(next:List Int):Bool:=ax (0<aA (yg s c next))||ax (0<uq s c next)
def TV(next:aL):∀(P:List<|Nat×cf) (A:List<|bJ×Bool),(∀p∈P,p.1<aA A)->((P.foldl (nu next) A).any λq=>q.2)=((A.any λq=>q.2)||ax (0<aA (P.flatMap λp=>h8 p.2<|ef next p.1)))
 |[],A,_=>aY
 |p::P,A,h=>by
  have l:aA (nu next A p)=aA A:=TT next A p
  rw[gn,TV next P _ λq M=>by rw[l];exact h q<|by simp[M]];rw[kP,cN];unfold nu
  cases W:h8 p.2 (ef next p.1)with
  |nil=>simp
  |cons e t=>
   have:((A.set p.1 (e,aa)).any λq=>q.2)=aa:=mD.2 ⟨(e,aa),List.mem_set (h p aY) _,aM⟩;rw[this];have a:ax (0<aA (e::t)+aA (P.flatMap λp=>h8 p.2<|ef next p.1))=aa:=by rw[c_,cr];omega
   rw[a];simp
def VG(L:List<|bJ×Bool):∀(l:List<|bJ×Bool) (i:Nat) (f:Int),ax (0<=mh L i f l)=(ax (0<=f)||l.any λq=>q.2)
 |[],i,f=>by rw[mh,List.any_nil,tD]
 |p::l,i,f=>by
  rw[mh,VG L l,zX]
  grind
def af4(s:dm)(c:Int)(next:aL)(C:aA s.bw<=8):ax (0<=mh (qM s c next) 0 (-1) (qM s c next))=ax (0<aA (yg s c next)):=by rw[VG];unfold qM yg;rw[TV next _ _ λp M=>by rw[jR];have:=BX M;have⟨h,_⟩:=this;omega];exact at6
def w55(s:dm)(c:Int)(next:aL)(B:jg s)(hn:bk next):aS VP 55 [.agg<|dH s,.agg<|iR c next] (.bn [bV<|bif c7 (e9 s) (gr s c next)==0 then zM s c next else ab,iV<|c7 (e9 s)<|gr s c next]):=by
 have F:=Ox s c next B hn
 cases f:c7 (e9 s) (gr s c next)==0;have C:(c7 (e9 s) (gr s c next)!=0)=aa:=avh;generalize c7 (e9 s) (gr s c next)=E at*;have⟨l,o,x,z⟩:=s;refine gO Tryz.f55.eq_1 λw y=>?_;exact Z1 F.aP tr;have f:c7 (e9 s) (gr s c next)=0:=aum;have⟨h,a⟩:=oC f
 have⟨e,d⟩:=aq7 s c next B (Iy h) (AL a)
 have X:=aq8 s c next B (AL a)
 have M:=af4 s c next (Iy h)
 unfold zM;rw[f]at F|-;rw[a8,<-M];generalize mh (qM s c next) 0 (-1) (qM s c next)=k at*
 generalize uq s c next=N at*
 have⟨l,o,x,z⟩:=s;refine gO Tryz.f55.eq_1 λw y=>?_;exact S3 F.aP d.aP X.aP tr
def nw{P:VT}{f b:Nat}{xs:aC}{a:cV}{h:H}{r:VV×H}{g:Nat->aC->H->R (VV×H)}(G:P.nv f=ad g)(e:g b xs h=.ok r):(vW P).i f b xs a h=.ok r:=by refine ZY ?_;show(match P.nv f with|ad g=>g b xs h|ae=>jf P _ b f xs h)=_;rw[G];exact e
def pk(L:List bJ)(i:Nat):bJ:=L.getD (if i<aA L then i else 0) zS
def apz(L:List bJ):Go.Sort.SWO λx y=>decide ((bif ax ((pk L x).order<(pk L y).order)then(-1:Int)else 1)<0):=by
 have e:∀x y,ax ((bif ax ((pk L x).order<(pk L y).order)then(-1:Int)else 1)<0)=ax ((pk L x).order<(pk L y).order):=λx y=>by grind
 simp only[e];refine⟨λx=>aY,λx y z h a=>?_,λx y z h a=>?_⟩;exact aww;simp only[cE]at*;omega
def aoA{L:List bJ}(h0:0<aA L)(h1:aA L<1048576):∃f:List bJ,aA f=aA L/\ ∀(h:H) (s ver md e:Nat),h.o s=⟨ver,md,.cells ab ab e 6<|L.map cd⟩->qg VZ aa 6 [.bh s ver 0<|aA L,.func 117 [] []] h=.ok (.bn [],h.mod s<|.cells ab ab e 6<|f.map cd):=by
 have g:∀i,n' (L.map cd) i=cd (pk L i):=λi=>by
  unfold n' pk;rw[bj]
  grind
 have G:∃N,C_ VZ aa 117 [] (L.map cd) N:=by refine⟨λx y=>bif ax ((pk L x).order<(pk L y).order)then(-1:Int)else 1,λi j=>?_,apz L⟩;rw[g,g];exact aq_ _ _
 have w:=G.choose_spec.2;refine⟨(j_ (aA L) G.choose).map<|pk L,by rw[bj];exact HS _ _ w,λh s ver md e B=>?_⟩;have A:gB h s ver=.ok (ab,ab,e,6,L.map cd):=by rw[kJ,B];exact jb _ _ _ _ _ _ _
 unfold qg;simp only[A,aO,d_];have c:(ab=ab/\ ab=ab/\ 6=6/\ aA L=aA (L.map cd)/\ 0<aA L/\ aA L<2^62/\ s∉([]:aK))/\ ∃N,C_ VZ aa 117 [] (L.map cd) N:=⟨⟨aM,aM,aM,by rw[bj],h0,aW,aY⟩,G⟩;rw[w_ c,pB];have:(j_ (aA L) G.choose).map (n'<|L.map cd)=(j_ (aA L) G.choose).map (cd∘pk L):=sB λi _=>g i;rw[this]
def Qo:0*1000+38+1=39:=rfl
def T5:og VP 116=aa:=rfl
def Tq(r:cf)(g:Int):aA (h8 r g)<=64:=by
 unfold h8;cases e:dY r==0;simp;have e:dY r=0:=avF;by_cases X:eE r;have:=Dd (H8 X e) g;simpa[oY]using this;unfold dY at e;cases k:oN r;unfold oN at k;simp only[gz,cE]at k;have⟨⟨⟨⟨⟨h,a⟩,d⟩,A⟩,Z⟩,Y⟩:=k;rw[mz _ aW aW,mz _ aW aW]at Y;have:r.first<=ey g r.first:=by
  unfold ey
  grind
 simp only[a8,oY,bj,eY,nN];omega;rw[k]at e;cases e
def aba(next:aL):∀P:List<|Nat×cf,aA (P.flatMap λp=>h8 p.2<|ef next p.1)<=64*aA P
 |[]=>aY
 |p::P=>by
  have h:=aba next P
  have a:=Tq p.2<|ef next p.1
  rw[kP,cN,cr];omega
def YM(c:Int):∀(l:List cf) (i:Nat),aA (eW c i l)<=aA l
 |[],i=>by simp[eW]
 |r::l,i=>by
  have:=YM c l<|i+1;rw[eW]
  grind
def Px{x:VO}{ver eT sz:Nat}{es:aB}(new:aB)(f:b6 x es ver eT sz)(hn:aA es<536870912)(m:aA new<536870912)(h:H)(s:Nat):yu x h s ver (eT,sz) es ab new=.ok (b9 (es++new) s<|Kl es new ver,CV h s eT sz es new):=by
 have⟨V,f⟩:=f
 cases es with
 |nil=>cases new with
  |nil=>rfl
  |cons c new=>subst V;rfl
 |cons a es=>have⟨U,f⟩:=f aY;have p:ah (aA (a::es)+aA new) (2^30)=aa:=at2;rw[f];simp only[yu,jb,aO,p,AX,j',gX,iJ,a8];show _=(.ok (VV.bh s (ver+1) 0<|aA<|(a::es)++new,_):R<|VV×H);rw[cN];rfl
def w57(s:dm)(c:Int)(next:aL)(D:jg s)(hn:bk next):∃L:List bJ,(c7 (e9 s) (gr s c next)=0->aA L=aA (yg s c next))/\ aS VP 57 [.agg<|dH s,.agg<|iR c next] (.bn [.fz<|L.map cd,iV<|c7 (e9 s)<|gr s c next]):=by
 have u:=Ox s c next D hn
 cases e:c7 (e9 s) (gr s c next)==0;have C:(c7 (e9 s) (gr s c next)!=0)=aa:=by simp[bne,e]
 generalize c7 (e9 s) (gr s c next)=E at*;refine⟨[],λh=>(by rw[h]at e;cases e),?_⟩;have⟨l,o,l0,z⟩:=s;refine gO Tryz.f57.eq_1 λw y=>?_;exact S3 u.aP C @cC tr;have e:c7 (e9 s) (gr s c next)=0:=avF;have⟨M,X⟩:=oC e;rw[e]at u|-;have hz8:=Iy M;have h0:=AL X;have m0:=Dw s c D;have n:=E_ s c;have o0:=D.2
 have Y:∀p∈eW c 0 s.bw,p.1<aA next/\ eE p.2:=λp p0=>by have⟨M,X⟩:=BX p0;exact⟨aW,by rw[<-X];exact o0 _<|bD M⟩
 have r0:aA (eW c 0 s.bw)<=8:=by have:=YM c s.bw 0;omega
 have d:=λP=>aba next P
 unfold yg;generalize y0:eW c 0 s.bw=V at*;generalize i0:(V.flatMap λp=>h8 p.2<|ef next p.1)=W;have j0:aA W<=512:=by have:=d V;rw[i0]at this;omega
 have S:∃k:List bJ,aA k=aA W/\ ∀(h:H) (v:Nat),b6 (h.o 36) (df W) v 114 6->∃U,qg VZ aa 6 [b9 (df W) 36 v,.func 117 [] []] h=.ok (.bn [],h)/\ W=[]\/ W≠[]/\ h.o 36=⟨v,U,.cells ab ab 114 6<|df W⟩/\ qg VZ aa 6 [b9 (df W) 36 v,.func 117 [] []] h=.ok (.bn [],h.mod 36<|.cells ab ab 114 6<|df k):=by
  cases W with
  |nil=>exact⟨[],aM,λh v _=>⟨0,.inl ⟨aM,aM⟩⟩⟩
  |cons x W=>have⟨k,k1,k2⟩:=aoA (L:=x::W) aY aW;refine⟨k,k1,λh v J=>?_⟩;have⟨U,k0⟩:=J.2 aY;have:=k2 h 36 v U 114 k0;refine⟨U,.inr ⟨aY,k0,?_⟩⟩;rw[<-this];show qg VZ aa 6 [.bh 36 v 0<|aA<|df<|x::W,_] h=_;rw[bj]
 have⟨k,Z,I⟩:=S;refine⟨k,λ_=>Z,?_⟩;have⟨l,o,l0,z⟩:=s;refine gO Tryz.f57.eq_1 λw y=>?_;refine S3 u.aP n.bE @cm ?_;generalize t:Vm.dX _ _ _=T;have t3:T 3=.aR 3 1 0 0:=by rw[<-t];exact aug
 have t7:T 7=.aR 7 1 0 0:=by rw[<-t];exact aug
 clear t;refine rF 0 (V.map qc) m0 aM (λi h=>h.y=y/\ h.o 3=⟨1,0,.cells aa ab 45 2 [iR c next]⟩/\ ∃m v,h.o 7=⟨1,m,.cells aa ab 125 1 [[b9 (df<|(V.take i).flatMap λp=>h8 p.2<|ef next p.1) 36 v]]⟩/\ b6 (h.o 36) (df<|(V.take i).flatMap λp=>h8 p.2<|ef next p.1) v 114 6) ?_ ?_ ?_;refine S1 @cm ?_;exact⟨0,0,aM,aM,λh=>absurd aM h⟩;rintro i h G ⟨O,B,m,v,Q,J⟩;rw[bj]at G;rw[fK];have⟨a0,b0⟩:=Y _<|bD G;have s0:df ((V.take<|i+1).flatMap λp=>h8 p.2<|ef next p.1)=df ((V.take i).flatMap λp=>h8 p.2<|ef next p.1)++df (h8 V[i].2 (ef next V[i].1)):=by rw[ej G,Cn,kP,Fs,ea];exact dg
 have c0:=d<|V.take i;rw[ep]at c0;have t0:aA (df<|(V.take i).flatMap λp=>h8 p.2<|ef next p.1)<536870912:=auC;rw[s0];generalize df ((V.take i).flatMap λp=>h8 p.2<|ef next p.1)=A at*;generalize V[i]=p at*;have⟨j,r⟩:=p
 have d0:=λh=>vI (h:=h) next j a0
 have u0:=aan r (ef next j) b0
 have v0:=Tq r<|ef next j
 have w0:aA (df<|h8 r<|ef next j)<536870912:=auC;have x0:fW 6 (df<|h8 r<|ef next j)=aa:=oe (f:=cd) (λ_=>rfl) _;have e0:ah (aA<|h8 r<|ef next j) (2^30)=aa:=at2;show ew _<|Lr (λh=>h.y=y/\ h.o 3=_/\ ∃m v,h.o 7=⟨1,m,.cells aa ab 125 1 [[b9 (A++df (h8 r<|ef next j)) 36 v]]⟩/\ b6 (h.o 36) (A++df (h8 r<|ef next j)) v 114 6) _
 generalize ef next j=N at*
 generalize h8 r N=F at*;refine bq qc.eq_1 t3 t7 B Q (dF b0) (eI b0) @e5 @rl @rk @k6 (an @bZ<|an d0<|an u0.bE<|an @cm<|an x0<|an e0<|Px _ J t0 w0) ?_;exact⟨O,_,_,aM,F7<|by refine N0 ?_;exact J⟩;rintro h ⟨O,B,m,v,Q,J⟩;rw[bj,bP,i0]at Q J;have⟨U,q⟩:=I h v J
 rcases q with⟨q,rfl⟩|⟨C,f0,q⟩
 have G:=nw (P:=VP) (f:=116) (b:=39) (a:=w) (g:=λ_=>qg VZ aa 6) aM q;have g0:k=[]:=sy Z;subst g0;have hn:b9 (df []) 36 v=.nil:=rfl;rw[hn]at G Q;refine S7 t3 t7 B Q @T5 @Qo G ?_;rw[O];rfl;have G:=nw (P:=VP) (f:=116) (b:=39) (a:=w) (g:=λ_=>qg VZ aa 6) aM q;have e1:b9 (df W) 36 v=.bh 36 v 0 (aA W):=by
  cases W with
  |nil=>exact absurd aM C
  |cons x W=>show VV.bh 36 v 0 _=_;rw[bj]
 rw[e1]at G Q;have q1:ai (aA W) (aA k)=aa:=by rw[Z];simp
 have q2:(df k).take (aA W)=df k:=eM (by rw[bj,Z];exact auS);refine bq t3 t7 B Q f0 @T5 @Qo G @bZ @DS q1 @q2 ?_;rw[O]
def k8(c:Int)(r:cf):Int:=bif below r.label c then r.next else 0
abbrev MB(s:dm)(c:Int):VV:=.agg<|iR c<|s.bw.map<|k8 c
def aj1{h:H}{U:Operand->VV}{l c:Operand}{s:Nat}:h_ VP.D h U (.makeSlice 43 l c) s=aO (jK<|U l) λn=>aO (jK<|U c) λm=>bif ag n m&&ah n (2^30)then .ok (.bh s ((h.o s).ver+1) 0 n,h.new s<|.cells ab ab 23 1<|kr [uV 0] n)else .error "":=CH aom ath aV
abbrev uC(n:Int):List VV:=[uV n]
def XW:∀n,kr [uV 0] n=(ak n (0:Int)).map uC
 |0=>rfl
 |n+1=>by rw[kr,XW n];rfl
def YX(c:Int):∀(l:List cf) (s:aL),(eW c (aA s) l).foldl (λ(es:aL) p=>es.set p.1 p.2.next) (s++ak (aA l) 0)=s++l.map (k8 c)
 |[],s=>by simp[eW]
 |r::l,s=>by
  have I:=YX c l<|s++[k8 c r];rw[cN,sA]at I;rw[eW];have e:s++ak (aA l+1) 0=s++[0]++ak (aA l) 0:=by rw[Fy,eF];rfl
  unfold k8 at I;cases X:below r.label c;rw[X]at I;rw[br,cr,e];simp only[br]at I;rw[I,cL,k8,X,eF];rfl;rw[X]at I;rw[a8,cr,e,gn];simp only[a8]at I;have:(s++[0]++ak (aA l) 0).set (aA s) r.next=s++[r.next]++ak (aA l) 0:=by rw[eF,List.set_append_right _ _<|bu _,Cu,eF];rfl
  rw[this,I,cL,k8,X,eF];rfl
def YY(P:List<|Nat×cf):∀es:aL,aA (P.foldl (λ(es:aL) p=>es.set p.1 p.2.next) es)=aA es:=by
 induction P with
 |nil=>intro es;rfl
 |cons p P I=>intro es;rw[gn,I,lR]
def QI:ga VP.D 45 []=.ok (.agg [uV 0,.nil]):=aV
def ac6(c:Int)(s v o n:Nat):ga VP.D 45 [(0,uV c),(1,.bh s v o n)]=.ok (.agg [uV c,.bh s v o n]):=aV
def ac7(c:Int):ga VP.D 45 [(0,uV c)]=.ok (.agg [uV c,.nil]):=aV
def w32(s:dm)(c:Int)(B:jg s):aS VP 32 [.agg<|dH s,uV c] (bif e9 s==0 then .bn [MB s c,iV 0]else .bn [.agg<|iR 0 [],iV<|e9 s]):=by
 have U:=IV s B;have v:=Dw s c B;have b:=E_ s c;have P:aA s.bw<1048576:=B.1;have x:=B.2;have N:∀p∈eW c 0 s.bw,p.1<aA s.bw/\ eE p.2:=λp L=>by have⟨M,Y⟩:=BX L;exact⟨M,by rw[<-Y];exact x _<|bD M⟩
 have Q:=YX c s.bw [];simp only[f_,b7]at Q;generalize e9 s=E at*;generalize eW c 0 s.bw=V at*;unfold MB;rw[<-Q];have⟨l,o,t,z⟩:=s;have P:bk l:=P;have N:∀p∈V,p.1<aA l/\ eE p.2:=N;cases f:E==0;have n:(E !=0)=aa:=avh;refine gO Tryz.f32.eq_1 λw y=>?_;refine S4 U.aP n @cC @QI ?_;rfl;have q:E=0:=aum;subst q;have G:=xD P;refine gO Tryz.f32.eq_1 λw y=>?_;refine eN U.aP @IM @aj1 @Hx @gX G b.bE @cm @dW @cC @ac6 ?_;generalize S:Vm.dX _ _ _=T;have d:T 4=.aR 4 1 0 0:=by rw[<-S];exact aug
 have e:T 7=.aR 7 1 0 0:=by rw[<-S];exact aug
 have W:T 5=iV 0:=by rw[<-S];exact aug
 clear S;refine rF 0 (V.map qc) v aM (λi h=>h.y=y/\ h.o 4=⟨1,0,.cells aa ab 45 2 [[uV 0,.nil]]⟩/\ h.o 7=⟨1,1,.cells aa ab 45 2 [[uV c,.bh 20 1 0<|aA l]]⟩/\ ∃m,h.o 20=⟨1,m,.cells ab ab 23 1<|((V.take i).foldl (λ(X:aL) p=>X.set p.1 p.2.next)<|ak (aA l) 0).map uC⟩) ?_ ?_ ?_;refine S1 @cm ?_;exact⟨0,by rw[XW];rfl⟩;rintro i h g ⟨O,J,C,m,D⟩;rw[bj]at g;rw[fK];have⟨F,Z⟩:=N _<|bD g;have X:(V.take<|i+1).foldl (λ(X:aL) p=>X.set p.1 p.2.next) (ak (aA l) 0)=((V.take i).foldl (λ(X:aL) p=>X.set p.1 p.2.next)<|ak (aA l) 0).set V[i].1 V[i].2.next:=by rw[ej g,jQ];rfl
 have a:=YY (V.take i)<|ak (aA l) 0;rw[jR]at a;rw[X];generalize(V.take i).foldl (λ(X:aL) p=>X.set p.1 p.2.next) (ak (aA l) 0)=A at*;generalize V[i]=p at*;have⟨j,r⟩:=p;have I:(A.map uC)[j]?=ad (uC A[j]):=uu<|cx aW;refine bq qc.eq_1 d e J C D (dF Z) (eI Z) @e5 @qO @rl (an @rk<|an @k6<|an @bZ<|an @fg<|an @fk<|an @c6<|an (eB F) I) ?_;exact⟨O,_,by rw[sC]⟩;rintro h ⟨O,J,C,m,D⟩;rw[bj,bP]at D;have a:=YY V<|ak (aA l) 0;rw[jR]at a;generalize V.foldl (λ(X:aL) p=>X.set p.1 p.2.next) (ak (aA l) 0)=A at*;have u:ai (aA l) (aA A)=aa:=by rw[a];simp
 have q2:(A.map uC).take (aA l)=A.map uC:=eM (by rw[bj,a];exact auS);exact eN d e W J C D @bZ u @q2 @DS O tr
def w39(s:dm)(c:Int)(B:jg s){E:Int}(N:aS VP 35 [.agg<|dH s]<|iV E):aS VP 39 [.agg<|dH s,uV c] (bif E==0 then .bn [MB s c,iV 0]else .bn [.agg<|iR 0 [],iV E]):=by
 have P:aA s.bw<1048576:=B.1;have x:=B.2;have⟨l,o,Z,z⟩:=s;have P:aA l<1048576:=P;have x:∀r∈l,eE r:=x;cases p:E==0;have n:(E !=0)=aa:=by simp[bne,p]
 refine gO Tryz.f39.eq_1 λw y=>?_;refine S4 N.aP n @cC @QI ?_;rfl;have a:E=0:=by simpa using p
 subst a;show aS _ _ _<|.bn [.agg<|iR c<|l.map<|k8 c,iV 0];refine gO Tryz.f39.eq_1 λw y=>?_;refine S4 N.aP @dW @cC @ac7 ?_;refine lF 0 (aA l) (λi T h=>T 1=uV c/\ T 2=.aR 2 1 0 0/\ T 4=.aR 4 1 0 0/\ T 7=.aR 7 1 0 0/\ T 8=iV i/\ h.y=y/\ h.o 2=⟨1,0,.cells aa ab 25 4 [dH ⟨l,o,Z,z⟩]⟩/\ h.o 4=⟨1,0,.cells aa ab 45 2 [[uV 0,.nil]]⟩/\ ∃m v,h.o 7=⟨1,m,.cells aa ab 45 2 [[uV c,b9 (((l.take i).map<|k8 c).map uC) 42 v]]⟩/\ b6 (h.o 42) (((l.take i).map<|k8 c).map uC) v 23 1) ?_ ?_ ?_;refine S0 ?_;exact⟨aM,1,0,aM,aM,λh=>absurd aM h⟩;rintro i T h G ⟨J,W,j,S,Q,O,k,D,m,v,C,b⟩;have e:=x _<|bD G;have M:=E' l[i] c e;have q:aA (((l.take i).map<|k8 c).map uC)<536870912:=aw9;have X:((l.take<|i+1).map<|k8 c).map uC=((l.take i).map<|k8 c).map uC++[uC<|k8 c l[i]]:=by rw[ej G,dg,dg];rfl
 rw[X];generalize((l.take i).map<|k8 c).map uC=A at*;unfold k8;cases u:below l[i].label c;rw[u]at M;refine bq J W j S Q k D C (a6 G) @bd (dF e) (an (eI e)<|an @e5<|an M.aP<|iM b q) ?_;exact⟨O,_,_,aM,by rw[b.1];exact auh⟩;rw[u]at M;refine bq J W j S Q k D C (a6 G) @bd (dF e) (an (eI e)<|an @e5<|an @qO<|an M.aP<|iM b q) ?_;exact⟨O,_,_,aM,by rw[b.1];exact auh⟩;rintro T h ⟨J,W,j,S,Q,O,k,D,m,v,C,b⟩;rw[bP]at C b;exact fm J W j S Q k D C (gf b) O tr
def arB(s:dm)(B:jg s)(D:tz s)(u:aA s.bw<=9):aS VP 181 [.agg<|dH s] (.bn [.fz<|bif kq s==0 then df (lN<|h6 s.bw)else[],iV<|kq s]):=by
 have N:=EY s B D u;have p:∀r∈s.bw,aS VP 78 [.agg<|du r] (iV<|dY r):=λr x=>w78 r (B.2 r x)<|D r x;have a:∀r∈s.bw,aS VP 150 [.agg<|du r] (.bn [.fz<|(eC r).map cd,iV<|dY r]):=λr x=>aat r (B.2 r x) (p r x)<|Oi r;have Q:=w79 s B u a;generalize lN (h6 s.bw)=M at*;cases e:kq s==0;have C:(kq s !=0)=aa:=by simp[bne,e]
 generalize kq s=E at*;have⟨l,o,Z,z⟩:=s;refine gO Tryz.f181.eq_1 λw y=>?_;exact Z1 N.aP tr;have e:kq s=0:=avF;rw[e]at N|-;have⟨l,o,Z,z⟩:=s;refine gO Tryz.f181.eq_1 λw y=>?_;exact S3 N.aP Q.bE @cm tr
def wU(s:dm)(c:Int)(next:List Int)(x:bJ)(k:Nat):Bool:=match s.bw[k]? with
 |ad r=>(r.label==x.id.label)&&below r.label c&&ax (ef next k<=x.id.no)
 |ae=>ab
def rV(s:dm)(c:Int)(next:List Int)(x:bJ)(k:Nat):List bJ:=((ao k).filter<|wU s c next x).map λ_=>x
def rj(s:dm)(c:Int)(next:List Int):List bJ:=(lN<|h6 s.bw).flatMap λx=>rV s c next x (aA s.bw)
def Ur(s:dm)(c:Int)(next:aL)(x:bJ)(k:Nat):aA (rV s c next x k)<=k:=by
 unfold rV
 grind
def Tb(s:dm)(c:Int)(next:aL)(k:Nat):∀M:List bJ,aA (M.flatMap λx=>rV s c next x k)<=k*aA M
 |[]=>aY
 |x::M=>by
  have h:=Tb s c next k M
  have a:=Ur s c next x k
  rw[kP,cN,cr,Nat.mul_succ];omega
def aal(s:dm)(c:Int)(next:aL)(d0:jg s)(f0:tz s)(I:aA s.bw<=9)(h0:kq s=0)(hn:aA next=aA s.bw):aS VP 114 [.agg<|dH s,.agg<|iR c next] (.fz<|df<|rj s c next):=by
 have p:=arB s d0 f0 I;rw[h0]at p;have p:aS VP 181 [.agg<|dH s] (.bn [.fz<|df<|lN<|h6 s.bw,iV 0]):=p;have g0:=CW s.bw;have i0:aA (lN<|h6 s.bw)<=576:=by rw[(Iq _).1.length_eq];omega
 have t:=d0.2
 have m:∀x k (f:k<aA s.bw),wU s c next x k=((s.bw[k].label==x.id.label)&&below s.bw[k].label c&&ax (ef next k<=x.id.no)):=λx k f=>by unfold wU;rw[cx f]
 have u:=λM=>Tb s c next (aA s.bw) M
 have P:=λx k=>Ur s c next x k
 have D:∀x k,rV s c next x (k+1)=rV s c next x k++bif wU s c next x k then[x]else[]:=λx k=>by
  unfold rV;rw[wE,ry,dg];congr 1
  cases j0:wU s c next x k<;>simp[j0]
 have a:∀x,rV s c next x 0=[]:=λx=>rfl
 unfold rj;generalize lN (h6 s.bw)=M at*
 generalize rV s c next=K at*
 generalize k0:wU s c next=C at*
 clear k0;have j:∃n,n=aA s.bw:=⟨_,aM⟩;have⟨n,G⟩:=j;rw[<-G]at I u;have⟨l,o,Y,z⟩:=s;have G:n=aA l:=G;have t:∀r∈l,eE r:=t
 have hn:aA next=aA l:=hn
 have m:∀x k (f:k<aA l),C x k=((l[k].label==x.id.label)&&below l[k].label c&&ax (ef next k<=x.id.no)):=m;show aS _ _ _<|.fz<|df<|M.flatMap λx=>K x<|aA l;rw[G]at u I;clear G;refine gO Tryz.f114.eq_1 λw y=>?_;refine S2 p.bE @cm ?_;generalize q:H.new _ _ _=V;have E:V.y=y:=by rw[<-q];rfl
 have O:V.o 2=⟨1,0,.cells aa ab 25 4 [dH ⟨l,o,Y,z⟩]⟩:=by rw[<-q];exact aug
 have F:V.o 3=⟨1,0,.cells aa ab 45 2 [iR c next]⟩:=by rw[<-q];exact aug
 have a0:V.o 71=⟨0,0,.none⟩:=by rw[<-q];exact aug
 clear q;refine lF 0 (aA M) (λi T h=>T 2=.aR 2 1 0 0/\ T 3=.aR 3 1 0 0/\ T 5=.fz (df M)/\ T 8=iV i/\ h.y=y/\ h.o 2=⟨1,0,.cells aa ab 25 4 [dH ⟨l,o,Y,z⟩]⟩/\ h.o 3=⟨1,0,.cells aa ab 45 2 [iR c next]⟩/\ ∃v,T 7=b9 (df<|(M.take i).flatMap λx=>K x<|aA l) 71 v/\ b6 (h.o 71) (df<|(M.take i).flatMap λx=>K x<|aA l) v 114 6) ?_ ?_ ?_;refine S0 ?_;exact⟨aM,E,O,F,0,aM,by rw[a0];exact⟨aM,λh=>absurd aM h⟩⟩;rintro i T h b0 ⟨W,L,e,Q,E,O,F,v,S,J⟩;have l0:i<9223372036854775807:=aW;have m0:df ((M.take<|i+1).flatMap λx=>K x<|aA l)=df ((M.take i).flatMap λx=>K x<|aA l)++df (K M[i]<|aA l):=by rw[ej b0,Cn,kP,Fs,ea];exact dg
 have o0:=u<|M.take i;have p0:aA l*aA (M.take i)<=9*576:=Nat.mul_le_mul I aw5;have r0:aA (df<|(M.take i).flatMap λx=>K x<|aA l)<=5184:=auC;rw[m0];generalize df ((M.take i).flatMap λx=>K x<|aA l)=A at*;have d:∀h:H,cF h (ae,6) (.fz<|M.map cd) (i:Int)=.ok (.bA (cd M[i]) 0):=λh=>db (s:=6) cd M i b0;generalize M[i]=x at*;refine S6 W L e Q S (a6 b0) ?_;refine oF 1 2 (aA l) (λk T h=>T 2=.aR 2 1 0 0/\ T 3=.aR 3 1 0 0/\ T 5=.fz (df M)/\ T 8=iV i/\ T 9=iV k/\ h.y=y/\ h.o 2=⟨1,0,.cells aa ab 25 4 [dH ⟨l,o,Y,z⟩]⟩/\ h.o 3=⟨1,0,.cells aa ab 45 2 [iR c next]⟩/\ ∃v,T 7=b9 (A++df (K x k)) 71 v/\ b6 (h.o 71) (A++df (K x k)) v 114 6) ?_ ?_ ?_;refine S5 W L e Q S ?_;exact⟨aM,E,O,F,v,(by rw[a,show df ([]:List bJ)=[]from aM,ea]),(by rw[a,show df ([]:List bJ)=[]from aM,ea];exact J)⟩;rintro k T h f ⟨W,L,e,Q,Z,E,O,F,v,S,J⟩;have s0:k<9223372036854775807:=aW;have X:=t _<|bD f;have g:=E' l[k] c X
 have U:=λh=>vI (h:=h) next k aW
 have t0:=P x k;have u0:aA (A++df (K x k))<536870912:=by rw[cN,bj];omega
 have e0:=D x k;rw[m x k f]at e0;rw[e0]
 have c0:∀b:Bool,A++df (K x k++bif b then[x]else[])=A++df (K x k)++bif b then[cd x]else[]:=λb=>by cases b;show A++(K x k++[]).map cd=_++[];rw[ea,ea];show A++(K x k++[x]).map cd=_;rw[dg,eF];rfl
 rw[c0];generalize A++df (K x k)=B at*
 generalize ef next k=N at*
 cases V:(l[k].label==x.id.label);refine bq W L e Q Z S O F (a6 f) @bd (dF X) (an (eI X)<|an @e5<|an @me<|an d V) ?_;exact avt;cases h2:below l[k].label c<;>rw[h2]at g;refine bq W L e Q Z S O F (a6 f) @bd (dF X) (an (eI X)<|an @e5<|an @me<|an d<|an V g.aP) ?_;exact avt;cases h3:ax<|N<=x.id.no;refine bq W L e Q Z S O F (a6 f) @bd (dF X) (an (eI X)<|an @e5<|an @me<|an d<|an V<|an g.aP<|an U h3) ?_;exact avt;refine bq W L e Q Z S O F (a6 f) @bd (dF X) (an (eI X)<|an @e5<|an @me<|an d<|an V<|an g.aP<|an U<|an h3<|iM J u0) ?_;exact⟨E,_,aM,by rw[J.1];exact auh⟩;rintro T h ⟨W,L,e,Q,Z,E,O,F,v,S,J⟩;refine S9 W L e Q Z S O F @bd ?_;exact⟨E,v,aM,J⟩;rintro T h ⟨W,L,e,Q,E,O,F,v,S,J⟩;rw[bP]at S J;exact S7 W L e Q S (gf J) E tr
def w56(s:dm)(c:Int)(next:aL)(B:jg s)(D:tz s)(M:aA s.bw<=9)(hn:bk next):aS VP 56 [.agg<|dH s,.agg<|iR c next] (.bn [bV<|bif c7 (kq s) (gr s c next)==0 then ax (0<uq s c next)||ax (0<aA (rj s c next))else ab,iV<|c7 (kq s)<|gr s c next]):=by
 have g:=Oy s c next B hn (EY s B D M)
 cases e:c7 (kq s) (gr s c next)==0;have C:(c7 (kq s) (gr s c next)!=0)=aa:=by simp[bne,e]
 generalize c7 (kq s) (gr s c next)=E at*;have⟨l,o,x,z⟩:=s;refine gO Tryz.f56.eq_1 λw y=>?_;exact axa;have e:c7 (kq s) (gr s c next)=0:=avF;have⟨h,a⟩:=oC e
 have J:=aal s c next B D M h (AL a)
 have S:=aq9 s c next B (AL a)
 rw[e]at g|-
 generalize rj s c next=W at*
 generalize uq s c next=N at*
 have⟨l,o,x,z⟩:=s;refine gO Tryz.f56.eq_1 λw y=>?_;have V:ax ((0:Int)<(aA (df W):Int))=ax (0<aA W):=by rw[bj];exact decide_eq_decide.2 aW
 rw[<-V];cases G:ax<|0<N;exact Z4 g.aP S.aP J.bE @cm tr;exact Z2 g.aP S.aP tr
def w58(s:dm)(c:Int)(next:aL)(B:jg s)(D:tz s)(M:aA s.bw<=9)(hn:bk next):aS VP 58 [.agg<|dH s,.agg<|iR c next] (.bn [.fz<|df<|bif c7 (kq s) (gr s c next)==0 then rj s c next else[],iV<|c7 (kq s)<|gr s c next]):=by
 have g:=Oy s c next B hn (EY s B D M)
 cases e:c7 (kq s) (gr s c next)==0;have C:(c7 (kq s) (gr s c next)!=0)=aa:=by simp[bne,e]
 generalize c7 (kq s) (gr s c next)=E at*;have⟨l,o,x,z⟩:=s;show aS _ _ _<|.bn [.fz [],_];refine gO Tryz.f58.eq_1 λw y=>?_;exact axa;have e:c7 (kq s) (gr s c next)=0:=avF;have⟨h,a⟩:=oC e
 have J:=aal s c next B D M h (AL a)
 rw[e]at g|-;show aS _ _ _<|.bn [.fz<|df<|rj s c next,_]
 generalize rj s c next=W at*
 have⟨l,o,x,z⟩:=s;refine gO Tryz.f58.eq_1 λw y=>?_;exact S3 g.aP J.bE @cm tr
def ZK:cP VP.D 262=.ok (.int .u64):=aV
def AM(n:Int):nZ VP.D 3 262 (.aN<|.int .i64 n)=.ok (bY .u64<|av .u64 n):=C7 sq ZK _ n
def aei(n:Int):nZ VP.D 262 3 (.aN<|.int .u64 n)=.ok (bY .i64<|av .i64 n):=C7 ZK sq _ n
def asT(n:Nat)(hn:n<=6):aS VP 434 [uV 1,uV n] (.bn [uV 0,uV n]):=by
 have:n=0\/ n=1\/ n=2\/ n=3\/ n=4\/ n=5\/ n=6:=aW
 rcases this with rfl|rfl|rfl|rfl|rfl|rfl|rfl<;>(refine gO Tryz.f434.eq_1 λw y=>?_;kernel_rfl)
def asE(n:Nat)(hn:n<=6):aS VP 395 [uV 1,uV n] (.bn [uV 0,uV n]):=by have g:=asT n hn;refine gO Tryz.f395.eq_1 λw y=>?_;exact S1 g.aP tr
def ZZ{P:VT}{c:Vm.VC}{Q:Nat}{d:Option Tmp}{g:Bool}{ty:Nat}{p:String}{a:Array Edge}{T:Vg}{h:H}(t u:Nat)(x y:Operand):ec P c Q g ⟨d,.call ⟨.builtin .copy,#[x,y],#[t,u]⟩,ty,p,a,ae⟩ T h=lq T h d g (wY P.D h t (bS T x)<|bS T y):=bL aM
def amq(D:a_)(xs:Array Operand)(l:Array Nat):gP D (.call ⟨.builtin .copy,xs,l⟩)=ab:=rfl
abbrev OD:List VV:=[iV 0,.fz []]
def mT(c:List VV)(m n:Nat):List (List VV):=ak m c++ak (n-m) OD
def amP(n:Nat)(c:aC):kr OD n=mT c 0 n:=by
 unfold mT;rw[List.replicate_zero,b7,yr]
 induction n with
 |zero=>rfl
 |succ n I=>rw[kr,I,Fy]
def amO(c:aC){m n:Nat}(h:m<=n):aA (mT c m n)=n:=by unfold mT;rw[cN,jR,jR];omega
def XU(c:aC){m n k:Nat}(h:m+k<=n):zr (mT c m n) m (ak k c)=mT c (m+k) n:=by unfold zr mT;rw[jR,Ju<|by rw[jR];exact auS,eM<|by rw[jR];exact auS,zY,jR,mZ<|by rw[jR];omega,b7,OT,<-eF,List.replicate_append_replicate];congr 2;omega
def aef{h:H}{md n:Nat}(s:bo)(B:h.o 30=⟨1,md,.cells ab ab 68 2<|mT (bm s) 0 n⟩)(hn:0<n):wY VP.D h 312 (.bh 30 1 0 n) (.fz [bm s])=.ok (iV 1,h.mod 30<|.cells ab ab 68 2<|mT (bm s) 1 n):=by
 have V:ah 0 n=aa:=at2;have Y:om 1 n=1:=by unfold om;rw[show ai 1 n=aa by simp only[dh];omega];rfl
 simp only[wY,Ip,aO,kF,kJ,B,jb,j',gX,fW,cr,f_,V,iJ,a8,bZ,Y];have:=XU (bm s) (m:=0) (n:=n) (k:=1) aW;rw[bZ]at this;rw[<-this];rfl
def aeg{h:H}{md m n:Nat}(s:bo)(B:h.o 30=⟨1,md,.cells ab ab 68 2<|mT (bm s) m n⟩)(h0:0<m)(hn:m<n):wY VP.D h 312 (.bh 30 1 m<|n-m) (.bh 30 1 0 m)=.ok (iV<|om m<|n-m,h.mod 30<|.cells ab ab 68 2<|mT (bm s) (m+om m (n-m)) n):=by
 have V:ah 0 (n-m)=aa:=at2;have a:ah 0 m=aa:=at2;have d:ai (0+m) (aA<|mT (bm s) m n)=aa:=by rw[amO _ aW];simp only[dh];omega
 have A:((mT (bm s) m n).drop 0).take m=ak m (bm s):=by rw[e6];unfold mT;exact at6
 have Z:fW 2 (ak m<|bm s)=aa:=by cases m with
  |zero=>rfl
  |succ m=>rfl
 have Y:om m (n-m)<=m/\ m+om m (n-m)<=n:=by
  unfold om;cases e:ai m<|n-m;have:¬m<=n-m:=λh=>by rw[iE h]at e;cases e
  simp only[br];omega;have:=Cs e;simp only[a8];omega
 simp only[wY,Ip,aO,kF,kJ,B,jb,j',gX,V,a,d,A,Z,iJ,a8,jR];rw[List.take_replicate,Jy Y.1,XU _ Y.2]
def ajZ{h:H}{U:Operand->VV}{l c:Operand}{s:Nat}:h_ VP.D h U (.makeSlice 312 l c) s=aO (jK<|U l) λn=>aO (jK<|U c) λm=>bif ag n m&&ah n (2^30)then .ok (.bh s ((h.o s).ver+1) 0 n,h.new s<|.cells ab ab 68 2<|kr OD n)else .error "":=CH Ip abm aV
def asn(s:bo)(n:Nat)(h0:0<n)(hn:n<=6):aS VP 336 [.fz [bm s],iV n] (.fz<|ak n<|bm s):=by
 have g:=asE n hn;have P:av .u64 (n:Int)=n:=mz _ aW aW;have V:av .i64 (n:Int)=n:=d' _ aW aW;have l:av .u64 ((1:Nat):Int)=1:=rfl;have M:ax ((n:Int)<0)=ab:=aY;have j:ax (9223372036854775807<(n:Int))=ab:=auI;have D:ah n (2^30)=aa:=at2;refine gO Tryz.f336.eq_1 λw y=>?_;have f:ax ((0:Int)<0)=ab:=rfl;refine JG @AM @aei g.aP @IM @ajZ @Hx @gX @ZZ (amP n<|bm s) (aef s (md:=0) (h:=(H.empty y).new 30<|.cells ab ab 68 2<|mT (bm s) 0 n) aM h0) ?_;refine Bx (F:=λx=>dC VP _<|dL (cJ 0 x) _) (I:=λq T h=>∃m md,q=n-m/\ 0<m/\ m<=n/\ T 7=.bh 30 1 0 n/\ T 8=iV (m:Nat)/\ h.o 30=⟨1,md,.cells ab ab 68 2<|mT (bm s) m n⟩/\ h.y=y) ?_ (n-1) ⟨1,1,aM,aW,aW,aug,avo,aug,aug⟩;rintro q T h ⟨m,md,rfl,Y,Z,S,L,B,E⟩;by_cases e:m=n;subst e;have r:mT (bm s) m m=ak m (bm s):=by unfold mT;rw[Cu,List.replicate_zero,ea]
 rw[r]at B;have Q:ai (0+m) (aA<|ak m<|bm s)=aa:=by rw[jR,bZ];exact iE<|bu _
 have v:ar m (au 0<|ak m<|bm s)=ak m (bm s):=by rw[e6,eM<|by rw[jR];exact auS]
 exact Z2 @ee @jc tr;have O:m<n:=aW;have d:ah 0 n=aa:=at2;have a:ai m n=aa:=iE aW;have o:ai 0 m=aa:=iE aW;have u:ai n n=aa:=iE aW;have W:=aeg s B Y O;have A:m+om m (n-m)<=n/\ 0<om m (n-m):=by unfold om;cases X:ai m<|n-m;simp only[br];omega;have:=Cs X;simp only[a8];omega
 generalize om m (n-m)=k at*;have i:av .i64 ((m:Int)+k)=((m+k:Nat):Int):=by rw[d' _ aW aW];rfl
 refine Z6 (a6 O) @jc @bZ @yr @ZZ @amq ?_;exact⟨n-(m+k),aW,m+k,md+1,rfl,aW,A.1,rfl,rfl⟩
def cS(n:ba):Int:=(aA (gh n):Int)
def eR:ba->Prop
 |.mk k M F a W=>(xH (.mk k M F a W)/\ bR 200 (.mk k M F a W)=aa/\ cS (.mk k M F a W)<=12)/\ aA W<=8/\ ((k=1/\ W=[]/\ 1<=M/\ M<=F/\ F<=6)\/ (k=2/\ W=[])\/ (k=3/\ (∃x l,W=x::l/\ bU x≠2))\/ (k=4/\ W≠[]/\ ∀x∈W,bU x≠2))/\ ∀x∈W,eR x
def qS{n:ba}(h:eR n):xH n/\ bR 200 n=aa/\ cS n<=12:=by have⟨k,M,F,a,W⟩:=n;rw[eR]at h;exact h.1
def dP(n:ba)(b:Int):List VV:=bc n++[iV b]
def mn(k M F:Int)(a:dZ)(W:List ba)(b:Int):dP (.mk k M F a W) b=[iV k,iV M,iV F,iV a.kind,bV a.fF,uV a.fe,.fz<|a.cy.map ed,sV a.name,.fz<|W.map bc,iV b]:=by rw[dP,bg];rfl
abbrev zu(p:Int×ba):List VV:=[.agg<|dP p.2 p.1]
def kL:Int->List ba->List (Int×ba)
 |_,[]=>[]
 |b,n::l=>(b,n)::kL (b+cS n) l
def sR(n:ba)(b:Int)(h:H)(f:Nat):d_ (cq h<|f+1) (dP n b)=.ok (dP n b,[]):=auK
def asF(n:ba)(h:eR n):aS VP 397 [.agg<|bc n] (iV<|cS n):=by
 have⟨V,a,d⟩:=qS h;have g:=EZ n V;rw[a,a8]at g;have l:cS n=(aA (qw n):Int):=by rw[cS,bj]
 rw[l];generalize qw n=A at*;refine gO Tryz.f397.eq_1 λw y=>?_;exact S2 g.bE @cm tr
def ac2(n:ba)(b:Int):ga VP.D 310 [(0,.agg<|bc n),(1,iV b)]=.ok (.agg<|dP n b):=awX
def ac3(n:ba):ga VP.D 310 [(0,.agg<|bc n)]=.ok (.agg<|dP n 0):=awX
def alG{l:List ba}{i:Nat}(G:i<aA l)(b:Int):kL b (l.drop i)=(b,l[i])::kL (b+cS l[i]) (l.drop<|i+1):=by rw[fD G];rfl
def qU(n:ba):0<=cS n:=by unfold cS;omega
def BL(n:ba)(b:Int):aA (dP n b)=10:=auK
def Ud(n:ba)(g:Int)(hn:eR n)(e:0<=g)(C:g<=1000):iK VP 396 [.yield,.bA (dP n g) 0] ((kL g (match n with|.mk _ _ _ _ W=>W)).map zu):=by
 have⟨k,M,E,a,W⟩:=n;rw[eR]at hn;obtain⟨-,t,-,j⟩:=hn;refine xk agu apV λw y b N Q=>?_;have Q:dv w y ((kL g W).map zu)=.ok (b,N):=Q;have P:∃O,O=dP (.mk k M E a W) g:=⟨_,aM⟩;have⟨O,X⟩:=P;rw[<-X];have S:gg (ad 1) O 8=.ok (.agg [.fz<|W.map bc]):=by rw[X,mn];rfl
 have J:gg ae O 8=.ok (.fz<|W.map bc):=by rw[X,mn];rfl
 have Y:gg ae O 9=.ok (iV g):=by rw[X,mn];rfl
 refine S3 Tryz.f396.eq_1 J Y ?_;refine vS (F:=λx=>dC VP _<|cJ 0 x) (aA W) (λi T h=>T 0=.yield/\ T 1=.bA O 0/\ T 10=.fz (W.map bc)/\ T 11=iV (aA W)/\ T 12=iV i/\ ∃B:Int,T 3=iV B/\ 0<=B/\ B<=1000+12*i/\ dv w h.y ((kL B<|W.drop i).map zu)=.ok (b,N)) ?_ ?_ ?_;refine S0 ?_;exact⟨aM,g,aM,e,aW,Q⟩;rintro i T h G ⟨Z,o,u,V,f,B,L,v,z,Q⟩;have r:i<9223372036854775807:=aW;have c:=j _<|bD G;have D:=asF _ c;have I:=(qS c).2.2;have A:=qU W[i];rw[alG G]at Q;have d:av .i64 (B+cS W[i])=B+cS W[i]:=d' _ aW aW;have p:=ac2 W[i] B;have m:=λh=>sR W[i] B h 10;generalize s:W[i]=x at*;simp only[cL,dv]at Q;rw[bF]at Q;have⟨q,l,Q⟩:=Q;cases q;cases Q;exact bq Z o u V f L (a6 G) @bd @dW @cC s (an p<|an m<|an @cm l) tr;rw[a8]at Q;refine bq Z o u V f L (a6 G) @bd @dW @cC s (an p<|an m<|an @cm<|an l<|an D.aP d) ?_;exact⟨_,aM,aW,aW,Q⟩;rintro T h ⟨Z,o,u,V,f,B,L,v,z,Q⟩;rw[fS]at Q;have Q:dv w h.y []=.ok (b,N):=Q;simp only[dv]at Q;cases Q;exact S5 Z o u V f tr
def aaW(n:ba)(b:Int):aS VP 337 [.agg<|dP n b] (.func 396 [] [.bA (dP n b) 0]):=by have q:=BL n b;have j:=λh=>sR n b h 9;refine gO Tryz.f337.eq_1 λw y=>?_;exact avB
def um(n:ba):Nat:=bif bU n==1 then 262 else bif bU n==4 then 263 else 264
def Om(n:ba)(b:Int):aS VP 202 [.agg<|dP n b] (.func (um n) [.agg<|dP n b] []):=by have⟨k,M,F,a,W⟩:=n;unfold um bU;simp only;rw[mn];cases C:k==1;cases O:k==4;refine gO Tryz.f202.eq_1 λw y=>?_;exact avB;refine gO Tryz.f202.eq_1 λw y=>?_;exact avB;refine gO Tryz.f202.eq_1 λw y=>?_;exact avB
abbrev jv(l:List bo):List VV:=[.fz<|l.map bm]
def il(b P:Int)(n:Nat):List (List bo):=(ao n).map λi=>ak (P.toNat+i) ⟨b,[]⟩
def aow(b P:Int)(n:Nat)(h:0<=P):il b P (n+1)=ak P.toNat ⟨b,[]⟩::il b (P+1) n:=by
 unfold il;rw[List.range_succ_eq_map,cL,pB];congr 1;refine sB λi _=>?_
 grind
def Ke(b:Int):ga VP.D 68 [(0,iV b)]=.ok (.agg [iV b,.nil]):=aV
def ahP(M f:Int)(a:dZ)(g:Int)(h1:1<=M)(e:f<=6):iK VP 262 [.agg<|dP (.mk 1 M f a []) g,.yield] ((il g M (f-M+1).toNat).map jv):=by
 refine xk agq apR λw y b V Q=>?_;rw[mn];generalize G:(f-M+1).toNat=N at*;refine S1 Tryz.f262.eq_1 ?_;refine Bx (F:=λx=>dC VP _<|cJ 0 x) (I:=λn T h=>∃m:Int,n=(f-m+1).toNat/\ 1<=m/\ T 1=.yield/\ T 2=.aR 2 1 0 0/\ T 4=iV m/\ h.o 2=⟨1,0,.cells aa ab 310 10 [dP (.mk 1 M f a []) g]⟩/\ dv w h.y ((il g m n).map jv)=.ok (b,V)) ?_ N ⟨M,G.symm,h1,aM,aM,aug,by rw[mn];exact aug,Q⟩;clear Q;rintro n T h ⟨m,r,Y,J,W,j,O,Q⟩;rw[mn]at O;cases t:ax<|m<=f;have L:n=0:=by rw[cE]at t;omega
 subst L;have Q:dv w h.y []=.ok (b,V):=Q;simp only[dv]at Q;cases Q;exact S5 J W j O t tr;have p:m<=f:=by simpa using t
 obtain⟨P,rfl⟩:∃P,n=P+1:=⟨n-1,aW⟩;have o:=asn ⟨g,[]⟩ m.toNat aW aW;rw[show((m.toNat:Nat):Int)=m by omega]at o;have s:av .i64 (m+1)=m+1:=d' _ aW aW;rw[aow _ _ _ aW,cL]at Q;simp only[dv]at Q;rw[bF]at Q;have⟨u,h1,Q⟩:=Q;have c:jv (ak m.toNat ⟨g,[]⟩)=[.fz<|ak m.toNat<|bm ⟨g,[]⟩]:=by show[VV.fz _]=_;rw[O6]
 rw[c]at h1;have o:aS VP 336 [.fz [[iV g,.fz []]],iV m] (.fz<|ak m.toNat<|bm ⟨g,[]⟩):=o;generalize ak m.toNat (bm ⟨g,[]⟩)=X at*;cases u;cases Q;refine eN J W j O t @dW @cC @Ke o.bE @cm h1 ?_;rw[c];rw[a8]at Q;refine bq J W j O t @dW @cC @Ke o.bE @cm h1 s ?_;exact⟨P,aW,m+1,aW,aW,rfl,by rw[mn];rfl,by rw[<-c];exact Q⟩
def Ye{P:VT}{a:cV}{g:Nat}{v i:VV}{T:Vg}{h:H}{O:List Tmp}{u J:Vg->H->R Vo}{l:aB}{o:Vo}(j:cq h e8 v=.ok (i,[]))(y:iK P g [i,.yield] l)
 (r:xY (fH T O u J) T h l=.ok o):lH (cW P a) (.func g [v] []) T h (fH T O u J)=.ok o:=by
 have⟨b,N,C,w⟩:=NC (h0:=h) (y0:=[]) Yh l r aM;have M:=y _ _ _ _ C;unfold Vm.lH;simp only[d_,j,aO,ea];have V:(cW P a).z g ([i]++[.yield]) (λl=>va<|ph (fH T O u J) T (cp h []) l) []=.ok (.bn [],N):=M;rw[V];exact w
def am1{α:Type}{F:R Vo->R α}{X:R α}{P:VT}{a:cV}{g:Nat}{v k:VV}{T:Vg}{h:H}{O:List Tmp}{u J:Vg->H->R Vo}(l:aB)(y:iK P g [k,.yield] l)(j:cq h e8 v=.ok (k,[]))
 (I:Nat->H->Prop)(h0:I 0 h)(s:∀i h (G:i<aA l),I i h->ew (fH T O u J h l[i]) (Lr (I<|i+1) λo=>F (.ok o)=X))(e:∀h,I (aA l) h->F (.ok<|.bI T h)=X):F (lH (cW P a) (.func g [v] []) T h<|fH T O u J)=X:=awu
def WA{G:R Vo->R Vo}{Q:Vo->Prop}{P:VT}{a:cV}{g:Nat}{v k:VV}{T:Vg}{h:H}{O:List Tmp}{u J:Vg->H->R Vo}(l:aB)(y:iK P g [k,.yield] l)(j:cq h e8 v=.ok (k,[]))
 (I:Nat->H->Prop)(h0:I 0 h)(s:∀i h (p:i<aA l),I i h->ew (fH T O u J h l[i]) (Lr (I<|i+1) λo=>ew (G<|.ok o) Q))(e:∀h,I (aA l) h->ew (G<|.ok<|.bI T h) Q):ew (G<|lH (cW P a) (.func g [v] []) T h<|fH T O u J) Q:=awu
def fi(g:List Int):List bo->List bo
 |[]=>[]
 |s::t=>⟨s.da,g⟩::t
def eZ(s:List bo):List (List Int×List (List bo))->List (List bo)
 |[]=>[s]
 |r::l=>r.2.flatMap λy=>eZ (s++fi r.1 y) l
mutual
def cK:Int->ba->List (List bo)
 |b,.mk k M F _ W=>bif k==1 then il b M (F-M+1).toNat else bif k==4 then fT b W else eZ []<|eJ b [] W
def fT:Int->List ba->List (List bo)
 |_,[]=>[]
 |b,n::l=>cK b n++fT (b+cS n) l
def eJ:Int->List Int->List ba->List (List Int×List (List bo))
 |_,_,[]=>[]
 |b,g,n::l=>bif bU n==2 then eJ (b+cS n) (g++[b]) l else(g,cK b n)::eJ (b+cS n) [] l
end
abbrev vQ(p:Int×ba):List (List bo):=cK p.1 p.2
def yy:∀(l:List ba) (b:Int),fT b l=(kL b l).flatMap vQ
 |[],b=>by rw[fT];rfl
 |n::l,b=>by rw[fT,yy l];rfl
def lO(A:List (List Int×Int×ba)×List Int)(p:Int×ba):List (List Int×Int×ba)×List Int:=bif bU p.2==2 then(A.1,A.2++[p.1])else(A.1++[(A.2,p)],[])
abbrev BS(p:List Int×Int×ba):List Int×List (List bo):=(p.1,vQ p.2)
def Nr:∀(l:List ba) (b:Int) (A:List<|aL×Int×ba) (g:aL),((kL b l).foldl lO (A,g)).1.map BS=A.map BS++eJ b g l
 |[],b,A,g=>by rw[eJ,ea];rfl
 |n::l,b,A,g=>by rw[kL,gn,eJ,lO];cases bU n==2;rw[br,br,Nr l];exact at6;rw[a8,a8,Nr l]
def dx:List ba->Int
 |[]=>0
 |n::l=>cS n+dx l
def yc:∀l,0<=dx l
 |[]=>rq _
 |n::l=>by have:=yc l;have:=qU n;rw[dx];omega
def Mg:∀l,(aA (mf l):Int)=dx l
 |[]=>rfl
 |n::l=>by have:=Mg l;rw[mf,cN,dx,cS];omega
def xy{k M F:Int}{a:dZ}{W:List ba}(h1:k≠1)(p:k≠2):cS (.mk k M F a W)=dx W:=by
 rw[cS,gh,<-Mg]
 grind
def xM:∀(l:List ba) (b:Int) (p:Int×ba),p∈kL b l->p.2∈l/\ b<=p.1/\ p.1+cS p.2<=b+dx l
 |[],b,p,h=>by cases h
 |n::l,b,p,h=>by
  rw[kL]at h;rw[dx];have:=yc l
  rcases dz.1 h with h|h
  grind
  have⟨V,a,d⟩:=xM l _ p h;have:=qU n
  grind
def Zu(a:cV):∀(l m:aB) (y:aB),dv a y (l++m)=aO (dv a y l) λq=>bif q.1 then dv a q.2 m else .ok (ab,q.2)
 |[],m,y=>rfl
 |e::l,m,y=>by
  rw[ck];simp only[dv]
  cases a (y++[e])with
  |error e=>rfl
  |ok b=>cases b with
   |false=>rfl
   |true=>simp only[aO,a8];exact Zu a l m _
def ahQ(A f:Int)(a:dZ)(W:List ba)(t:Int)(hn:eR<|.mk 4 A f a W)(e:0<=t)(v:t+dx W<=500)(Z:∀p∈kL t W,iK VP (um p.2) [.agg<|dP p.2 p.1,.yield]<|(vQ p).map jv):iK VP 263 [.agg<|dP (.mk 4 A f a W) t,.yield] ((fT t W).map jv):=by
 have P:=Ud (.mk 4 A f a W) t hn e (by have:=yc W;omega);have P:iK VP 396 [.yield,.bA (dP (.mk 4 A f a W) t) 0] ((kL t W).map zu):=P;have g:=aaW (.mk 4 A f a W) t;have N:=BL (.mk 4 A f a W) t;have o:=λh=>sR (.mk 4 A f a W) t h 10;have C:gg (ad 10) (dP (.mk 4 A f a W) t) 0=.ok (.agg<|dP (.mk 4 A f a W) t):=by rw[mn];rfl
 rw[yy];generalize dP (.mk 4 A f a W) t=O at*;generalize kL t W=L at*;refine xk agr apS λw y b V Q=>?_;refine S6 Tryz.f263.eq_1 N C o g.bE @cm ?_;refine Yc (F:=λx=>dC VP _<|cJ 0 x) (L.map zu) P aM (λi h=>h.o 3=⟨1,0,.cells aa ab 448 1 [[.yield]]⟩/\ dv w h.y (((L.drop i).flatMap vQ).map jv)=.ok (b,V)) ?_ ?_ ?_;refine S1 @cm ?_;exact Q;rintro i h D ⟨s,Q⟩;rw[bj]at D;rw[fK];have X:=Z _<|bD D;rw[fD D,kP,dg]at Q;generalize L[i]=p at*;have⟨B,n⟩:=p;have d:=Om n B;have N:=BL n B;have o:=λh=>sR n B h 10;have C:gg (ad 10) (dP n B) 0=.ok (.agg<|dP n B):=by have⟨k,A,f,a,W⟩:=n;rw[mn];rfl
 have Y:∀h,cq h e8 (.agg<|dP n B)=.ok (.agg<|dP n B,[]):=λh=>by show aO (d_ (cq h 11) _) _=_;rw[sR n B h 10];rfl
 have X:iK VP (um n) [.agg<|dP n B,.yield] ((cK B n).map jv):=X;have Q:dv w h.y ((cK B n).map jv++((L.drop<|i+1).flatMap vQ).map jv)=.ok (b,V):=Q;show ew (fH _ _ _ _ h [.agg<|dP n B]) _;generalize dP n B=O at*;generalize cK B n=M at*;refine S6 s N C o d.bE @cm ?_;generalize((L.drop<|i+1).flatMap vQ).map jv=R at*;refine WA (G:=λx=>lk _<|cJ 1<|cJ 2 x) (M.map jv) X (Y _) (λj h=>h.o 3=⟨1,0,.cells aa ab 448 1 [[.yield]]⟩/\ dv w h.y ((M.drop j).map jv++R)=.ok (b,V)) ?_ ?_ ?_;refine S0 ?_;exact⟨s,Q⟩;rintro j h u ⟨s,Q⟩;rw[bj]at u;rw[fK];rw[fD u,cL,ck]at Q;generalize M[j]=q at*;simp only[dv]at Q;rw[bF]at Q;have⟨c,l,Q⟩:=Q;cases c;cases Q;exact S4 jv.eq_1 s @cm l tr;rw[a8]at Q;refine S4 jv.eq_1 s @cm l ?_;exact Q;rintro h ⟨s,Q⟩;rw[bj,fS]at Q;have Q:dv w h.y R=.ok (b,V):=Q;refine S1 s ?_;exact Q;rintro h ⟨s,Q⟩;rw[bj,fS]at Q;have Q:dv w h.y []=.ok (b,V):=Q;simp only[dv]at Q;cases Q;exact aug
def akp{xs:aC}(a:cV)(y:aB):nk (vW VP).z xs a [] y=.ok (iV 0,y):=rfl
def aaq(q:cR)(X:gR q):aS VP 139 [.agg<|bG q] (iV<|eh q):=by
 refine adN aX aX (by
  have e:aA (bG q)=12:=by rw[bG,cN,th];rfl
  show ag (aA<|bG q) 12=aa
  rw[e];rfl)<|AA (arV q X.1) λ_=>AA (arW q X) λ_=>AA (arX q X) λ_=>AA (arY q X.1) λ_=>AA (arZ q X.1) λ_=>?_
 have h:=AA (gs:=[]) (m:=0) (ar0 q X) λ_ a y=>akp a y
 grind
def iX(a b:Int):Int:=IntKind.u64.wrap (aw 64 a|||aw 64 b).toNat
def UB(a b:Int):hP .or .u64 .u64 a b=.ok (bY .u64<|iX a b):=aV
def MQ(a b:Int):iX a b=((aw 64 a|||aw 64 b).toNat:Int):=by unfold iX;have:=(aw 64 a|||aw 64 b).isLt;exact mz _ aW aW
def alm(a b:Int):iX 0 (iX a b)=iX a b:=by rw[MQ 0,MQ a b,BitVec.ofInt_natCast,BitVec.ofNat_toNat,BitVec.setWidth_eq];exact at6
def mI(c:Int)(a:dZ):Int:=bif a.fF then a.fe else c
def jU(q:cR):List dZ:=bif bR 200 q.bt then qw q.bt else[]
def uD(q:cR)(c:Int):Int:=(jU q).foldl (λx a=>iX x<|mI c a) 0
def kH(q:cR)(c:Int):Int:=bif eh q==0 then(bif !below (uD q c) c then 13 else 0)else eh q
def arD(a:dZ)(c:Int)(h:bk a.cy):aS VP 200 [.agg<|bQ a,uV c] (uV<|mI c a):=by refine gO Tryz.f200.eq_1 λw y=>?_;exact S1 mI.eq_1 tr
def ark(a:dZ)(c:Int)(h:bk a.cy):aS VP 152 [.agg<|bQ a,uV c] (uV<|mI c a):=by refine gO Tryz.f152.eq_1 λw y=>?_;exact S1 mI.eq_1 tr
def ar1(a b:Int):aS VP 259 [uL [a,b]] (uV<|iX (iX 0 a) b):=by
 have x:∀h (i:Nat) (G:i<[a,b].length),cF h (ae,1) (uL [a,b]) (i:Int)=.ok (.bA [uV [a,b][i]] 0):=λh i G=>by rw[db (λn=>[uV n]) [a,b] i G];rfl
 refine gO Tryz.f259.eq_1 λw y=>?_;refine S0 ?_;refine lF 0 2 (λi T h=>T 6=uL [a,b]/\ T 7=iV 2/\ T 8=iV i/\ h=H.empty y/\ T 3=uV (([a,b].take i).foldl iX 0)) ?_ ?_ ?_;refine S0 ?_;exact auM;rintro i T h G ⟨N,m,l,rfl,A⟩;have O:ax ((i:Int)<2)=aa:=auR;refine Z4 (a6 G) @bd (λh=>x h i G) @UB ?_;rw[ej G,jQ];rfl;rintro T h ⟨N,m,l,rfl,A⟩;have O:ax (((2:Nat):Int)<2)=ab:=rfl;refine Z0 ?_;rfl
def vr{P:VT}{rs:List ResultVar}{x:R Vo}{r:VV}{R:H->Prop}(h:ew x λo=>∃h',ki P rs (.ok o)=.ok (r,h')/\ R h'):∃h',ki P rs x=.ok (r,h')/\ R h':=by have⟨o,e,h',k⟩:=h;exact at6
def PQ{D:a_}{h:H}{e:Operand->VV}{t s:Nat}{x y:Operand}:h_ D h e (.buildSlice t 2 #[(0,x),(1,y)]) s=aO (gm D t) λes=>aO (jO D es.1) λz=>aO (rP h<|e x) λq=>aO (rP q.2<|e y) λr=>
 aO (bif ai (2*es.2) (2^24)then xe es.2 (kr z 2) [(0,q.1),(1,r.1)]else .error "") λw=>.ok (.bh s ((r.2.o s).ver+1) 0 2,r.2.new s<|.cells ab ab es.1 es.2 w):=by
 rw[JP];refine wN λes=>wN λz=>?_;show aO (aO (rP h<|e x) λp=>aO (aO (rP p.2<|e y) λS=>aO (.ok ([],S.2)) λq=>.ok ((1,S.1)::q.1,q.2)) λq=>.ok ((0,p.1)::q.1,q.2)) _=_;rw[kg];refine wN λq=>?_;rw[kg,kg];rfl
def SB{sz:Nat}{z x y:aC}:xe sz (kr z 2) [(0,x),(1,y)]=bif ag (aA x) sz&&ag (aA y) sz then .ok [x,y]else .error "":=by
 show(bif ag (aA x) sz&&aa then(bif ag (aA y) sz&&aa then .ok [x,y]else .error "")else .error "":R aB)=_
 grind
def Ec(h:H)(v:VV):R VV:=match v with
 |.aR s v i o=>bif ag (h.o s).ver v then .ok (.aR s v i o)else .error ""
 |.bA cs o=>.ok<|.bA cs o
 |.func f a b=>.ok<|.func f a b
 |.yield=>.ok .yield
 |_=>.error ""
def gU{P:VT}{c:Vm.VC}{Q:Nat}{d:Option Tmp}{g:Bool}{ty:Nat}{p:String}{a:Array Edge}{T:Vg}{h:H}(x:Operand):ec P c Q g ⟨d,.nilCheck x,ty,p,a,ae⟩ T h=lM T h d g (Ec h<|bS T x):=by show aO (bif g then _ else _) _=aO (Vm.jG g _ _) _;unfold Ec pe;rfl
def vU{h:H}(s v i o:Nat):Ec h (.aR s v i o)=bif ag (h.o s).ver v then .ok (.aR s v i o)else .error "":=rfl
def jZ{h:H}(cs:aC)(o:Nat):Ec h (.bA cs o)=.ok (.bA cs o):=rfl
def anX:dk 43 (ad 18)=43018:=rfl
def U9(x y:aC):ai 2 [x,y].length=aa:=rfl
def ZJ(x y:aC):([x,y].drop 0).take 2=[x,y]:=rfl
def n0c:((0:Nat):Int)=0:=rfl
def n1c:((1:Nat):Int)=1:=rfl
def d01:ax ((0:Int)<1)=aa:=rfl
def d11:ax ((1:Int)<1)=ab:=rfl
def d00:ax ((0:Int)<=0)=aa:=rfl
def KC:ax (0<1)=aa:=rfl
def w01:av .i64 (0+1)=1:=rfl
def QO:ai (2*1) (2^24)=aa:=rfl
def DK(h:H)(a x:Int)(b:Bool):H:=(h.new 43018<|.cells ab ab 23 1 [[uV a],[uV x]]).mod 10<|.cells aa ab 236 2 [[uV<|iX (iX 0 a) x,bV b]]
def aqe(w:cV)(h:H)(a x:Int)(b:Bool)(J c v:Nat)(f:Bool)(y:h.o 10=⟨1,J,.cells aa ab 236 2 [[uV a,bV b]]⟩)(s:h.o 41=⟨v,c,.cells ab f 23 1 [[uV x]]⟩):
 (vW VP).i 199 43 [.aR 10 1 0 0,.bh 41 v 0 1] w h=.ok (.bn [],DK h a x b):=by
 have l:∃Y,ki VP Tryz.f199.results.toList (cv VP (cW VP w) 43 (VP.gk 199) (Tryz.f199.body.getD .skip) (gK [.aR 10 1 0 0,.bh 41 v 0 1]) h)=.ok (.bn [],Y)/\ Y=DK h a x b:=by refine vr ?_;refine S3 Tryz.f199.eq_1 s @jc ?_;refine ot (G:=λx=>cJ 0 x) 1 (λi T Y=>T 0=.aR 10 1 0 0/\ T 6=.bh 41 v 0 1/\ T 7=iV 1/\ T 8=iV i/\ Y=bif ag i 0 then h else DK h a x b) ?_ ?_ ?_;refine S0 ?_;exact at1;rintro i T Y g ⟨t,N,m,n,rfl⟩;have:i=0:=aW;subst this;have e:(bif ag 0 0 then h else DK h a x b)=h:=rfl;rw[e];have q:aS VP 259 [.fz [[uV a],[uV x]]] (uV<|iX (iX 0 a) x):=ar1 a x;refine bq t N m n y s @fg q.aP @U9 @ZJ @n0c (an @d01<|an @d00<|an @KC<|an @w01<|an @Fo<|an @PQ<|an @SB<|an @QO<|an @bZ<|an @gU<|an @vU @anX) ?_;exact at1;rintro T Y ⟨t,N,m,n,rfl⟩;refine S6 t N m n @n1c @d11 ?_;exact awm
 obtain⟨Y,C,rfl⟩:=l;exact pW agl apL aX C
def jy(D:a_)(x:Operand):gP D (.nilCheck x)=ab:=rfl
def b43:0*1000+42+1=43:=rfl
def XJ(c:Int):∀(l:List dZ) (a:Int),iX 0 a=a->iX 0 (l.foldl (λx a=>iX x<|mI c a) a)=l.foldl (λx a=>iX x<|mI c a) a
 |[],a,h=>h
 |x::l,a,h=>XJ c l _<|alm a _
def ahL:og VP 199=aa:=rfl
def J6{q:cR}(h:gR q):∀a∈jU q,bk a.cy:=by intro a b;unfold jU at b;cases s:bR 200 q.bt;rw[s]at b;cases b;rw[s]at b;obtain⟨n,r,rfl⟩:=fv.1 b;have:=Mf q.bt h.1.1 n r;have⟨k,M,F,a,W⟩:=n;rw[dt]at this;exact this.1
def are(q:cR)(c:Int)(e:gR q):∃b,aS VP 140 [.agg<|bG q,uV c] (.bA [uV<|uD q c,bV b] 0):=by
 have t:=EZ q.bt ⟨e.1.1,e.2⟩;have Y:=J6 e;have g:(bif bR 200 q.bt then(qw q.bt).map bQ else[])=(jU q).map bQ:=by unfold jU;cases bR 200 q.bt<;>rfl
 have Z:aA (jU q)<1048576:=by have:=uk q.bt;have:=e.2;unfold jU;exact au5
 rw[g]at t;unfold uD;generalize jU q=l at*;refine⟨l.any λa=>!a.fF,?_⟩;obtain⟨k,f,W,a,p,u,L,S,rfl⟩:=qC q;simp only[bG,bg,ck,b7]at t|-;refine gO Tryz.f140.eq_1 λw y=>?_;refine S2 t.bE @cm ?_;refine lF 0 (aA l) (λi T h=>T 1=uV c/\ T 5=.aR 10 1 0 0/\ T 17=.fz (l.map bQ)/\ T 18=iV (aA l)/\ T 19=iV i/\ h.y=y/\ ∃m,h.o 10=⟨1,m,.cells aa ab 236 2 [[uV<|(l.take i).foldl (λx a=>iX x<|mI c a) 0,bV<|(l.take i).any λa=>!a.fF]]⟩) ?_ ?_ ?_;refine S0 ?_;exact⟨aM,0,aM⟩;rintro i T h G ⟨J,X,E,V,M,O,m,I⟩;have P:i<9223372036854775807:=aW;have Q:=Y _<|bD G;have F:=arD l[i] c Q;have d:=XJ c (l.take i) 0 (by rw[MQ];rfl);have j:(l.take<|i+1).foldl (λx a=>iX x<|mI c a) 0=iX ((l.take i).foldl (λx a=>iX x<|mI c a) 0) (mI c l[i]):=by rw[ej G,jQ];rfl
 have v:(l.take<|i+1).any (λa=>!a.fF)=((l.take i).any (λa=>!a.fF)||!l[i].fF):=vb G;rw[j,v];generalize(l.take i).foldl (λx a=>iX x<|mI c a) 0=A at*;generalize(l.take i).any (λa=>!a.fF)=B at*;generalize s:l[i]=x at*;refine bq J X E V M I (a6 G) @bd @gU @vU s (an F.aP<|an @jy<|an @ahL @b43) ?_;rw[aqe w _ A (mI c x) (B||!x.fF) (m+1) 0 _ ab (by refine N0 ?_;rw[I]) auy];refine S9 J X E V M I @bd DK.eq_1 d ?_;exact⟨O,_,aM⟩;rintro T h ⟨J,X,E,V,M,O,m,I⟩;rw[bP]at I;refine S6 J X E V M I ?_;rw[O]
def w70(q:cR)(c:Int)(X:gR q):aS VP 70 [.agg<|bG q,uV c] (.bn [uV<|bif eh q==0 then uD q c else 0,iV<|eh q]):=by have h:=aaq q X;have⟨b,o⟩:=are q c X;generalize uD q c=R at*;cases f:eh q==0;have n:(eh q !=0)=aa:=avh;generalize eh q=e at*;obtain⟨k,M,F,a,W,u,v,Z,rfl⟩:=qC q;simp only[bG,bg,ck,b7]at h o|-;refine gO Tryz.f70.eq_1 λw y=>?_;exact Z1 h.aP tr;have f:eh q=0:=aum;rw[f]at h|-;obtain⟨k,M,F,a,W,u,v,Z,rfl⟩:=qC q;simp only[bG,bg,ck,b7]at h o|-;refine gO Tryz.f70.eq_1 λw y=>?_;exact S5 h.aP o.bE @cm @gU @jZ tr
def w30(q:cR)(c:Int)(X:gR q):aS VP 30 [.agg<|bG q,uV c] (iV<|kH q c):=by have h:=w70 q c X;have o:=w71 (bif eh q==0 then uD q c else 0) c;unfold kH;cases f:eh q==0;rw[f]at h o;generalize eh q=e at*;obtain⟨k,M,F,a,W,u,v,Z,rfl⟩:=qC q;simp only[bG,bg,ck,b7]at h|-;refine gO Tryz.f30.eq_1 λw y=>?_;exact Z1 h.aP tr;rw[f]at h o;have f:eh q=0:=aum;rw[f]at h;obtain⟨k,M,F,a,W,u,v,Z,rfl⟩:=qC q;simp only[bG,bg,ck,b7,a8]at h o|-;generalize uD _ c=R at*;refine gO Tryz.f30.eq_1 λw y=>?_;exact S2 h.aP o.aP tr
def arj(q:cR)(X:gR q):aS VP 151 [.agg<|bG q] (.bn [.fz<|bif eh q==0 then(jU q).map bQ else[],iV<|bif eh q==0 then(bif bR 200 q.bt then 0 else 3)else eh q]):=by
 have h:=aaC q X;rw[<-abh]at h;have o:=IW q.bt ⟨X.1.1,X.2⟩;have g:(bif bR 200 q.bt then((gh q.bt).map fE).map bQ else[])=(jU q).map bQ:=by unfold jU;cases bR 200 q.bt<;>rfl
 rw[g]at o;generalize jU q=l at*;cases f:eh q==0;have n:(eh q !=0)=aa:=avh;generalize eh q=e at*;obtain⟨k,M,F,a,W,u,v,Z,rfl⟩:=qC q;simp only[bG,bg,ck,b7]at h o|-;refine gO Tryz.f151.eq_1 λw y=>?_;exact Z1 h.aP tr;have f:eh q=0:=aum;rw[f]at h;obtain⟨k,M,F,a,W,u,v,Z,rfl⟩:=qC q;simp only[bG,bg,ck,b7]at h o|-;refine gO Tryz.f151.eq_1 λw y=>?_;exact S3 h.aP o.bE @cm tr
def ap9{a b:Int}(h:c7 a b=0):a=0/\ b=0:=by
 unfold c7 at h
 grind
def as3{q:cR}(h:eh q=0):bR 200 q.bt=aa:=by
 unfold eh at h;have V:=(ap9 h).1;unfold pM at V
 grind
def w80(q:cR)(c:Int)(X:gR q):aS VP 80 [.agg<|bG q,uV c] (.bn [uV<|bif eh q==0 then uD q c else 0,iV<|eh q]):=by
 have t:=arj q X;have m:=J6 X;have z:aA (jU q)<1048576:=by have:=uk q.bt;have:=X.2;unfold jU;exact au5
 unfold uD;cases f:eh q==0;rw[f]at t;have n:(eh q !=0)=aa:=avh;generalize eh q=e at*;obtain⟨k,M,F,a,W,u,v,s,rfl⟩:=qC q;simp only[bG,bg,ck,b7]at t|-;refine gO Tryz.f80.eq_1 λw y=>?_;exact S3 t.bE @cm n tr;rw[f]at t;have f:eh q=0:=aum;rw[as3 f]at t;rw[f];generalize jU q=l at*;obtain⟨k,M,F,a,W,u,v,s,rfl⟩:=qC q;simp only[bG,bg,ck,b7,a8]at t|-;refine gO Tryz.f80.eq_1 λw y=>?_;refine S2 t.bE @cm ?_;generalize S:H.new _ _ _=V;have E:V.y=y:=by rw[<-S];rfl
 clear S;refine lF 0 (aA l) (λi T h=>T 1=uV c/\ T 6=.fz (l.map bQ)/\ T 9=iV i/\ T 8=uV ((l.take i).foldl (λx a=>iX x<|mI c a) 0)/\ h=V) ?_ ?_ ?_;refine S0 ?_;exact at1;rintro i T h G ⟨J,N,Z,Q,rfl⟩;have P:i<9223372036854775807:=aW;have d:=m _<|bD G;have I:=ark l[i] c d;have j:(l.take<|i+1).foldl (λx a=>iX x<|mI c a) 0=iX ((l.take i).foldl (λx a=>iX x<|mI c a) 0) (mI c l[i]):=by rw[ej G,jQ];rfl
 rw[j];generalize(l.take i).foldl (λx a=>iX x<|mI c a) 0=A at*;generalize U:l[i]=x at*;exact S9 J N Z Q (a6 G) @bd U I.aP @UB tr;rintro T h ⟨J,N,Z,Q,rfl⟩;rw[bP]at Q;refine S4 J N Z Q ?_;rw[E]
def w37(q:cR)(c:Int)(X:gR q):aS VP 37 [.agg<|bG q,uV c] (iV<|kH q c):=by have h:=w80 q c X;unfold kH;cases f:eh q==0;rw[f]at h;generalize eh q=e at*;obtain⟨k,M,F,a,W,u,v,Z,rfl⟩:=qC q;simp only[bG,bg,ck,b7]at h|-;refine gO Tryz.f37.eq_1 λw y=>?_;exact Z1 h.aP tr;rw[f]at h;have f:eh q=0:=aum;rw[f]at h;obtain⟨k,M,F,a,W,u,v,Z,rfl⟩:=qC q;simp only[bG,bg,ck,b7,a8]at h|-;generalize uD _ c=R at*;unfold below;refine gO Tryz.f37.eq_1 λw y=>?_;refine S2 h.aP @vF ?_;rfl
def zn{n:Nat}(h:6032<=n):VP.km n=ab:=by show lD n=ab;unfold lD;rw[py];intro x s e;have:=dB e;subst this;simp only[dz,List.mem_nil_iff,or_false]at s;omega
def HE{b d:Nat}(h:6032<=b):VP.km (dk b<|ad d)=ab:=zn<|by show 6032<=b*1000+d;omega
def zG(b d:Nat):dk b (ad d)=b*1000+d:=rfl
def JE(h:H)(v:VV)(cs:List<|List VV)(b:Nat):Prop:=(cs=[]/\ v=.nil)\/ ∃s ver md fr,v=.bh s ver 0 (aA cs)/\ h.o s=⟨ver,md,.cells ab fr 68 2 cs⟩/\ cs≠[]/\ 7000<=s/\ s<b*1000
def acv:List VV:=[.aR 6004 1 0 0,.aR 6003 1 0 0,.aR 6005 1 0 0,.aR 6008 1 0 0]
abbrev xU:=List Int×Int×ba
abbrev pC(p:xU):List VV:=dP p.2.2 p.2.1
abbrev gC(p:xU):List VV:=[iL p.1]
structure KP(A:List xU)(h:H):Prop where
 o3:h.o 6003=⟨1,0,.cells aa ab 448 1 [[.yield]]⟩
 o4:∃m v,h.o 6004=⟨1,m,.cells aa ab 453 1 [[.bh 6024 v 0<|aA A]]⟩/\ ∃md,h.o 6024=⟨v,md,.cells ab ab 310 10<|A.map pC⟩
 o5:∃m v,h.o 6005=⟨1,m,.cells aa ab 454 1 [[.bh 6028 v 0<|aA A]]⟩/\ ∃md,h.o 6028=⟨v,md,.cells ab ab 66 1<|A.map gC⟩
 o8:∃m,h.o 6008=⟨1,m,.cells aa ab 455 1 [[.func 338 [] acv]]⟩
def KP.of{A:List xU}{h h':H}(k:KP A h)(e:∀s,s<7000->h'.o s=h.o s):KP A h':=by have⟨o3,o4,o5,o8⟩:=k;refine⟨?_,?_,?_,?_⟩;rw[e _ aW];exact o3;rw[e _ aW,e _ aW];exact o4;rw[e _ aW,e _ aW];exact o5;rw[e _ aW];exact o8
def Dy:og VP 338=aa:=rfl
def ai0{A:List xU}(X:aA A<=8){b:Nat}(Z:6032<=b){w:cV}{h:H}{U:VV}{cs:aB}{x:Bool}(k:KP A h)(a:JE h U cs b)(P:w (h.y++[[.fz cs]])=.ok x):
 ∃h',(vW VP).i 338 b [U,iV<|aA A,.aR 6004 1 0 0,.aR 6003 1 0 0,.aR 6005 1 0 0,.aR 6008 1 0 0] w h=.ok (bV x,h')/\ h'.y=h.y++[[.fz cs]]/\ ∀s,s<b*1000->(∀v o n,U≠.bh s v o n)->h'.o s=h.o s:=by
 have l:∃h',ki VP Tryz.f338.results.toList (cv VP (cW VP w) b (VP.gk 338) (Tryz.f338.body.getD .skip) (gK [U,iV<|aA A,.aR 6004 1 0 0,.aR 6003 1 0 0,.aR 6005 1 0 0,.aR 6008 1 0 0]) h)=.ok (bV x,h')/\ (h'.y=h.y++[[.fz cs]]/\ ∀s,s<b*1000->(∀v o n,U≠.bh s v o n)->h'.o s=h.o s):=by
  have⟨F,⟨t,m,T,c,J⟩,⟨E,D,Y,z,q⟩,I,W⟩:=k;have r:((aA A:Int)==(aA A:Int))=aa:=aY;have p:ai (0+aA cs) (aA cs)=aa:=avx;have M:ar (aA cs) (au 0 cs)=cs:=by rw[e6,bP]
  refine vr ?_
  rcases a with⟨rfl,rfl⟩|⟨s,f,V,Q,rfl,S,C,d,g⟩
  refine aby Tryz.f338.eq_1 @zG F T Y W J @jc P @cm r ?_;exact⟨_,aM,aM,λs B _=>auy⟩;refine Ag Tryz.f338.eq_1 @zG F T Y W S J @jc p M (an P r) ?_
  exact⟨_,aM,aM,λL B C=>by
   have:L≠s:=λe=>C f 0 (aA cs) (by rw[e])
   exact auy⟩
 have⟨h',O,G,j⟩:=l;exact⟨h',pW Tf ZA aX O,G,j⟩
def L_:VP.nv 265=ad (mJ 68 2):=rfl
def Bj:VP.nv 208=ad (mJ 3 1):=rfl
def Ub{b:Nat}(e:7000<=b)(w:cV)(h:H)(c:aC)(es:aB)(a:ag (aA c) 2=aa)(l:aA (c::es)<536870912):(vW VP).i 265 b [.fz<|c::es] w h=.ok (.bh (b*1000+5) ((h.o<|b*1000+5).ver+2) 0<|aA<|c::es,(h.new (b*1000+5)<|.cells ab ab 68 2 []).new (b*1000+5)<|.cells ab ab 68 2<|c::es):=by refine nw L_ ?_;have g:ah (aA<|c::es) (2^29)=aa:=at2;exact auA
def T9(b:Nat)(w:cV)(h:H):(vW VP).i 265 b [.nil] w h=.ok (.nil,h):=nw L_ aM
def Ua{b:Nat}(e:7000<=b)(w:cV)(h:H)(s v:Nat)(md:Nat)(fr:Bool)(cs:aB)(B:h.o s=⟨v,md,.cells ab fr 68 2 cs⟩)(C:cs≠[])(a:fW 2 cs=aa)(l:aA cs<536870912):(vW VP).i 265 b [.bh s v 0<|aA cs] w h=.ok (.bh (b*1000+5) (((fM h s).o<|b*1000+5).ver+2) 0<|aA cs,((fM h s).new (b*1000+5)<|.cells ab ab 68 2 []).new (b*1000+5)<|.cells ab ab 68 2 cs):=by
 refine nw L_ ?_;have n:ai (0+aA cs) (aA cs)=aa:=avx;have M:ar (aA cs) (au 0 cs)=cs:=by rw[e6,bP]
 have j:mO h (.bh s v 0<|aA cs)=.ok (.fz cs,fM h s):=by simp only[mO,cq,e8,kJ,B,jb,aO,vq,br,n,a8,M,cp]
 cases cs with
 |nil=>exact absurd aM C
 |cons c X=>have g:ah (aA<|c::X) (2^29)=aa:=at2;have k:lD (b*1000+5)=ab:=zn aW;have G:lD (b*1000+7)=ab:=zn aW;have Q:ai 7000 b=aa:=iE e;have a:ag (aA c) 2=aa:=a;show aO (mO h _) _=_;simp only[j,aO,g,a,k,G,Q,j',iJ,a8]
def LJ{b:Nat}(e:7000<=b)(w:cV)(h:H):(vW VP).i 208 b [.fz []] w h=.ok (.emp 1,h):=by refine nw Bj ?_;have Q:ai 7000 b=aa:=iE e;unfold mJ;simp only[mO,cq,e8,aO,cp,Q,a8]
def LK{b:Nat}(e:7000<=b)(w:cV)(h:H)(c:aC)(es:aB)(a:ag (aA c) 1=aa)(l:aA (c::es)<536870912):(vW VP).i 208 b [.fz<|c::es] w h=.ok (.bh (b*1000+5) ((h.o<|b*1000+5).ver+2) 0<|aA<|c::es,(h.new (b*1000+5)<|.cells ab ab 3 1 []).new (b*1000+5)<|.cells ab ab 3 1<|c::es):=by refine nw Bj ?_;have g:ah (aA<|c::es) (2^29)=aa:=at2;exact auA
def HH{x:R (VV×H)}{K:R (VV×H)->R Vo}{Q:Vo->Prop}(s:∃r h',x=.ok (r,h')/\ ew (K<|.ok (r,h')) Q):ew (K x) Q:=by grind
def Dx:og VP 265=aa:=rfl
def ua:og VP 208=aa:=rfl
def Gm{α:Type}(x:α)(l:List α):ax (0<aA (x::l))=aa:=aY
def Qa(h:H)(d:Nat):kR VP.D h 66 66 (.emp 1) (.fz []) d=.ok (.emp 1,h):=by simp only[kR,Am,kF,aO,fW,gX,a8];rfl
abbrev adJ:=Bool×Bool×Nat×Nat×List (List VV)
def JW(h:H)(d n:Nat)(q:adJ):R (VV×H):=aO (bif ai (0+n) (aA q.2.2.2.2)then .ok (q.1,(q.2.2.2.2.drop 0).take n)else .error "") λnew=>bif fW 2 new.2&&ah (aA new.2) (2^30)then(match new.2 with
 |[]=>.ok (.nil,h)
 |_=>.ok (.bh d ((h.o d).ver+1) 0<|aA new.2,h.new d<|.cells new.1 ab 68 2 new.2))else .error ""
def Qb(h:H)(s v n d:Nat):kR VP.D h 312 312 .nil (.bh s v 0 n) d=aO (gB h s v) (JW h d n):=by simp only[kR,JX,kF];cases gB h s v<;>rfl
def P7(h:H)(d e sz:Nat)(fr:Bool)(x y:VV)(l:aB)(P:aA ([x,y]::l)<536870912):JW h d (aA<|[x,y]::l) (ab,fr,e,sz,[x,y]::l)=.ok (.bh d ((h.o d).ver+1) 0<|aA<|[x,y]::l,h.new d<|.cells ab ab 68 2<|[x,y]::l):=by
 have n:ai (0+aA ([x,y]::l)) (aA<|[x,y]::l)=aa:=avx;have M:ar (aA<|[x,y]::l) (au 0<|[x,y]::l)=[x,y]::l:=by rw[e6,bP]
 have J:ah (aA<|[x,y]::l) (2^30)=aa:=at2;have a:fW 2 ([x,y]::l)=aa:=rfl;simp only[JW,n,M,a,J,aO,iJ,a8]
def Lz(h:H)(k:Nat):cq h 12 (.emp k)=.ok (.fz [],[]):=rfl
def FQ(b d:Nat):b*1000+d+1=b*1000+(d+1):=rfl
def Mk(p:Int×ba):Prop:=∀y∈vQ p,∃s t,y=s::t/\ s.bH=[]/\ aA y<=72
def Io{g:aL}{y:List bo}:aA (fi g y)=aA y:=by cases y<;>rfl
def Uc{A:List xU}(d1:aA A<=8)(e1:∀p∈A,aA p.1<=500/\ Mk p.2/\ iK VP (um p.2.2) [.agg<|dP p.2.2 p.2.1,.yield] ((vQ p.2).map jv)):∀(k m:Nat),m+k=aA A->∀(b:Nat) (I:List bo) (U:VV) (h:H) (w:cV) (u:Bool) (y':aB),6032<=b->aA I<=72*m->KP A h->JE h U (I.map bm) b->dv w h.y ((eZ I<|(A.drop m).map BS).map jv)=.ok (u,y')->
 ∃h',(vW VP).i 338 b [U,iV m,.aR 6004 1 0 0,.aR 6003 1 0 0,.aR 6005 1 0 0,.aR 6008 1 0 0] w h=.ok (bV u,h')/\ h'.y=y'/\ ∀s,s<b*1000->(∀v o n,U≠.bh s v o n)->h'.o s=h.o s
 |0,m,J0,b,I,U,h,w,u,y',i1,P,H0,A0,Q=>by have J0:m=aA A:=aW;subst J0;rw[fS]at Q;simp only[i_,eZ,cL,dv]at Q;rw[bF]at Q;have⟨b1,V,Q⟩:=Q;have⟨h',k1,k2,k3⟩:=ai0 d1 i1 H0 A0 V;cases b1<;>cases Q<;>exact⟨h',k1,k2,k3⟩
 |k+1,m,J0,b,I,U,h,w,u,y',i1,P,H0,A0,Q=>by
  have O:m<aA A:=aW;have⟨l0,m0,K0⟩:=e1 _<|bD O;have I0:=Uc d1 e1 k (m+1) aW;rw[fD O,cL,eZ]at Q;have Z:(A.map gC)[m]?=ad (gC A[m]):=by rw[hY,cx O];rfl
  have o0:(A.map pC)[m]?=ad (pC A[m]):=by rw[hY,cx O];rfl
  generalize A[m]=p at*;have⟨g,B,n⟩:=p;have g2:=Om n B;have B0:=BL n B;have L0:gg (ad 10) (dP n B) 0=.ok (.agg<|dP n B):=by have⟨k,p1,q1,a,r1⟩:=n;rw[mn];rfl
  have M0:∀h,cq h e8 (.agg<|dP n B)=.ok (.agg<|dP n B,[]):=λh=>by show aO (d_ (cq h 11) _) _=_;rw[sR n B h 10];rfl
  have l1:=λh=>sR n B h 10;have p0:ar 10 (dP n B)=dP n B:=eM (by rw[B0];exact bu _);have Z:(A.map gC)[m]?=ad [.fz<|g.map λn=>[iV n]]:=Z;have o0:(A.map pC)[m]?=ad (dP n B):=o0;have K0:iK VP (um n) [.agg<|dP n B,.yield] ((cK B n).map jv):=K0;have m0:∀y∈cK B n,∃s t,y=s::t/\ s.bH=[]/\ aA y<=72:=m0;have Q:dv w h.y (((cK B n).flatMap λy=>eZ (I++fi g y)<|(A.drop<|m+1).map BS).map jv)=.ok (u,y'):=Q;have l0:aA g<=500:=l0;generalize dP n B=t1 at*;generalize cK B n=M at*;have O0:=H0;have⟨o3,⟨m4,v4,o4,n4,a4⟩,⟨m5,v5,o5,n5,a5⟩,m8,o8⟩:=H0;have P0:∃h',ki VP Tryz.f338.results.toList (cv VP (cW VP w) b (VP.gk 338) (Tryz.f338.body.getD .skip) (gK [U,iV m,.aR 6004 1 0 0,.aR 6003 1 0 0,.aR 6005 1 0 0,.aR 6008 1 0 0]) h)=.ok (bV u,h')/\ (h'.y=y'/\ ∀s,s<b*1000->(∀v o n,U≠.bh s v o n)->h'.o s=h.o s):=by
   refine vr ?_;have C:((m:Int)==(aA A:Int))=ab:=by simp;omega
   have r0:jn U=.ok [U]/\ et U=aa:=by rcases A0 with⟨_,rfl⟩|⟨_,_,_,_,rfl,_⟩<;>exact⟨aM,aM⟩
   have⟨r0,Q0⟩:=r0;refine Ag Tryz.f338.eq_1 @zG r0 Q0 o3 o4 o5 o8 a4 @jc C (an @fk<|an (eB O)<|an @fg<|an @c6<|an @bZ<|an o0<|an B0<|an p0<|an L0<|an g2.bE<|an l1 @cm) ?_;generalize R0:(h.o<|b*1000+6).ver+1=v6;generalize T0:(h.o<|b*1000+7).ver+1=v7;generalize U0:(h.o<|b*1000+8).ver+1=v8;generalize z0:Vm.dX _ _ _=T;have t4:T 4=.aR 6005 1 0 0:=by rw[<-z0];exact S0 tr
   have t5:T 5=.aR 6008 1 0 0:=by rw[<-z0];exact S0 tr
   have t6:T 6=.aR (b*1000+6) v6 0 0:=by rw[<-z0];exact S0 tr
   have t7:T 7=.aR (b*1000+7) v7 0 0:=by rw[<-z0];exact S0 tr
   have t8:T 8=.aR (b*1000+8) v8 0 0:=by rw[<-z0];exact S0 tr
   clear z0;refine WA (G:=λx=>dL (cJ 0 x) _) (M.map jv) K0 (M0 _) (λj h'=>h'.o (b*1000+6)=⟨v6,0,.cells aa ab 312 1 [[U]]⟩/\ h'.o (b*1000+7)=⟨v7,0,.cells aa ab 3 1 [[iV m]]⟩/\ (∃m8 x,h'.o (b*1000+8)=⟨v8,m8,.cells aa ab 4 1 [[bV x]]⟩)/\ (∀s,s<b*1000->(∀v o n,U≠.bh s v o n)->h'.o s=h.o s)/\ JE h' U (I.map bm) b/\ dv w h'.y (((M.drop j).flatMap λy=>eZ (I++fi g y)<|(A.drop<|m+1).map BS).map jv)=.ok (u,y')) ?_ ?_ ?_;refine⟨?_,?_,⟨0,ab,?_⟩,?_,?_,?_⟩;refine N0 ?_;rw[R0];refine N0 ?_;rw[T0];refine N0 ?_;rw[U0];intro s J _;exact N0 tr
   rcases A0 with⟨V,Y⟩|⟨s,ver,f0,C0,V,s0,C,a0,b0⟩
   exact .inl ⟨V,Y⟩;exact .inr ⟨s,ver,f0,C0,V,by refine N0 ?_;exact s0,C,a0,b0⟩;exact Q;rintro j h' V0 ⟨o6,o7,⟨q8,x8,E⟩,D,t0,Q⟩;rw[bj]at V0;rw[fK];have⟨m1,L,j1,u0,v0⟩:=m0 _<|bD V0;rw[fD V0,kP,dg,Zu,bF]at Q;have⟨⟨b1,y1⟩,W,X⟩:=Q;rw[j1]at W v0|-;clear j1;have⟨c,n1⟩:=m1;have u0:n1=[]:=u0;subst u0;have D0:KP A h':=O0.of λs J=>D s aW λv o n e=>by
    rcases A0 with⟨_,Y⟩|⟨d,_,_,_,Y,_,_,h3,_⟩
    rw[Y]at e;cases e;rw[Y]at e;cases e;omega
   have h0:=D0;have⟨o3,⟨m4,v4,o4,n4,a4⟩,⟨m5,v5,o5,n5,a5⟩,m8,o8⟩:=D0;have W:dv w h'.y ((eZ (I++⟨c,g⟩::L)<|(A.drop<|m+1).map BS).map jv)=.ok (b1,y1):=W;have v0:aA L+1<=72:=v0;have i0:av .i64 ((m:Int)+1)=((m+1:Nat):Int):=bd m aW;have j0:ax ((0:Int)<=0)=aa:=rfl;show ew (fH _ _ _ _ h' [.fz<|[iV c,.fz []]::L.map bm]) _;have W0:aA ([iV c,.fz []]::L.map bm)<536870912:=by rw[cr,bj];omega
   have E0:7000<=b*1000+25:=aW;have c1:=λh=>Ub E0 w h [iV c,.fz []] (L.map bm) aM W0
   cases g with
   |nil=>
    have c2:=λh=>LJ (b:=b*1000+31) aW w h
    rcases t0 with⟨V,Y⟩|⟨s,ver,f0,C0,V,s0,C,a0,b0⟩
    subst Y;have w0:I=[]:=Jn.1 V;subst w0;refine Ag t4 t5 t6 t7 t8 o3 o4 o5 o6 o7 E (an o8<|an a5<|an a4<|an @zG<|an @FQ<|an @Dy<|an @Dx<|an @ua<|an @fg<|an @cC<|an @dW<|an @fk<|an (eB O)<|an @c6<|an @Fo<|an j0<|an @bZ<|an Z<|an c1<|an c2<|an @Qa<|an @Lz<|an @T9<|an @Qb<|an @P7<|an i0<|an @cm<|an @Gm @Hq) ?_;refine HH (K:=λx=>lk _<|cJ 1<|dL (aO (aO x _) _) _) ?_;refine(I0 (b*1000+46) ([]++⟨c,[]⟩::L) _ _ w b1 y1 aW (by simp only[b7,cr];omega) ?_ ?_ ?_).elim λY c0=>⟨_,Y,c0.1,?_⟩;exact h0.of λs J=>by exact N0 tr
    exact .inr ⟨_,_,_,_,aM,by refine N0 ?_;rfl,aY,aW,aW⟩;simp only[H.new,H.mod,H.cu,vz];exact W;obtain⟨-,r,F⟩:=c0;have N:=F (b*1000+6) aW (λv o n e=>by injection e;omega);have S:=F (b*1000+7) aW (λv o n e=>by injection e;omega);have q:=F (b*1000+8) aW (λv o n e=>by injection e;omega);have d0:∀s,s<b*1000->Y.o s=h'.o s:=λs J=>by rw[F s aW<|λv o n e=>by injection e;omega];exact N0 tr
    simp(disch:=omega)only[dE,gv,qK]at N S q;rw[o6]at N;rw[o7]at S;rw[E]at q;cases b1;cases X;refine CA t8 q ?_;exact⟨_,aM,r,λs J C=>by refine N0 ?_;rw[d0 s J];exact D s J C⟩;have X:dv w y1 _=.ok (u,y'):=X;refine FF N S q ?_;exact⟨⟨_,_,aM⟩,λs J C=>by rw[d0 s J];exact D s J C,.inl ⟨aM,aM⟩,by rw[r];exact X⟩;subst V;have x0:aA (I.map bm)<536870912:=by rw[bj];omega
    have y0:fW 2 (I.map bm)=aa:=oe (f:=bm) (λ_=>rfl) _;have e0:(I++⟨c,[]⟩::L).map bm=I.map bm++[iV c,.fz []]::L.map bm:=dg;have P:aA (I++⟨c,[]⟩::L)<=72*(m+1):=by rw[cN,cr];omega
    have X0:aA ([iV c,.fz []]::L.map bm)<536870912:=by rw[cr,bj];omega
    have f1:ah (aA<|[iV c,.fz []]::L.map bm) (2^30)=aa:=by simp only[ah,dh];omega
    have f2:ah (aA (I.map bm)+aA ([iV c,.fz []]::L.map bm)) (2^30)=aa:=by simp only[ah,dh];omega
    have f3:ar (aA<|[iV c,.fz []]::L.map bm) (au 0<|[iV c,.fz []]::L.map bm)=([iV c,.fz []]::L.map bm):=by rw[e6,bP]
    generalize I.map bm=z at*;have c4:∀H:H,H.o s=h'.o s->(vW VP).i 265 (b*1000+41) [.bh s ver 0<|aA z] w H=.ok (.bh ((b*1000+41)*1000+5) (((fM H s).o<|(b*1000+41)*1000+5).ver+2) 0<|aA z,((fM H s).new ((b*1000+41)*1000+5)<|.cells ab ab 68 2 []).new ((b*1000+41)*1000+5)<|.cells ab ab 68 2 z):=λH e=>Ua aW w H s ver f0 C0 z (by rw[e];exact s0) C y0 x0;refine Ag t4 t5 t6 t7 t8 o3 o4 o5 o6 o7 E (an o8<|an a5<|an a4<|an @zG<|an @FQ<|an @Dy<|an @Dx<|an @ua<|an @fg<|an @cC<|an @dW<|an @fk<|an (eB O)<|an @c6<|an @Fo<|an j0<|an @bZ<|an Z<|an c1<|an c2<|an @Qa<|an @Lz<|an c4<|an @GU<|an f1<|an f2<|an f3<|an i0<|an @cm<|an @Gm @Hq) ?_;refine HH (K:=λx=>lk _<|cJ 1<|dL (aO (aO x _) _) _) ?_;refine(I0 (b*1000+46) (I++⟨c,[]⟩::L) _ _ w b1 y1 aW P ?_ ?_ ?_).elim λY c0=>⟨_,Y,c0.1,?_⟩;exact h0.of λs J=>by exact N0 tr
    exact .inr ⟨_,_,_,_,by rw[e0,cN],by rw[e0];refine N0 ?_;rfl,aY,aW,aW⟩;simp only[H.new,H.mod,H.cu,vz];exact W;obtain⟨-,r,F⟩:=c0;have N:=F (b*1000+6) aW (λv o n e=>by injection e;omega);have S:=F (b*1000+7) aW (λv o n e=>by injection e;omega);have q:=F (b*1000+8) aW (λv o n e=>by injection e;omega);have d0:∀d,d<b*1000->d≠s->Y.o d=h'.o d:=λd J o1=>by rw[F d aW<|λv o n e=>by injection e;omega];exact N0 tr
    have Y0:Y.o s=⟨ver,f0,.cells ab aa 68 2 z⟩:=by rw[F s aW<|λv o n e=>by injection e;omega];simp(disch:=omega)only[dE,gv,qK,Dr,s0];rfl
    simp(disch:=omega)only[dE,gv,qK]at N S q;rw[o6]at N;rw[o7]at S;rw[E]at q;cases b1;cases X;refine CA t8 q ?_;exact⟨_,aM,r,λd J C=>by refine N0 ?_;rw[d0 d J<|λe=>C ver 0 (aA z)<|by rw[e]];exact D d J C⟩;have X:dv w y1 _=.ok (u,y'):=X;refine FF N S q ?_;exact⟨⟨_,_,aM⟩,λd J C=>by rw[d0 d J<|λe=>C ver 0 (aA z)<|by rw[e]];exact D d J C,.inr ⟨s,ver,f0,aa,aM,Y0,C,a0,b0⟩,by rw[r];exact X⟩
   |cons l g=>
    have a1:aA ([iV l]::g.map λn=>[iV n])<536870912:=by rw[cr]at l0;rw[cr,bj];omega
    have c2:=λh=>LK (b:=b*1000+31) aW w h [iV l] (g.map λn=>[iV n]) aM a1;have k0:aA ([iV c,.fz []]::L.map bm)=aA ([iV c,.fz<|[iV l]::g.map λn=>[iV n]]::L.map bm):=rfl;have g1:ah (aA<|[iV l]::g.map λn=>[iV n]) (2^30)=aa:=by simp only[ah,dh];omega
    have F0:ai (0+aA ([iV l]::g.map λn=>[iV n])) (aA<|[iV l]::g.map λn=>[iV n])=aa:=by rw[bZ];exact iE<|bu _
    have G0:ar (aA<|[iV l]::g.map λn=>[iV n]) (au 0<|[iV l]::g.map λn=>[iV n])=[iV l]::g.map λn=>[iV n]:=by rw[e6,bP]
    rcases t0 with⟨V,Y⟩|⟨s,ver,f0,C0,V,s0,C,a0,b0⟩
    subst Y;have w0:I=[]:=Jn.1 V;subst w0;refine Ag t4 t5 t6 t7 t8 o3 o4 o5 o6 o7 E (an o8<|an a5<|an a4<|an @zG<|an @FQ<|an @Dy<|an @Dx<|an @ua<|an @fg<|an @cC<|an @dW<|an @fk<|an (eB O)<|an @c6<|an @Fo<|an j0<|an @bZ<|an Z<|an c1<|an c2<|an g1<|an k0<|an @wG<|an @k6<|an F0<|an G0<|an @T9<|an @Qb<|an @P7<|an i0<|an @cm<|an @Gm @Hq) ?_;refine HH (K:=λx=>lk _<|cJ 1<|dL (aO (aO x _) _) _) ?_;refine(I0 (b*1000+46) ([]++⟨c,(l::g)⟩::L) _ _ w b1 y1 aW (by simp only[b7,cr];omega) ?_ ?_ ?_).elim λY c0=>⟨_,Y,c0.1,?_⟩;exact h0.of λs J=>by exact N0 tr
    exact .inr ⟨_,_,_,_,aM,by refine N0 ?_;rfl,aY,aW,aW⟩;simp only[H.new,H.mod,H.cu,vz];exact W;obtain⟨-,r,F⟩:=c0;have N:=F (b*1000+6) aW (λv o n e=>by injection e;omega);have S:=F (b*1000+7) aW (λv o n e=>by injection e;omega);have q:=F (b*1000+8) aW (λv o n e=>by injection e;omega);have d0:∀s,s<b*1000->Y.o s=h'.o s:=λs J=>by rw[F s aW<|λv o n e=>by injection e;omega];exact N0 tr
    simp(disch:=omega)only[dE,gv,qK]at N S q;rw[o6]at N;rw[o7]at S;rw[E]at q;cases b1;cases X;refine CA t8 q ?_;exact⟨_,aM,r,λs J C=>by refine N0 ?_;rw[d0 s J];exact D s J C⟩;have X:dv w y1 _=.ok (u,y'):=X;refine FF N S q ?_;exact⟨⟨_,_,aM⟩,λs J C=>by rw[d0 s J];exact D s J C,.inl ⟨aM,aM⟩,by rw[r];exact X⟩;subst V;have x0:aA (I.map bm)<536870912:=by rw[bj];omega
    have y0:fW 2 (I.map bm)=aa:=oe (f:=bm) (λ_=>rfl) _;have e0:(I++⟨c,(l::g)⟩::L).map bm=I.map bm++[iV c,.fz<|[iV l]::g.map λn=>[iV n]]::L.map bm:=dg;have P:aA (I++⟨c,(l::g)⟩::L)<=72*(m+1):=by rw[cN,cr];omega
    have X0:aA ([iV c,.fz<|[iV l]::g.map λn=>[iV n]]::L.map bm)<536870912:=by rw[cr,bj];omega
    have f1:ah (aA<|[iV c,.fz<|[iV l]::g.map λn=>[iV n]]::L.map bm) (2^30)=aa:=by simp only[ah,dh];omega
    have f2:ah (aA (I.map bm)+aA ([iV c,.fz<|[iV l]::g.map λn=>[iV n]]::L.map bm)) (2^30)=aa:=by simp only[ah,dh];omega
    have f3:ar (aA<|[iV c,.fz<|[iV l]::g.map λn=>[iV n]]::L.map bm) (au 0<|[iV c,.fz<|[iV l]::g.map λn=>[iV n]]::L.map bm)=([iV c,.fz<|[iV l]::g.map λn=>[iV n]]::L.map bm):=by rw[e6,bP]
    generalize I.map bm=z at*;have c4:∀H:H,H.o s=h'.o s->(vW VP).i 265 (b*1000+41) [.bh s ver 0<|aA z] w H=.ok (.bh ((b*1000+41)*1000+5) (((fM H s).o<|(b*1000+41)*1000+5).ver+2) 0<|aA z,((fM H s).new ((b*1000+41)*1000+5)<|.cells ab ab 68 2 []).new ((b*1000+41)*1000+5)<|.cells ab ab 68 2 z):=λH e=>Ua aW w H s ver f0 C0 z (by rw[e];exact s0) C y0 x0;refine Ag t4 t5 t6 t7 t8 o3 o4 o5 o6 o7 E (an o8<|an a5<|an a4<|an @zG<|an @FQ<|an @Dy<|an @Dx<|an @ua<|an @fg<|an @cC<|an @dW<|an @fk<|an (eB O)<|an @c6<|an @Fo<|an j0<|an @bZ<|an Z<|an c1<|an c2<|an g1<|an k0<|an @wG<|an @k6<|an F0<|an G0<|an c4<|an @GU<|an f1<|an f2<|an f3<|an i0<|an @cm<|an @Gm @Hq) ?_;refine HH (K:=λx=>lk _<|cJ 1<|dL (aO (aO x _) _) _) ?_;refine(I0 (b*1000+46) (I++⟨c,(l::g)⟩::L) _ _ w b1 y1 aW P ?_ ?_ ?_).elim λY c0=>⟨_,Y,c0.1,?_⟩;exact h0.of λs J=>by exact N0 tr
    exact .inr ⟨_,_,_,_,by rw[e0,cN],by rw[e0];refine N0 ?_;rfl,aY,aW,aW⟩;simp only[H.new,H.mod,H.cu,vz];exact W;obtain⟨-,r,F⟩:=c0;have N:=F (b*1000+6) aW (λv o n e=>by injection e;omega);have S:=F (b*1000+7) aW (λv o n e=>by injection e;omega);have q:=F (b*1000+8) aW (λv o n e=>by injection e;omega);have d0:∀d,d<b*1000->d≠s->Y.o d=h'.o d:=λd J o1=>by rw[F d aW<|λv o n e=>by injection e;omega];exact N0 tr
    have Y0:Y.o s=⟨ver,f0,.cells ab aa 68 2 z⟩:=by rw[F s aW<|λv o n e=>by injection e;omega];simp(disch:=omega)only[dE,gv,qK,Dr,s0];rfl
    simp(disch:=omega)only[dE,gv,qK]at N S q;rw[o6]at N;rw[o7]at S;rw[E]at q;cases b1;cases X;refine CA t8 q ?_;exact⟨_,aM,r,λd J C=>by refine N0 ?_;rw[d0 d J<|λe=>C ver 0 (aA z)<|by rw[e]];exact D d J C⟩;have X:dv w y1 _=.ok (u,y'):=X;refine FF N S q ?_;exact⟨⟨_,_,aM⟩,λd J C=>by rw[d0 d J<|λe=>C ver 0 (aA z)<|by rw[e]];exact D d J C,.inr ⟨s,ver,f0,aa,aM,Y0,C,a0,b0⟩,by rw[r];exact X⟩
   rintro h' ⟨o6,o7,⟨q8,x8,E⟩,D,t0,Q⟩;rw[bj,fS]at Q;have Q:dv w h'.y []=.ok (u,y'):=Q;simp only[dv]at Q;cases Q;refine CA E t8 ?_;exact⟨_,aM,aM,λs J C=>by refine N0 ?_;exact D s J C⟩
  have⟨h',k1,k2,k3⟩:=P0;exact⟨h',pW Tf ZA aX k1,k2,k3⟩
def aiB{P:VT}{f:Nat}{fn:Func}{xs:aC}{l:aB}(j:P.D.func f=ad fn)(c:fp P f (aA xs)=aa)(h:∀a y b y',dv a y l=.ok (b,y')->dC P fn.results.toList (cv P (cW P a) (P.h5 f) (P.gk f) (fn.body.getD .skip) (gK xs)<|.empty y)=.ok (.bn [],y')):iK P f xs l:=by
 intro a y b y' Q;refine Ca ?_;unfold fp at c;rw[j]at c
 cases e:fn.body with
 |none=>simp only[e]at c;cases c
 |some v=>
  simp only[e,bW]at c;have⟨⟨⟨⟨⟨z,I⟩,E⟩,T⟩,u⟩,U⟩:=c;have p:P.la f=ae:=by simpa using u
  have B:P.fL f=ae:=by simpa using U
  have h:=h a y b y' Q;rw[e]at h;show(match P.la f with|some g=>_|none=>match P.fL f with|some F=>_|none=>aO (jf P (cW P a) (P.h5 f) f xs<|.empty y) _)=_;rw[p];simp only;rw[B];show aO (jf P (cW P a) (P.h5 f) f xs<|.empty y) _=_;unfold jf;rw[j];simp only[e,z,I,E,T,iJ,a8];exact h
def s6(d:Nat):dk 6 (ad d)=6000+d:=rfl
def acJ:VP.h5 264=6:=rfl
def Iw:∀(l:List<|Int×ba) (A:List xU) (g:aL),(l.foldl lO (A,g)).1.length<=aA A+aA l/\ ∀p∈(l.foldl lO (A,g)).1,p∈A\/ (p.2∈l/\ bU p.2.2≠2/\ aA p.1<=aA g+aA l)
 |[],A,g=>⟨bu _,λp h=>.inl h⟩
 |x::l,A,g=>by
  rw[gn,lO];cases f:bU x.2==2;rw[br];have⟨V,a⟩:=Iw l (A++[(g,x)]) [];refine⟨by rw[cN]at V;simp only[cr,f_]at V|-;omega,λp M=>?_⟩
  rcases a p M with h|⟨d,j,Z⟩
  grind
  grind
  rw[a8];have⟨V,a⟩:=Iw l A (g++[x.1])
  grind
def NL:∀(l:List<|Int×ba) (A:List xU) (g:aL),(l.foldl lO (A,g)).2.length<=aA g+aA l
 |[],A,g=>bu _
 |x::l,A,g=>by
  rw[gn,lO];cases bU x.2==2;rw[br];have:=NL l (A++[(g,x)]) [];simp only[f_,cr]at this|-;omega;rw[a8];have:=NL l A (g++[x.1])
  grind
def W':∀(l:List ba) (b:Int),aA (kL b l)=aA l
 |[],_=>rfl
 |n::l,b=>by rw[kL,cr,W' l,cr]
def Lf{h:H}{es:aB}{s F:Nat}(hn:F≠s):(cp h<|u5 es s).o F=h.o F:=by
 cases es with
 |nil=>rfl
 |cons e es=>exact qK hn
def GF(h:H)(es:aB)(s:Nat):(cp h<|u5 es s).y=h.y:=by
 cases es with
 |nil=>rfl
 |cons e es=>exact vz _ _
abbrev iC(n:Int):List VV:=[iV n]
def ahR(M F:Int)(a:dZ)(W:List ba)(t:Int)(hn:eR<|.mk 3 M F a W)(r0:0<=t)(s0:t+dx W<=500)(t0:∀p∈kL t W,bU p.2≠2->Mk p/\ iK VP (um p.2) [.agg<|dP p.2 p.1,.yield] ((vQ p).map jv)):iK VP 264 [.agg<|dP (.mk 3 M F a W) t,.yield] ((eZ []<|eJ t [] W).map jv):=by
 have z:=Ud (.mk 3 M F a W) t hn r0 (by have:=yc W;omega);have z:iK VP 396 [.yield,.bA (dP (.mk 3 M F a W) t) 0] ((kL t W).map zu):=z;have g:=aaW (.mk 3 M F a W) t;have N:=BL (.mk 3 M F a W) t;have o:=λh=>sR (.mk 3 M F a W) t h 10;have C:gg (ad 10) (dP (.mk 3 M F a W) t) 0=.ok (.agg<|dP (.mk 3 M F a W) t):=by rw[mn];rfl
 rw[eR]at hn;obtain⟨-,h8,c,-⟩:=hn;have j:=Nr W t [] [];rw[i_,b7]at j;have⟨a0,c0⟩:=Iw (kL t W) [] [];have s:((kL t W).foldl lO ([],[])).1 ≠[]:=λe=>by
  rw[e]at j
  rcases c with⟨h,_⟩|⟨h,_⟩|⟨_,x,l,rfl,u0⟩|⟨h,_⟩
  cases h;cases h;rw[eJ]at j;have:(bU x==2)=ab:=by simpa using u0
  rw[this]at j;cases j;exact avN
 have v0:aA (kL t W)<=8:=by rw[W'];exact h8
 rw[<-j];generalize dP (.mk 3 M F a W) t=F0 at*;generalize kL t W=L at*;have w0:=λi=>NL (L.take i) [] [];have d0:=λi=>Iw (L.take i) [] [];refine aiB ags apT λw y b x0 j0=>?_;refine S8 Tryz.f264.eq_1 @acJ @s6 N C o g.bE @cm ?_;generalize f:Vm.dX _ _ _=T;have t2:T 3=.aR 6003 1 0 0:=by rw[<-f];exact aug
 have t4:T 4=.aR 6004 1 0 0:=by rw[<-f];exact aug
 have t5:T 5=.aR 6005 1 0 0:=by rw[<-f];exact aug
 have t6:T 6=.aR 6006 1 0 0:=by rw[<-f];exact aug
 clear f;refine rF 0 (L.map zu) z aM (λi h=>h.y=y/\ (h.o 6008).ver=0/\ h.o 6003=⟨1,0,.cells aa ab 448 1 [[.yield]]⟩/\ (∃m v,h.o 6004=⟨1,m,.cells aa ab 453 1 [[b9 (((L.take i).foldl lO ([],[])).1.map pC) 6024 v]]⟩/\ b6 (h.o 6024) (((L.take i).foldl lO ([],[])).1.map pC) v 310 10)/\ (∃m v,h.o 6005=⟨1,m,.cells aa ab 454 1 [[b9 (((L.take i).foldl lO ([],[])).1.map gC) 6028 v]]⟩/\ b6 (h.o 6028) (((L.take i).foldl lO ([],[])).1.map gC) v 66 1)/\ ∃m v,h.o 6006=⟨1,m,.cells aa ab 66 1 [[b9 (((L.take i).foldl lO ([],[])).2.map iC) 6020 v]]⟩/\ b6 (h.o 6020) (((L.take i).foldl lO ([],[])).2.map iC) v 3 1) ?_ ?_ ?_;refine S1 @cm ?_;exact⟨⟨0,0,aM,aM,λh=>absurd aM h⟩,⟨0,0,aM,aM,λh=>absurd aM h⟩,0,0,aM,aM,λh=>absurd aM h⟩;rintro i h k0 ⟨E,G,u,⟨m4,U,D,J⟩,⟨m5,V,Y,Z⟩,m6,v6,o6,I⟩;rw[bj]at k0;rw[fK];have y0:(L.take<|i+1).foldl lO ([],[])=lO ((L.take i).foldl lO ([],[])) L[i]:=by rw[ej k0,jQ];rfl
 have O:=w0 i;have Q:=(d0 i).1;rw[y0];rw[ep]at O Q;generalize(L.take i).foldl lO ([],[])=S at*;have⟨A,q⟩:=S;generalize L[i]=p at*;have⟨B,n⟩:=p;have e0:gg ae (dP n B) 0=.ok (iV<|bU n):=auK;have e9:gg ae (dP n B) 9=.ok (iV B):=auK;have N:=BL n B;have C:gg (ad 10) (dP n B) 0=.ok (.agg<|dP n B):=auK;have o:=λh=>sR n B h 10;have d:ar 10 (dP n B)=dP n B:=eM (by rw[N];exact auS)
 have f0:lO (A,q) (B,n)=bif bU n==2 then(A,q++[B])else(A++[(q,B,n)],[]):=rfl
 rw[f0];have l0:aA A<=8:=by simp only[f_]at Q;omega
 have z0:aA q<=8:=by simp only[f_]at O;omega
 have g0:aA (A.map pC)<536870912:=auC;have h0:aA (A.map gC)<536870912:=auC;have i0:aA (q.map iC)<536870912:=auC;show ew (fH _ _ _ _ h [.agg<|dP n B]) _;cases m0:bU n==2;have A0:(A++[(q,B,n)]).map pC=A.map pC++[dP n B]:=dg;have B0:(A++[(q,B,n)]).map gC=A.map gC++[[.fz<|q.map iC]]:=dg;rw[br];simp only[A0,B0,i_];refine bq t4 t5 t6 e0 e9 N C o m0 @s6 D (an Y<|an o6<|an (iM J g0)<|an (iM Z h0)<|an (gf I)<|an d<|an @Lf @GF) ?_;exact⟨E,G,u,⟨_,_,aM,by rw[J.1];exact auh⟩,⟨_,_,aM,by rw[Z.1];exact auh⟩,_,_,aM,aM,λh=>absurd aM h⟩;have C0:(q++[B]).map iC=q.map iC++[[iV B]]:=dg;rw[a8];simp only[C0];refine bq t4 t5 t6 e0 e9 N C o m0 @s6 D (an Y<|an o6<|iM I i0) ?_;exact⟨E,G,u,⟨_,_,aM,J⟩,⟨_,_,aM,Z⟩,_,_,aM,by rw[I.1];exact auh⟩;rintro h ⟨E,G,u,⟨m4,U,D,J⟩,⟨m5,V,Y,Z⟩,m6,v6,o6,I⟩;rw[bj,bP]at D J Y Z;generalize(L.foldl lO ([],[])).1 =A at*;have⟨n4,J⟩:=J.2 (by simpa using s);have⟨n5,Z⟩:=Z.2 (by simpa using s);have w4:b9 (A.map pC) 6024 U=.bh 6024 U 0 (aA A):=by
  cases A with
  |nil=>exact absurd aM s
  |cons p A=>show VV.bh 6024 U 0 (aA<|(p::A).map pC)=_;rw[bj]
 have w5:b9 (A.map gC) 6028 V=.bh 6028 V 0 (aA A):=by
  cases A with
  |nil=>exact absurd aM s
  |cons p A=>show VV.bh 6028 V 0 (aA<|(p::A).map gC)=_;rw[bj]
 rw[w4]at D;rw[w5]at Y
 have P:=Uc (A:=A) (by simp only[f_]at a0;omega) (λp D0=>by
  rcases c0 p D0 with h|⟨h1,h2,h3⟩
  cases h;have⟨k1,k2⟩:=t0 p.2 h1 h2
  exact⟨by simp only[f_]at h3;omega,k1,k2⟩) (aA A) 0 (bZ _) 6032 [] .nil
 refine S8 t2 t4 t5 t6 @s6 @Dy G @bZ ?_;have E0:∀{x:R (VV×H)} {K:R (VV×H)->R (VV×aB)} {r:VV} {o0:H} {X:R (VV×aB)},x=.ok (r,o0)->K (.ok (r,o0))=X->K x=X:=λe k=>by rw[e];exact k
 refine(P _ w b x0 aW (kQ _) ?_ (.inl ⟨aM,aM⟩) ?_).elim λh2 p0=>E0 (K:=λx=>dC VP _<|aO (aO x _) _) p0.1 ?_;exact⟨by refine N0 ?_;exact u,⟨_,_,by refine N0 ?_;exact D,_,by refine N0 ?_;exact J⟩,⟨_,_,by refine N0 ?_;exact Y,_,by refine N0 ?_;exact Z⟩,⟨_,by refine N0 ?_;rw[G];rfl⟩⟩;rw[<-E]at j0;exact j0;exact S1 p0.2.1 tr
def Xf:∀(R:List<|aL×List (List bo)) (s z:List bo),z∈eZ s R->∃t,z=s++t
 |[],s,z,o=>by rw[eZ,ku]at o;exact at6
 |r::R,s,z,o=>by rw[eZ,oL]at o;have⟨y,Q,o⟩:=o;have⟨t,D⟩:=Xf R _ z o;exact at6
def Nt:∀(l:List ba) (b:Int) (g:aL) (s:List bo),(∀x∈l,bU x≠2->∀b,∀y∈cK b x,(aA y:Int)<=6*cS x)->∀z∈eZ s (eJ b g l),(aA z:Int)<=aA s+6*dx l
 |[],b,g,s,h,z,o=>by rw[eJ,eZ,ku]at o;subst o;rw[dx];omega
 |n::l,b,g,s,h,z,o=>by rw[eJ]at o;have p:=qU n;rw[dx];cases f:bU n==2<;>rw[f]at o;rw[br,eZ,oL]at o;have⟨y,Q,o⟩:=o;have V:=Nt l _ _ _ (λx m=>h x<|dR _ m) z o;have i:=h n ei aum b y Q;rw[cN,Io]at V;omega;rw[a8]at o;have V:=Nt l _ _ _ (λx m=>h x<|dR _ m) z o;omega
def VH:∀(l:List ba) (x:ba),x∈l->cS x<=dx l
 |n::l,x,h=>by
  have:=yc l;have:=qU n;rw[dx]
  rcases dz.1 h with h|h
  subst h;omega;have:=VH l x h;omega
def DU:∀(n:ba),eR n->bU n≠2->∀b,∀y∈cK b n,(∃s t,y=s::t/\ s.bH=[])/\ (aA y:Int)<=6*cS n
 |.mk k M F a W,r,G,b,y,Q=>by
  rw[eR]at r;obtain⟨-,C,f,A⟩:=r;have I:∀x∈W,bU x≠2->∀b,∀y∈cK b x,(∃s t,y=s::t/\ s.bH=[])/\ (aA y:Int)<=6*cS x:=λx m j=>DU x (A x m) j;rw[cK]at Q
  rcases f with⟨rfl,rfl,h,j,d⟩|⟨rfl,_⟩|⟨rfl,x,l,rfl,m⟩|⟨rfl,h,j⟩
  have Q:y∈il b M (F-M+1).toNat:=Q;unfold il at Q;obtain⟨i,g,rfl⟩:=fv.1 Q;rw[lS]at g;have P:cS (.mk 1 M F a [])=1:=rfl;refine⟨⟨⟨b,[]⟩,ak (M.toNat+i-1) ⟨b,[]⟩,?_,aM⟩,?_⟩;rw[<-Fy];exact aw1;rw[jR,P];omega;exact awB;have Q:y∈eZ [] (eJ b []<|x::l):=Q;rw[xy aW aW];have P:=Nt (x::l) b [] [] (λx m j b y Q=>(I x m j b y Q).2) y Q;refine⟨?_,by rw[f_]at P;omega⟩;rw[eJ]at Q;have S:(bU x==2)=ab:=by simpa using m
  rw[S,br,eZ,oL]at Q;have⟨z,o,Q⟩:=Q;have⟨t,D⟩:=Xf _ _ _ Q;have⟨⟨s,Y,B,_⟩,_⟩:=I x ei m b z o;refine⟨⟨s.da,[]⟩,Y++t,?_,aM⟩;rw[D,B];rfl;have Q:y∈fT b W:=Q;rw[xy aW aW];rw[yy,oL]at Q;have⟨p,O,Q⟩:=Q;have⟨c,_⟩:=xM _ _ _ O
  grind
 termination_by n=>n
 decreasing_by
  have:=j6 m;simp only[ba.mk.sizeOf_spec];omega
def ajk(n:ba)(hn:eR n)(a:bU n≠2)(b:Int):Mk (b,n):=by
 intro y Q;have⟨⟨s,t,d,A⟩,Z⟩:=DU n hn a b y Q;have:=(qS hn).2.2
 grind
def Ui:∀(n:ba) (b:Int),eR n->bU n≠2->0<=b->b+cS n<=500->iK VP (um n) [.agg<|dP n b,.yield] ((cK b n).map jv)
 |.mk k M F a e,b,r,G,X,v=>by
  have C:=r;rw[eR]at r;obtain⟨-,t,f,A⟩:=r;have I:∀x∈e,∀W,bU x≠2->0<=W->W+cS x<=500->iK VP (um x) [.agg<|dP x W,.yield] ((cK W x).map jv):=λx s W=>Ui x W<|A x s;rw[cK]
  rcases f with⟨rfl,rfl,h,j,d⟩|⟨rfl,_⟩|⟨rfl,x,l,rfl,s⟩|⟨rfl,h,j⟩
  exact ahP M F a b h d;exact awB;rw[xy aW aW]at v;refine ahR M F a (x::l) b C X v λp O j=>?_;have⟨m,c,Z⟩:=xM _ _ _ O;exact⟨ajk p.2 (A _ m) j p.1,I _ m _ j aW aW⟩;rw[xy aW aW]at v;refine ahQ M F a e b C X v λp O=>?_;have⟨m,c,Z⟩:=xM _ _ _ O
  grind
 termination_by n=>n
 decreasing_by
  have:=j6 s;simp only[ba.mk.sizeOf_spec];omega
def atr:((1:Int)==1)=aa:=rfl
def att:((2:Int)==1)=ab:=rfl
def atu:((2:Int)==2)=aa:=rfl
def atv:((3:Int)==1)=ab:=rfl
def atw:((3:Int)==2)=ab:=rfl
def atx:((3:Int)==3)=aa:=rfl
def atz:((4:Int)==1)=ab:=rfl
def atA:((4:Int)==2)=ab:=rfl
def atB:((4:Int)==3)=ab:=rfl
def atC:((4:Int)==4)=aa:=rfl
def aty:((3:Int)==4)=ab:=rfl
def zq:=af atr<|af att<|af atu<|af atv<|af atw<|af atx<|af atz<|af atA<|af atB<|af atC aty
abbrev hJ:=Int×Int×Int
def mi(a b:Int):Int:=bif ax (b<a)then b else a
def Hv(a b:Int):Int:=bif ax (a<b)then b else a
def tf(a b:Int):mi a b=min a b:=by
 unfold mi
 grind
def V7(a b:Int):Hv a b=max a b:=by
 unfold Hv
 grind
def kC(a b:hJ):hJ:=(mi (a.1*b.1) 1000000,a.2.1+b.2.1,a.2.2+b.2.2)
def nW(a b:hJ):hJ:=(mi (a.1+b.1) 1000000,mi a.2.1 b.2.1,Hv a.2.2 b.2.2)
def de:List hJ->hJ
 |[]=>(0,0,0)
 |b::l=>l.foldl nW b
mutual
def cw:ba->hJ
 |.mk k M F _ W=>bif k==1 then(F-M+1,M,F)else bif k==2 then(1,0,0)else bif k==3 then(cD W).foldl kC (1,0,0)else de<|cD W
def cD:List ba->List hJ
 |[]=>[]
 |n::l=>cw n::cD l
end
def tM:∀l,cD l=l.map cw
 |[]=>rfl
 |n::l=>by rw[cD,tM l];rfl
def FY(l:List ba):aA (cD l)=aA l:=by rw[tM,bj]
def dM(b:hJ)(n:Int):Prop:=1<=b.1/\ b.1<=1000000/\ 0<=b.2.1/\ b.2.1<=6*n/\ 0<=b.2.2/\ b.2.2<=6*n
def adg{a b:hJ}{n m:Int}(h1:dM a n)(p:dM b m):dM (kC a b) (n+m):=by have⟨B,z,x,h,Z,A⟩:=h1;have⟨L,o,k,P,S,J⟩:=p;have d:1*1<=a.1*b.1:=Ci B L aW aW;unfold dM kC;simp only[tf];omega
def adf{a b:hJ}{n m:Int}(h1:dM a n)(p:dM b m)(hn:0<=n)(Y:0<=m):dM (nW a b) (n+m):=by have⟨B,z,x,h,Z,A⟩:=h1;have⟨L,o,k,P,S,J⟩:=p;unfold dM nW;simp only[tf,V7];omega
def EL:∀{l:List ba} {i:Nat} (G:i<aA l),dx (l.take<|i+1)=dx (l.take i)+cS l[i]
 |n::l,0,_=>by simp[dx]
 |n::l,i+1,G=>by have:=EL (l:=l) (i:=i)<|ka G;simp only[j7,dx,List.getElem_cons_succ]at this|-;omega
def Ls:∀(l:List ba) (a:hJ) (n:Int),dM a n->(∀x∈l,dM (cw x)<|cS x)->dM ((cD l).foldl kC a) (n+dx l)
 |[],a,n,h,_=>by simpa[cD,dx]using h
 |x::l,a,n,h,s=>by have:=Ls l _ _ (adg h<|s x ei) λy Q=>s y<|dR _ Q;rw[cD,gn,dx,<-Int.add_assoc];exact aw0
def Lp:∀(l:List ba) (a:hJ) (n:Int),0<=n->dM a n->(∀x∈l,dM (cw x)<|cS x)->dM ((cD l).foldl nW a) (n+dx l)
 |[],a,n,_,h,_=>by simpa[cD,dx]using h
 |x::l,a,n,Q,h,s=>by have:=Lp l _ _ (by have:=qU x;omega) (adf h (s x ei) Q<|qU x) λy f=>s y<|dR _ f;rw[cD,gn,dx,<-Int.add_assoc];exact aw0
def yB:∀(n:ba),eR n->dM (cw n) (cS n)
 |.mk k M F a W,r=>by
  rw[eR]at r;obtain⟨-,C,f,A⟩:=r;have I:∀x∈W,dM (cw x) (cS x):=λx s=>yB x<|A x s;rw[cw]
  rcases f with⟨rfl,rfl,h,p,d⟩|⟨rfl,rfl⟩|⟨rfl,x,l,rfl,s⟩|⟨rfl,h,p⟩
  have P:cS (.mk 1 M F a [])=1:=rfl;rw[P];show dM (F-M+1,M,F) 1;exact awe;have P:cS (.mk 2 M F a [])=1:=rfl;rw[P];show dM (1,0,0) 1;exact awe;rw[xy aW aW];have:=Ls (x::l) (1,0,0) 0 awe I;exact at6;rw[xy aW aW]
  cases W with
  |nil=>exact absurd aM h
  |cons x l=>rw[dx];exact Lp l (cw x) (cS x) (qU x) (I x ei) λy Q=>I y (dR _ Q)
 termination_by n=>n
 decreasing_by
  have:=j6 s;simp only[ba.mk.sizeOf_spec];omega
def CT(l:List ba)(i:Nat)(G:i<aA l):(cD l).take (i+1)=(cD l).take i++[cw l[i]]:=by rw[tM,ej<|by rw[bj];exact G,fK]
def QS(l:List ba)(i:Nat):(cD l).take i=cD (l.take i):=by rw[tM,tM,Fw]
def D5{α:Type}{l:List α}{i:Nat}{x:α}(h:x∈l.take i):x∈l:=z_ h
def jE(k:Int)(a:Int)(b:hJ):Int:=bif k==3 then mi (a*b.1) 1000000 else mi (a+b.1) 1000000
def Kw:∀(l:List hJ) (a:hJ),(l.foldl kC a).1 =l.foldl (jE 3) a.1
 |[],a=>rfl
 |b::l,a=>by rw[gn,Kw l,gn];rfl
def Rp{k:Int}(f:k≠3):∀(l:List hJ) (a:hJ),(l.foldl nW a).1 =l.foldl (jE k) a.1
 |[],a=>rfl
 |b::l,a=>by
  rw[gn,Rp f l,gn];have:(k==3)=ab:=by simp[f]
  rw[jE,this];rfl
def Ro{k:Int}(f:k≠3){l:List hJ}(h:∀b∈l,0<=b.1/\ b.1<=1000000):(de l).1 =l.foldl (jE k) 0:=by
 cases l with
 |nil=>rfl
 |cons b l=>
  have Q:=h b ei;have:(k==3)=ab:=by simp[f]
  rw[de,Rp f,gn,jE,this,br,tf];congr 1;omega
def aaO:∀(n:ba),eR n->aS VP 278 [.agg<|bc n] (iV (cw n).1)
 |.mk k M f a W,r=>by
  have a0:=r;rw[eR]at r;obtain⟨-,h8,O,o⟩:=r;have C:∀i (G:i<aA W),aS VP 278 [.agg<|bc W[i]] (iV (cw W[i]).1):=λi G=>aaO W[i]<|o _<|bD G;have D:∀x∈W,dM (cw x) (cS x):=λx U=>yB x<|o x U;have p:∀b∈cD W,0<=b.1/\ b.1<=1000000:=λb e=>by rw[tM,fv]at e;obtain⟨x,U,rfl⟩:=e;have:=D x U;unfold dM at this;omega
  rw[cw]
  rcases O with⟨rfl,rfl,V,j,d⟩|⟨rfl,rfl⟩|F
  have J:av .i64 (f-M)=f-M:=d' _ aW aW;have X:av .i64 (f-M+1)=f-M+1:=d' _ aW aW;show aS VP 278 _<|iV<|f-M+1;refine gO Tryz.f278.eq_1 λw y=>?_;exact Z2 @bg @zq tr;show aS VP 278 _<|iV 1;refine gO Tryz.f278.eq_1 λw y=>?_;exact S2 @bg @zq tr;have F:k=3\/ k=4:=by
   rcases F with⟨h,_⟩|⟨h,_⟩
   exact .inl h;exact .inr h
  have t:(k==1)=ab:=by rcases F with rfl|rfl<;>rfl
  have N:(k==2)=ab:=by rcases F with rfl|rfl<;>rfl
  have L:(bif k==1 then(f-M+1,M,f)else bif k==2 then(1,0,0)else bif k==3 then(cD W).foldl kC (1,0,0)else de<|cD W).1 =(cD W).foldl (jE k) (bif k==3 then 1 else 0):=by
   rw[t,N]
   rcases F with rfl|rfl
   exact Kw _ _;exact Ro aW p
  rw[L];have E:∀(l:List hJ) (c:Int),(∀b∈l,0<=b.1/\ b.1<=1000000)->0<=c->c<=1000000->0<=l.foldl (jE k) c/\ l.foldl (jE k) c<=1000000:=by
   intro l
   induction l with
   |nil=>intro c _ V j;exact⟨V,j⟩
   |cons b l v=>intro c e V j;have Q:=e b ei;have b0:0<=c*b.1:=OP V Q.1;refine v _ (λb I=>e b<|dR _ I) ?_ ?_;unfold jE;rw[tf,tf];cases k==3;show 0<=min (c+b.1) _;omega;show 0<=min (c*b.1) _;omega;unfold jE;rw[tf,tf];cases k==3;show min (c+b.1) _<=_;omega;show min (c*b.1) _<=_;omega
  have A:=λi=>E ((cD W).take i) (bif k==3 then 1 else 0) (λb e=>p b<|D5 e) (by cases k==3<;>decide) (by cases k==3<;>decide);have s:∀i (G:i<aA W),((cD W).take<|i+1).foldl (jE k) (bif k==3 then 1 else 0)=jE k (((cD W).take i).foldl (jE k)<|bif k==3 then 1 else 0) (cw W[i]):=λi G=>by rw[CT W i G,jQ];rfl
  have g:=FY W;cases d:k==3<;>rw[d]at A s;refine gO Tryz.f278.eq_1 λw y=>?_;refine Z1 @bg ?_;refine lF 1 (aA W) (λi T h=>T 1=.aR 1 1 0 0/\ T 4=iV i/\ T 3=iV (((cD W).take i).foldl (jE k) 0)/\ h=(H.empty y).new 1 (.cells aa ab 31 9 [bc<|.mk k M f a W])) ?_ ?_ ?_;refine S1 @bg ?_;exact at1;rintro i T h G ⟨P,q,Z,rfl⟩;have Y:i<9223372036854775807:=aW;have m:=p _ (by rw[tM];exact Cq<|bD G);have Q:=A i;have B:=s i G;simp only[br]at B Q;rw[B];have S:∀c b,jE k c b=mi (c+b.1) 1000000:=λc b=>by rw[jE,d];rfl
  rw[S];generalize((cD W).take i).foldl (jE k) 0=c at*;have J:av .i64 (c+(cw W[i]).1)=c+(cw W[i]).1 :=d' _ aW aW;refine Z4 @bg (a6 G) @bd ((C i G).aP) ?_;rfl;rintro T h ⟨P,q,Z,rfl⟩;rw[<-g,bP]at Z;exact avq;refine gO Tryz.f278.eq_1 λw y=>?_;refine Z1 @bg ?_;refine lF 1 (aA W) (λi T h=>T 1=.aR 1 1 0 0/\ T 4=iV i/\ T 3=iV (((cD W).take i).foldl (jE k) 1)/\ h=(H.empty y).new 1 (.cells aa ab 31 9 [bc<|.mk k M f a W])) ?_ ?_ ?_;refine S1 @bg ?_;exact at1;rintro i T h G ⟨P,q,Z,rfl⟩;have Y:i<9223372036854775807:=aW;have m:=p _ (by rw[tM];exact Cq<|bD G);have Q:=A i;have B:=s i G;simp only[a8]at B Q;rw[B];have S:∀c b,jE k c b=mi (c*b.1) 1000000:=λc b=>by rw[jE,d];rfl
  rw[S];generalize((cD W).take i).foldl (jE k) 1=c at*;have u:0<=c*(cw W[i]).1 :=OP Q.1 m.1;have z:c*(cw W[i]).1 <=1000000*1000000:=Ci Q.2 m.2 m.1 aW;have J:av .i64 (c*(cw W[i]).1)=c*(cw W[i]).1 :=d' _ aW aW;refine Z4 @bg (a6 G) @bd ((C i G).aP) ?_;rfl;rintro T h ⟨P,q,Z,rfl⟩;rw[<-g,bP]at Z;exact avq
 termination_by n=>n
 decreasing_by
  have:=j6<|bD G;simp only[ba.mk.sizeOf_spec];omega
def Vd(k M F:Int)(a:dZ)(W:List ba):cS (.mk k M F a W)=bif (k==1)||(k==2)then 1 else dx W:=by
 rw[cS,gh,<-Mg]
 grind
def Oq:∀(n:ba),eR n->aS VP 279 [.agg<|bc n] (iV<|cS n)
 |.mk k M F a W,r=>by
  rw[eR]at r;obtain⟨-,C,f,x⟩:=r;have I:∀i (G:i<aA W),aS VP 279 [.agg<|bc W[i]] (iV<|cS W[i]):=λi G=>Oq W[i]<|x _<|bD G;have L:∀i (G:i<aA W),dx (W.take<|i+1)=dx (W.take i)+cS W[i]:=λi G=>EL G;have j:∀i (G:i<aA W),0<=cS W[i]/\ cS W[i]<=12:=λi G=>⟨qU _,(qS<|x _<|bD G).2.2⟩;have m:∀i,i<=aA W->0<=dx (W.take i)/\ dx (W.take i)<=12*i:=by
   intro i
   induction i with
   |zero=>intro _;simp[dx]
   |succ i Y=>intro G;have V:=Y aW;have p:=j i aW;rw[L i aW];omega
  rw[Vd];cases O:k==1;cases l:k==2;rw[tD,br];refine gO Tryz.f279.eq_1 λw y=>?_;refine Z1 @bg ?_;refine lF 0 (aA W) (λi T h=>T 1=.aR 1 1 0 0/\ T 4=iV i/\ T 3=iV (dx<|W.take i)/\ h=(H.empty y).new 1 (.cells aa ab 31 9 [bc<|.mk k M F a W])) ?_ ?_ ?_;refine S1 @bg ?_;exact at1;rintro i T h G ⟨g,Q,A,rfl⟩;have V:=m i aW;have p:=j i G;have P:av .i64 (dx (W.take i)+cS W[i])=dx (W.take i)+cS W[i]:=d' _ aW aW;rw[L i G];exact av7;rintro T h ⟨g,Q,A,rfl⟩;rw[bP]at A;exact avq;refine gO Tryz.f279.eq_1 λw y=>?_;exact avq;refine gO Tryz.f279.eq_1 λw y=>?_;exact avq
 termination_by n=>n
 decreasing_by
  have:=j6<|bD G;simp only[ba.mk.sizeOf_spec];omega
abbrev bC(b:hJ):List VV:=[iV b.1,iV b.2.1,iV b.2.2]
def ade{l:List hJ}{b:hJ}(h:l≠[]):de (l++[b])=nW (de l) b:=by
 cases l with
 |nil=>exact absurd aM h
 |cons x l=>rw[ck,de,jQ];rfl
def FZ{b:hJ}{n m:Int}(h:dM b n)(Y:n<=m):dM b m:=by unfold dM at*;omega
def Tl{k:List ba}(C:aA k<=8)(hn:∀x∈k,eR x)(i:Nat):dM (((cD k).take i).foldl kC (1,0,0)) 100:=by
 rw[QS];have V:=Ls (k.take i) (1,0,0) 0 awe λx s=>yB x<|hn x<|D5 s;have a:dx (k.take i)<=12*aA (k.take i):=by
  have:∀l:List ba,(∀x∈l,eR x)->dx l<=12*aA l:=by
   intro l
   induction l with
   |nil=>intro _;simp[dx]
   |cons x l v=>intro h;have d:=v λy Q=>h y<|dR _ Q;have A:=(qS<|h x ei).2.2;rw[dx,cr];omega
  grind
 rw[ep]at a;exact FZ V aW
def aaD:∀(n:ba),eR n->aS VP 213 [.agg<|bc n] (.bn [iV (cw n).2.1,iV (cw n).2.2])
 |.mk k M F a W,X=>by
  rw[eR]at X;obtain⟨-,t,B,r⟩:=X;have I:∀i (G:i<aA W),aS VP 213 [.agg<|bc W[i]] (.bn [iV (cw W[i]).2.1,iV (cw W[i]).2.2]):=λi G=>aaD W[i]<|r _<|bD G;have D:∀i (G:i<aA W),dM (cw W[i]) 12:=λi G=>FZ (yB _<|r _<|bD G) (qS<|r _<|bD G).2.2;have g:=FY W;have f:=Tl t r;rw[cw]
  rcases B with⟨rfl,rfl,V,p,d⟩|⟨rfl,rfl⟩|⟨rfl,_⟩|⟨rfl,_⟩
  show aS VP 213 _<|.bn [iV M,iV F];exact awZ;show aS VP 213 _<|.bn [iV 0,iV 0];exact awZ;show aS VP 213 _<|.bn [iV ((cD W).foldl kC (1,0,0)).2.1,iV ((cD W).foldl kC (1,0,0)).2.2];refine gO Tryz.f213.eq_1 λw y=>?_;refine S2 @bg @zq ?_;refine lF 1 (aA W) (λi T h=>T 1=.aR 1 1 0 0/\ T 6=iV i/\ T 4=iV (((cD W).take i).foldl kC (1,0,0)).2.1 /\ T 5=iV (((cD W).take i).foldl kC (1,0,0)).2.2 /\ h=(H.empty y).new 1 (.cells aa ab 31 9 [bc<|.mk 3 M F a W])) ?_ ?_ ?_;refine S1 @bg ?_;exact auM;rintro i T h G ⟨P,N,Q,Y,rfl⟩;have Z:i<9223372036854775807:=aW;have V:=f i;have p:=D i G;rw[CT W i G,jQ];generalize((cD W).take i).foldl kC (1,0,0)=c at*;unfold dM at V p;have s:av .i64 (c.2.1+(cw W[i]).2.1)=c.2.1+(cw W[i]).2.1 :=d' _ aW aW;have U:av .i64 (c.2.2+(cw W[i]).2.2)=c.2.2+(cw W[i]).2.2 :=d' _ aW aW;refine Z5 @bg (a6 G) @bd ((I i G).aP) @zq ?_;exact at1;rintro T h ⟨P,N,Q,Y,rfl⟩;rw[<-g,bP]at Q Y;exact avq;show aS VP 213 _<|.bn [iV (de<|cD W).2.1,iV (de<|cD W).2.2];refine gO Tryz.f213.eq_1 λw y=>?_;refine S2 @bg @zq ?_;refine lF 1 (aA W) (λi T h=>T 1=.aR 1 1 0 0/\ T 6=iV i/\ T 4=iV (de<|(cD W).take i).2.1 /\ T 5=iV (de<|(cD W).take i).2.2 /\ h=(H.empty y).new 1 (.cells aa ab 31 9 [bc<|.mk 4 M F a W])) ?_ ?_ ?_;refine S1 @bg ?_;exact auM;rintro i T h G ⟨P,N,Q,Y,rfl⟩;have Z:i<9223372036854775807:=aW;rw[CT W i G]
  cases i with
  |zero=>refine Z5 @bg (a6 G) @bd ((I 0 G).aP) @zq ?_;exact⟨λ_=>⟨aM,aM⟩,λh=>by cases h⟩
  |succ i=>
   have C:(cD W).take (i+1)≠[]:=λe=>by have:=np aA e;rw[ep,g]at this;simp only[f_]at this;omega
   have l:(((i+1:Nat):Int)==0)=ab:=aul;rw[ade C];generalize de ((cD W).take<|i+1)=c at*;refine Z5 @bg (a6 G) @bd ((I (i+1) G).aP) @zq ?_;exact⟨aM,aM⟩
  rintro T h ⟨P,N,Q,Y,rfl⟩;rw[<-g,bP]at Q Y;exact avq
 termination_by n=>n
 decreasing_by
  have:=j6<|bD G;simp only[ba.mk.sizeOf_spec];omega
def M6(h:H)(v m:Nat)(c b:hJ):H:=(((h.new 47003<|.cells aa ab 304 3 [bC b]).mod 3<|.cells aa ab 304 3 [[iV<|mi (c.1+b.1) 1000000,iV c.2.1,iV c.2.2]]).mod 3<|.cells aa ab 304 3 [[iV<|mi (c.1+b.1) 1000000,iV<|mi c.2.1 b.2.1,iV c.2.2]]).mod 3<|.cells aa ab 304 3 [bC<|nW c b]
def XG(D:a_)(xs:Array Operand)(l:Array Nat):gP D (.call ⟨.builtin .min,xs,l⟩)=ab:=rfl
def XF(D:a_)(xs:Array Operand)(l:Array Nat):gP D (.call ⟨.builtin .max,xs,l⟩)=ab:=rfl
def s47(d:Nat):dk 47 (ad d)=47000+d:=rfl
def s66(d:Nat):dk 66 (ad d)=66000+d:=rfl
def aqf(w:cV)(h:H)(c b:hJ)(m:Nat)(s:h.o 3=⟨1,m,.cells aa ab 304 3 [bC c]⟩)(P:av .i64 (c.1+b.1)=c.1+b.1):(vW VP).i 260 47 [.aR 3 1 0 0,.agg<|bC b] w h=.ok (.bn [],M6 h 1 m c b):=by
 have l:∃Y,ki VP Tryz.f260.results.toList (cv VP (cW VP w) 47 (VP.gk 260) (Tryz.f260.body.getD .skip) (gK [.aR 3 1 0 0,.agg<|bC b]) h)=.ok (.bn [],Y)/\ Y=M6 h 1 m c b:=by refine vr ?_;refine Z7 Tryz.f260.eq_1 @s47 @gU @vU @jy @XG @XF ?_;exact awm
 obtain⟨Y,C,rfl⟩:=l;exact pW ago apP aX C
def NW(h:H)(c b:hJ):H:=(((h.new 66003<|.cells aa ab 304 3 [bC b]).mod 7<|.cells aa ab 304 3 [[iV<|mi (c.1*b.1) 1000000,iV c.2.1,iV c.2.2]]).mod 7<|.cells aa ab 304 3 [[iV<|mi (c.1*b.1) 1000000,iV<|c.2.1+b.2.1,iV c.2.2]]).mod 7<|.cells aa ab 304 3 [bC<|kC c b]
def aqg(w:cV)(h:H)(c b:hJ)(m:Nat)(o:h.o 7=⟨1,m,.cells aa ab 304 3 [bC c]⟩)(P:av .i64 (c.1*b.1)=c.1*b.1)(k:av .i64 (c.2.1+b.2.1)=c.2.1+b.2.1)(O:av .i64 (c.2.2+b.2.2)=c.2.2+b.2.2):(vW VP).i 261 66 [.aR 7 1 0 0,.agg<|bC b] w h=.ok (.bn [],NW h c b):=by
 have l:∃Y,ki VP Tryz.f261.results.toList (cv VP (cW VP w) 66 (VP.gk 261) (Tryz.f261.body.getD .skip) (gK [.aR 7 1 0 0,.agg<|bC b]) h)=.ok (.bn [],Y)/\ Y=NW h c b:=by refine vr ?_;refine Z7 Tryz.f261.eq_1 @s66 @gU @vU @jy @XG @XF ?_;exact awm
 obtain⟨Y,C,rfl⟩:=l;exact pW agp apQ aX C
def ahN:og VP 260=aa:=rfl
def ahO:og VP 261=aa:=rfl
def b47:0*1000+46+1=47:=rfl
def b66:0*1000+65+1=66:=rfl
def ac0(a b c:Int):ga VP.D 304 [(0,iV a),(1,iV b),(2,iV c)]=.ok (.agg [iV a,iV b,iV c]):=aV
def ac1:ga VP.D 304 [(0,iV 1)]=.ok (.agg [iV 1,iV 0,iV 0]):=aV
def QG(s v:Nat):ga VP.D 380 [(0,.aR s v 0 0)]=.ok (.agg [.aR s v 0 0]):=aV
def aaB:∀(n:ba),eR n->bU n≠2->aS VP 201 [.agg<|bc n] (.agg<|bC<|cw n)
 |.mk k M J a W,g0,h0=>by
  have x0:=g0;rw[eR]at g0;obtain⟨-,h8,y0,A⟩:=g0;have f0:∀i (G:i<aA W),bU W[i]≠2->aS VP 201 [.agg<|bc W[i]] (.agg<|bC<|cw W[i]):=λi G=>aaB W[i]<|A _<|bD G;have Y:∀i (G:i<aA W),dM (cw W[i]) 12:=λi G=>FZ (yB _<|A _<|bD G) (qS<|A _<|bD G).2.2;have g:=FY W;have j:=Tl h8 A;rw[cw]
  rcases y0 with⟨rfl,rfl,d,p,h3⟩|⟨rfl,rfl⟩|⟨rfl,x,l,z0,i0⟩|⟨rfl,j0,t⟩
  have e:av .i64 (J-M)=J-M:=d' _ aW aW;have V:av .i64 (J-M+1)=J-M+1:=d' _ aW aW;show aS VP 201 _<|.agg [iV<|J-M+1,iV M,iV J];refine gO Tryz.f201.eq_1 λw y=>?_;exact S7 @bg @zq e V @dW @cC @ac0 tr;exact absurd aM h0;show aS VP 201 _<|.agg<|bC<|(cD W).foldl kC (1,0,0);refine gO Tryz.f201.eq_1 λw y=>?_;refine S6 @bg @zq @dW @cC @ac1 @QG ?_;refine lF 3 (aA W) (λi T h=>T 1=.aR 1 1 0 0/\ T 7=.aR 7 1 0 0/\ T 8=.aR 8 1 0 0/\ T 2=.aR 2 1 0 0/\ T 52=.fz (W.map bc)/\ T 53=iV (aA W)/\ T 54=iV i/\ h.y=y/\ (∃m x,h.o 2=⟨1,m,.cells aa ab 304 3 [x]⟩/\ aA x=3)/\ h.o 8=⟨1,1,.cells aa ab 380 1 [[.aR 7 1 0 0]]⟩/\ ∃m,h.o 7=⟨1,m,.cells aa ab 304 3 [bC<|((cD W).take i).foldl kC (1,0,0)]⟩) ?_ ?_ ?_;refine S1 @bg ?_;exact avT;rintro i T h G ⟨P,X,e8,C,O,B,D,E,⟨S,Z,I,f⟩,o8,m7,Q⟩;have k0:i<9223372036854775807:=aW;have d:=j i;have p:=Y i G;rw[CT W i G,jQ];show ew _<|Lq (λT h=>_/\ _/\ _/\ _/\ _/\ _/\ _/\ _/\ _/\ _/\ ∃m,h.o 7=⟨1,m,.cells aa ab 304 3 [bC<|kC _<|cw W[i]]⟩) _ _;have l0:=f0 i G;generalize((cD W).take i).foldl kC (1,0,0)=c at*;unfold dM at d p;have A0:dM (cw W[i]) 12:=Y i G;have e0:gg ae (bc W[i]) 0=.ok (iV<|bU W[i]):=by have⟨k,M,J,a,W⟩:=W[i];rw[bg];rfl
  have v:bU W[i]=2->cw W[i]=(1,0,0):=λh=>by generalize W[i]=x at h;have⟨k,M,J,a,W⟩:=x;exact avl
  generalize B0:cw W[i]=b at*;have C0:0<=c.1*b.1:=OP aW aW;have D0:c.1*b.1<=1000000*1000000:=Ci aW aW aW aW;have e:av .i64 (c.1*b.1)=c.1*b.1:=d' _ aW aW;have V:av .i64 (c.2.1+b.2.1)=c.2.1+b.2.1:=d' _ aW aW;have m0:av .i64 (c.2.2+b.2.2)=c.2.2+b.2.2:=d' _ aW aW;cases q:bU W[i]==2;have o0:=l0 (by simpa using q);have U:(bU W[i]!=2)=aa:=by simp[bne,q]
  refine bq @bg P C X e8 O B D (a6 G) @bd e0 (an U<|an o8<|an o0.aP<|an @ahO @b66) ?_;rw[aqg w _ c b m7 (by refine N0 ?_;exact Q) e V m0];refine fm P C X e8 O B D NW.eq_1 @bd Q ?_;exact⟨E,⟨S,Z,I,f⟩,o8,m7+1+1+1,aM⟩;have U:(bU W[i]!=2)=ab:=by simp[bne,q]
  have q:bU W[i]=2:=by simpa using q
  have p0:=v q;subst p0;have r0:kC c (1,0,0)=c:=by unfold kC;simp only[tf,Int.mul_one,Jd];rw[show min c.1 1000000=c.1 by omega]
  rw[r0];refine bq @bg P C X e8 O B D (a6 G) @bd e0 (an U o8) ?_;exact⟨E,⟨S,Z,I,f⟩,m7,Q⟩;rintro T h ⟨P,X,e8,C,O,B,D,E,⟨S,Z,I,f⟩,o8,m7,Q⟩;rw[<-g,bP]at Q;refine fm @bg P X C O B D Q I f ?_;rw[E];show aS VP 201 _<|.agg<|bC<|de<|cD W
  cases W with
  |nil=>exact absurd aM j0
  |cons x l=>
   have u:=f0 0 aY<|t _<|bD _;simp only[m_]at u;have z:∀h,cF h (ae,9) (.fz<|bc x::l.map bc) 0=.ok (.bA (bc x) 0):=λh=>by have:=db (h:=h) (s:=9) bc (x::l) 0 aY;rw[m_,th]at this;exact aw0
   have s0:xh (bc x::l.map bc)=9:=th x;have N:ai 1 (aA<|bc x::l.map bc)=aa:=aY;have a0:ai (aA<|bc x::l.map bc) (aA<|bc x::l.map bc)=aa:=aY;have t0:ar (aA (bc x::l.map bc)-1) (au 1<|bc x::l.map bc)=l.map bc:=by rw[cr,Nat.add_sub_cancel];show ar _ (l.map bc)=_;rw[bP]
   have u0:∀i (G:i<aA l),aS VP 201 [.agg<|bc l[i]] (.agg<|bC<|cw l[i]):=λi G=>by have:=f0 (i+1) (by simp only[cr];omega)<|t _<|bD _;simpa only[List.getElem_cons_succ]using this
   have h8:aA l<=8:=by simp only[cr]at h8;omega
   have c0:∀i (G:i<aA l),dM (cw l[i]) 12:=λi G=>by have:=Y (i+1) (by simp only[cr];omega);simpa only[List.getElem_cons_succ]using this
   have g:aA (cD l)=aA l:=FY l;have v0:∀i,dM (((cD l).take i).foldl nW<|cw x) 200:=λi=>by
    rw[QS];have i0:=A x ei;have d:=Lp (l.take i) (cw x) (cS x) (qU x) (yB x i0) λy d0=>yB y<|A y<|dR _<|D5 d0;have p:=(qS i0).2.2;have h3:∀l:List ba,(∀x∈l,eR x)->dx l<=12*aA l:=by
     intro l
     induction l with
     |nil=>intro _;simp[dx]
     |cons x l w0=>intro h;have h3:=w0 λy d0=>h y<|dR _ d0;have h4:=(qS<|h x ei).2.2;rw[dx,cr];omega
    have h4:=h3 (l.take i) λy d0=>A y<|dR _<|D5 d0;rw[ep]at h4;exact FZ d aW
   show aS VP 201 _<|.agg<|bC<|(cD l).foldl nW<|cw x;clear f0 Y j x0;generalize cw x=b0 at*;refine gO Tryz.f201.eq_1 λw y=>?_;refine eN @bg @zq @dW @cC @QG z u.aP s0 N a0 t0 ?_;refine vS (F:=λx=>dC VP _<|dL (cJ 0<|dL (cJ 1 x) _) _) (aA l) (λi T h=>T 1=.aR 1 1 0 0/\ T 3=.aR 3 1 0 0/\ T 4=.aR 4 1 0 0/\ T 2=.aR 2 1 0 0/\ T 36=.fz (l.map bc)/\ T 37=iV (aA l)/\ T 38=iV i/\ h.y=y/\ (∃m x,h.o 2=⟨1,m,.cells aa ab 304 3 [x]⟩/\ aA x=3)/\ h.o 4=⟨1,1,.cells aa ab 380 1 [[.aR 3 1 0 0]]⟩/\ ∃m,h.o 3=⟨1,m,.cells aa ab 304 3 [bC<|((cD l).take i).foldl nW b0]⟩) ?_ ?_ ?_;refine S0 ?_;exact avT;rintro i T h G ⟨P,e3,e4,C,L,r,o,E,⟨S,Z,I,f⟩,o4,m3,o3⟩;have k0:i<9223372036854775807:=aW;have d:=v0 i;have o0:=u0 i G;have p:=c0 i G;rw[CT l i G,jQ];show ew _<|Lq (λT h=>_/\ _/\ _/\ _/\ _/\ _/\ _/\ _/\ _/\ _/\ ∃m,h.o 3=⟨1,m,.cells aa ab 304 3 [bC<|nW _<|cw l[i]]⟩) _ _;generalize((cD l).take i).foldl nW b0=c at*;generalize B0:cw l[i]=b at*;unfold dM at d p;have e:av .i64 (c.1+b.1)=c.1+b.1:=d' _ aW aW;refine bq P C e3 e4 L r o (a6 G) @bd o4 o0.aP (an @ahN @b47) ?_;rw[aqf w _ c b m3 (by refine N0 ?_;exact o3) e];refine fm P C e3 e4 L r o M6.eq_1 @bd o3 ?_;exact⟨E,⟨S,Z,I,f⟩,o4,m3+1+1+1,aM⟩;rintro T h ⟨P,e3,e4,C,L,r,o,E,⟨S,Z,I,f⟩,o4,m3,o3⟩;rw[<-g,bP]at o3;refine S9 P e3 C L r o o3 I f ?_;rw[E]
 termination_by n=>n
 decreasing_by
  have:=j6<|bD G;simp only[ba.mk.sizeOf_spec];omega
abbrev lC(l:List bo):List VV:=[.fz<|l.map bm]
def Kf(a:Int)(s e o n:Nat):ga VP.D 68 [(0,iV a),(1,.bh s e o n)]=.ok (.agg [iV a,.bh s e o n]):=aV
def QE(s e o n:Nat):ga VP.D 316 [(0,.bh s e o n)]=.ok (.agg [.bh s e o n]):=aV
def TY(l:List bo):fW 2 (l.map bm)=aa:=oe (f:=bm) (λ_=>rfl) _
def yV(l:aL):fW 1 (l.map iC)=aa:=oe (f:=iC) (λ_=>rfl) _
def qx{n:Nat}(h:n<1048576):ah n (2^30)=aa:=at2
def an8{g:aL}{y:List bo}{i:Nat}(G:i<aA y):(fi g y).take (i+1)=(fi g y).take i++[bif ag i 0 then⟨y[i].da,g⟩else y[i]]:=by
 cases y with
 |nil=>simp at G
 |cons s t=>cases i with
  |zero=>rfl
  |succ i=>show(_::t).take (i+1+1)=(_::t).take (i+1)++[t[i]'(ka G)];rw[j7,j7,ej<|ka G];rfl
def ar9(x y:List bo)(g:aL)(d0:aA x<500000)(e0:aA y<500000)(f0:aA g<500000)(t:∀s∈y,aA s.bH<500000):aS VP 280 [.agg<|lC x,.agg<|lC y,.fz<|g.map iC] (.agg<|lC<|x++fi g y):=by
 have z:=TY x;have e:ah (aA x) (2^30)=aa:=qx aW;have o:=yV g;have L:ah (aA g) (2^30)=aa:=qx aW;have V:=@an8 g y;have l:aA (fi g y)=aA y:=Io;generalize a0:fi g y=G at*;refine gO Tryz.f280.eq_1 λw b0=>?_;refine S6 z e @bZ @dW @cC @QE ?_;refine lF 0 (aA y) (λi T h=>T 4=.aR 4 1 0 0/\ T 7=.aR 7 1 0 0/\ T 6=.aR 6 1 0 0/\ T 2=.fz (g.map iC)/\ T 8=iV i/\ h.y=b0/\ h.o 4=⟨1,0,.cells aa ab 316 1 [lC y]⟩/\ (∃m c,h.o 6=⟨1,m,.cells aa ab 316 1 [[c]]⟩)/\ ∃m v b,h.o 7=⟨1,m,.cells aa ab 316 1 [[.bh 10 v 0<|aA x+i]]⟩/\ h.o 10=⟨v,b,.cells ab ab 68 2<|(x++G.take i).map bm⟩) ?_ ?_ ?_;refine S0 ?_;exact⟨aM,⟨0,_,aM⟩,1,2,0,aM,by rw[i',ea]⟩;rintro i T h p ⟨Q,A,B,k,q,E,J,⟨S,Y,Z⟩,u,v,b,F,I⟩;have V:=V p;have O:aA (x++G.take i)=aA x+i:=by rw[cN,ep];omega
 have C:ah (aA x+i+1) (2^30)=aa:=qx aW;have j:=t _<|bD p;have c0:(x++G.take (i+1)).map bm=(x++G.take i).map bm++[bm<|bif ag i 0 then⟨y[i].da,g⟩else y[i]]:=by rw[V,<-eF];exact dg
 rw[c0];generalize x++G.take i=X at*;have r:∀h:H,cF h (ae,2) (.fz<|y.map bm) (i:Int)=.ok (.bA (bm y[i]) 0):=λh=>db (s:=2) bm y i p;generalize y[i]=s at*;have⟨a,P⟩:=s;have N:=yV P;have j:aA P<500000:=j;have d:ah (aA P) (2^30)=aa:=qx aW;have n:ai (aA P) (aA P)=aa:=aY;have M:ar (aA P) (au 0<|P.map iC)=P.map iC:=at8;have U:ai (aA g) (aA g)=aa:=aY;have W:ar (aA g) (au 0<|g.map iC)=g.map iC:=at8;have D:ag (aA x+i) (aA X)=aa:=by rw[O];exact gX _
 cases i with
 |zero=>have f:(((0:Nat):Int)==0)=aa:=rfl;refine bq Q A B k q J F I (a6 p) r o (an L<|an N<|an d<|an n<|an M<|an U<|an W<|an @bZ<|an @dW<|an @cC<|an @Kf<|an @bd<|an @k6<|an C<|an D f) ?_;exact⟨E,⟨S,Y,Z⟩,u+1,v+1,0,aM,aM⟩
 |succ i=>have f:(((i+1:Nat):Int)==0)=ab:=aul;refine bq Q A B k q J F I (a6 p) r o (an L<|an N<|an d<|an n<|an M<|an U<|an W<|an @bZ<|an @dW<|an @cC<|an @Kf<|an @bd<|an @k6<|an C<|an D f) ?_;exact⟨E,⟨S,Y,Z⟩,u+1,v+1,0,aM,aM⟩
 rintro T h ⟨Q,A,B,k,q,E,J,⟨S,Y,Z⟩,u,v,b,F,I⟩;rw[show G.take (aA y)=G from eM aW]at I;have n:ai (aA x+aA y) (aA<|x++G)=aa:=by rw[cN,l];simp
 have M:ar (aA x+aA y) (au 0<|(x++G).map bm)=(x++G).map bm:=by rw[e6,eM<|by rw[bj,cN,l];exact auS]
 refine bq Q A B k q J Z F I @bZ n M ?_;rw[E]
def oj(y:List bo):Bool:=ax<|12<(aA y:Int)
def arG(y:List bo):aS VP 205 [.agg<|lC y] (bV<|oj y):=by refine gO Tryz.f205.eq_1 λw r=>?_;exact S1 oj.eq_1 tr
def ar2(M:List<|List bo)(P:bk M):aS VP 266 [.fz<|M.map lC,.func 205 [] []] (iV<|k' oj M):=by refine gO Tryz.f266.eq_1 λw y=>?_;refine S0 ?_;refine lF 0 (aA M) (λi T h=>T 0=.fz (M.map lC)/\ T 1=.func 205 [] []/\ T 7=iV (aA M)/\ T 8=iV i/\ h=H.empty y/\ (M.take i).any oj=ab) ?_ ?_ ?_;refine S0 ?_;exact at1;rintro i T h G ⟨t,g,m,l,rfl,q⟩;refine Z3 (a6 G) @bd ((arG M[i]).aP) ?_;have⟨x,o⟩:=vc (p:=oj) G q;exact auk;rintro T h ⟨t,g,m,l,rfl,q⟩;exact Z1 (wJ q) tr
def arF(M:List<|List bo)(l:bk M):aS VP 204 [.fz<|M.map lC,.func 205 [] []] (bV<|M.any oj):=by refine gO Tryz.f204.eq_1 λw y=>?_;exact S2 ((ar2 M l).aP) @vD tr
def gY(n a:Int):Bool:=ax (a<0)||ax (n<=a)
def aaK(n a:Int):aS VP 267 [iV a,.bA [iV n] 0] (bV<|gY n a):=by unfold gY;refine gO Tryz.f267.eq_1 λw y=>?_;cases h:ax<|a<0;exact avB;exact avB
def aso(n:Int)(l:aL)(P:bk l):aS VP 339 [.fz<|l.map iC,.func 267 [] [.bA [iV n] 0]] (iV<|k' (gY n) l):=by refine gO Tryz.f339.eq_1 λw y=>?_;refine S0 ?_;refine lF 0 (aA l) (λi T h=>T 0=.fz (l.map iC)/\ T 1=.func 267 [] [.bA [iV n] 0]/\ T 7=iV (aA l)/\ T 8=iV i/\ h=H.empty y/\ (l.take i).any (gY n)=ab) ?_ ?_ ?_;refine S0 ?_;exact at1;rintro i T h G ⟨t,g,m,v,rfl,q⟩;refine Z3 (a6 G) @bd ((aaK n l[i]).aP) ?_;have⟨x,o⟩:=vc (p:=gY n) G q;exact auk;rintro T h ⟨t,g,m,v,rfl,q⟩;exact Z1 (wJ q) tr
def ar3(n:Int)(l:aL)(P:bk l):aS VP 268 [.fz<|l.map iC,.func 267 [] [.bA [iV n] 0]] (bV<|l.any<|gY n):=by refine gO Tryz.f268.eq_1 λw y=>?_;exact S2 ((aso n l P).aP) @vD tr
def qf(n:Int)(s:bo):Bool:=gY n s.da||s.bH.any (gY n)
def gG:List Int->Bool
 |a::b::l=>decide (b<=a)||gG (b::l)
 |_=>ab
def N5:∀{l:aL} {i:Nat} (G:i+1<aA l),ax (l[i+1]<=l[i])=aa->gG l=aa
 |a::b::l,0,_,h=>by simp only[m_,List.getElem_cons_succ]at h;rw[gG,h];rfl
 |a::b::l,i+1,G,h=>by have:=N5 (l:=b::l) (i:=i) (ka G) (by simpa only[List.getElem_cons_succ]using h);rw[gG,this,yj]
def N6:∀{l:aL} {i:Nat} (G:i+1<aA l),gG (l.take<|i+1)=ab->ax (l[i+1]<=l[i])=ab->gG (l.take<|i+2)=ab
 |a::b::l,0,_,_,h=>by simp only[m_,List.getElem_cons_succ]at h;show(ax (b<=a)||gG [b])=ab;rw[h];rfl
 |a::b::l,i+1,G,p,h=>by have p:gG (a::b::l.take i)=ab:=p;rw[gG,gz]at p;have:=N6 (l:=b::l) (i:=i) (ka G) p.2 (by simpa only[List.getElem_cons_succ]using h);have this:gG (b::l.take (i+1))=ab:=this;show gG (a::b::l.take (i+1))=ab;rw[gG,this,p.1];rfl
def Du(y:List bo):Bool:=match y with
 |[]=>aa
 |s::_=>decide (0<(aA s.bH:Int))
def lu(y:List bo):Int:=bif Du y then 3 else bif y.any (qf 12)then 2 else bif y.any (λs=>gG s.bH)then 3 else 0
def arH(y:List bo)(a0:bk y)(b0:∀s∈y,bk s.bH):aS VP 206 [.agg<|lC y,iV 12] (iV<|lu y):=by
 have d1:ax ((12:Int)<0)=ab:=rfl;have d2:ax ((12:Int)<12)=ab:=rfl;unfold lu;refine gO Tryz.f206.eq_1 λw n=>?_
 cases y with
 |nil=>have q:(((0:Nat):Int)==0)=aa:=rfl;refine S2 @cC q ?_;rfl
 |cons Z A=>
  have U:((aA (Z::A):Int)==0)=ab:=aul;have v:∀h:H,cF h (ae,2) (.fz<|(Z::A).map bm) 0=.ok (.bA (bm Z) 0):=λh=>db (s:=2) bm (Z::A) 0 aY;have o:Du (Z::A)=ax (0<(aA Z.bH:Int)):=rfl;rw[o];generalize Z::A=y at*;cases c0:ax<|0<(aA Z.bH:Int);simp only[br];refine S5 U v c0 d1 d2 ?_;refine lF 0 (aA y) (λi T h=>T 2=.aR 2 1 0 0/\ T 5=.func 267 [] [.aR 3 1 0 0]/\ T 32=.fz (y.map bm)/\ T 33=iV (aA y)/\ T 34=iV i/\ h.y=n/\ h.o 2=⟨1,0,.cells aa ab 316 1 [lC y]⟩/\ h.o 3=⟨1,0,.cells aa ab 3 1 [[iV 12]]⟩/\ (y.take i).any (qf 12)=ab) ?_ ?_ ?_;refine S0 ?_;exact at1;rintro i T h g ⟨W,c,D,M,J,E,L,F,q⟩;have Q:i<9223372036854775807:=by unfold bk at a0;omega
  have C:=b0 _<|bD g;have N:=gI (p:=qf 12) g;have V:=gJ g q;have x:∀h:H,cF h (ae,2) (.fz<|y.map bm) (i:Int)=.ok (.bA (bm y[i]) 0):=λh=>db (s:=2) bm y i g;generalize y[i]=s at*;have⟨a,P⟩:=s;have b:=aaK 12 a;have O:=ar3 12 P C;have N:(gY 12 a||P.any (gY 12))=aa->y.any (qf 12)=aa:=N;have V:(gY 12 a||P.any (gY 12))=ab->(y.take<|i+1).any (qf 12)=ab:=V;cases d0:gY 12 a;rw[d0]at b N V;cases e0:P.any<|gY 12;rw[e0]at O N V;refine bq W c D M J L F (a6 g) @bd x b.aP O.aP ?_;exact⟨E,V aM⟩;rw[e0]at O N V;refine bq W c D M J L F (a6 g) @bd x b.aP O.aP ?_;rw[N rfl,E];rfl;rw[d0]at b N V;refine eN W c D M J L F (a6 g) @bd x b.aP ?_;rw[N rfl,E];rfl;rintro T h ⟨W,c,D,M,J,E,L,F,q⟩;rw[bP]at q;rw[q,br];refine S7 W c D M J L F ?_;refine lF 2 (aA y) (λi T h=>T 50=.fz (y.map bm)/\ T 51=iV (aA y)/\ T 52=iV i/\ h.y=n/\ (y.take i).any (λs=>gG s.bH)=ab) ?_ ?_ ?_;exact awq;rintro i T h g ⟨S,B,G,E,q⟩;have Q:i<9223372036854775807:=by unfold bk at a0;omega
  have C:=b0 _<|bD g;have N:=gI (p:=λs:bo=>gG s.bH) g;have V:=gJ (p:=λs:bo=>gG s.bH) g q;have x:∀h:H,cF h (ae,2) (.fz<|y.map bm) (i:Int)=.ok (.bA (bm y[i]) 0):=λh=>db (s:=2) bm y i g;generalize y[i]=s at*;have⟨a,P⟩:=s;have N:gG P=aa->y.any (λs=>gG s.bH)=aa:=N;have V:gG P=ab->(y.take<|i+1).any (λs=>gG s.bH)=ab:=V;have C:aA P<1048576:=C;refine S5 S B G (a6 g) x ?_;generalize f:(h.o 9).ver+1=v9;refine oF 3 4 (aA P-1) (λk T Y=>T 50=.fz (y.map bm)/\ T 51=iV (aA y)/\ T 52=iV i/\ T 9=.aR 9 v9 0 0/\ T 10=iV (k+1:Nat)/\ Y.y=n/\ (∃m,Y.o 9=⟨v9,m,.cells aa ab 68 2 [[iV a,iL P]]⟩)/\ gG (P.take<|k+1)=ab) ?_ ?_ ?_;refine S3 S B G ?_;exact⟨aM,E,⟨1,by rw[f]⟩,by cases P<;>rfl⟩;rintro k T Y g0 ⟨S,B,G,d,u,E,⟨m,e⟩,X⟩;have r:ax (((k+1:Nat):Int)<(aA P:Int))=aa:=auR;have t:∀h:H,cF h (ae,1) (iL P) ((k+1:Nat):Int)=.ok (.bA [iV<|P[k+1]'aW] 0):=λh=>db (s:=1) iC P (k+1) aW;have j:∀h:H,cF h (ae,1) (iL P) (k:Int)=.ok (.bA [iV<|P[k]'aW] 0):=λh=>db (s:=1) iC P k aW;have f0:av .i64 (((k+1:Nat):Int)-1)=(k:Int):=au4;have z:=N5 (l:=P) (i:=k) aW;have I:=N6 (l:=P) (i:=k) aW X;refine eN S B G d u e r t j f0 @bd ?_;exact⟨λh=>by rw[N<|z h,E];rfl,λh=>⟨E,⟨m,aM⟩,I h⟩⟩;rintro T Y ⟨S,B,G,d,u,E,⟨m,e⟩,X⟩;have r:ax (((aA P-1+1:Nat):Int)<(aA P:Int))=ab:=auI;rw[eM aW]at X;refine S8 S B G d u e r @bd ?_;exact⟨E,V X⟩;rintro T h ⟨S,B,G,E,q⟩;rw[bP]at q;rw[q,br];refine S3 S B G ?_;rw[E];exact S4 Tryz.f206.eq_1 U v c0 tr
def ar_(y:List bo)(e0:bk y)(f0:∀s∈y,bk s.bH):aS VP 281 [.agg<|lC y,iV 12] (iV<|lu y):=by
 have d1:ax ((12:Int)<0)=ab:=rfl;have d2:ax ((12:Int)<12)=ab:=rfl;unfold lu;refine gO Tryz.f281.eq_1 λw B=>?_
 cases y with
 |nil=>have q:(((0:Nat):Int)==0)=aa:=rfl;refine S2 @cC q ?_;rfl
 |cons Z A=>
  have U:((aA (Z::A):Int)==0)=ab:=aul;have L:∀h:H,cF h (ae,2) (.fz<|(Z::A).map bm) 0=.ok (.bA (bm Z) 0):=λh=>db (s:=2) bm (Z::A) 0 aY;have d:Du (Z::A)=ax (0<(aA Z.bH:Int)):=rfl;rw[d];generalize Z::A=y at*;cases g0:ax<|0<(aA Z.bH:Int);simp only[br];refine S5 U L g0 d1 d2 ?_;refine lF 0 (aA y) (λi T h=>T 2=.aR 2 1 0 0/\ T 1=iV 12/\ T 5=iV i/\ h.y=B/\ h.o 2=⟨1,0,.cells aa ab 316 1 [lC y]⟩/\ (y.take i).any (qf 12)=ab) ?_ ?_ ?_;refine S0 ?_;exact at1;rintro i T h G ⟨W,J,c,E,O,q⟩;have z:i<9223372036854775807:=by unfold bk at e0;omega
  have C:=f0 _<|bD G;have N:=gI (p:=qf 12) G;have V:=gJ (p:=qf 12) G q;have x:∀h:H,cF h (ae,2) (.fz<|y.map bm) (i:Int)=.ok (.bA (bm y[i]) 0):=λh=>db (s:=2) bm y i G;generalize y[i]=s at*;have⟨a,P⟩:=s;have C:aA P<1048576:=C;have N:(gY 12 a||P.any (gY 12))=aa->y.any (qf 12)=aa:=N;have V:(gY 12 a||P.any (gY 12))=ab->(y.take<|i+1).any (qf 12)=ab:=V;cases Q:ax<|a<0;cases o:ax<|12<=a;have e:gY 12 a=ab:=by unfold gY;rw[Q,o];rfl
  rw[e]at N V;refine S8 W J c O (a6 G) x Q o ?_;generalize I:(h.o 6).ver+1=v6;refine oF 1 2 (aA P) (λk T Y=>T 2=.aR 2 1 0 0/\ T 1=iV 12/\ T 5=iV i/\ T 6=.aR 6 v6 0 0/\ T 7=iV k/\ Y.y=B/\ Y.o 2=⟨1,0,.cells aa ab 316 1 [lC y]⟩/\ (∃m,Y.o 6=⟨v6,m,.cells aa ab 68 2 [[iV a,iL P]]⟩)/\ (P.take k).any (gY 12)=ab) ?_ ?_ ?_;refine S3 W J c ?_;exact⟨aM,E,O,⟨1,by rw[I]⟩,aM⟩;rintro k T Y f ⟨W,J,c,n,F,E,O,⟨m,M⟩,X⟩;have a0:k<9223372036854775807:=aW;have t:∀h:H,cF h (ae,1) (iL P) (k:Int)=.ok (.bA [iV P[k]] 0):=λh=>db (s:=1) iC P k f;have v:=gI (p:=gY 12) f;have D:=gJ (p:=gY 12) f X;generalize P[k]=g at*;unfold gY at v D;cases b:ax<|g<0;cases S:ax<|12<=g;rw[b,S]at D;refine eN W J c n F M (a6 f) t b S @bd ?_;exact⟨E,O,⟨m,aM⟩,D aM⟩;rw[b,S]at v;refine eN W J c n F M (a6 f) t b S @bd ?_;rw[N<|by rw[jP];exact v aM,E];rfl;rw[b]at v;refine fm W J c n F M (a6 f) t b @bd ?_;rw[N<|by rw[jP];exact v aM,E];rfl;rintro T Y ⟨W,J,c,n,F,E,O,⟨m,M⟩,X⟩;rw[bP]at X;refine S7 W J c n F M @bd ?_;exact⟨E,O,V<|by rw[jP];exact X⟩;have e:gY 12 a=aa:=by unfold gY;rw[Q,o];rfl
  rw[e]at N;refine S8 W J c O (a6 G) x Q o ?_;rw[N rfl,E];rfl;have e:gY 12 a=aa:=by unfold gY;rw[Q];rfl
  rw[e]at N;refine S7 W J c O (a6 G) x Q ?_;rw[N rfl,E];rfl;rintro T h ⟨W,J,c,E,O,q⟩;rw[bP]at q;rw[q,br];refine S4 W J c O ?_;refine lF 4 (aA y) (λi T h=>T 2=.aR 2 1 0 0/\ T 8=iV i/\ h.y=B/\ h.o 2=⟨1,0,.cells aa ab 316 1 [lC y]⟩/\ (y.take i).any (λs=>gG s.bH)=ab) ?_ ?_ ?_;refine S1 W ?_;exact⟨aM,E,O,aM⟩;rintro i T h G ⟨W,j,E,O,q⟩;have z:i<9223372036854775807:=by unfold bk at e0;omega
  have C:=f0 _<|bD G;have N:=gI (p:=λs:bo=>gG s.bH) G;have V:=gJ (p:=λs:bo=>gG s.bH) G q;have x:∀h:H,cF h (ae,2) (.fz<|y.map bm) (i:Int)=.ok (.bA (bm y[i]) 0):=λh=>db (s:=2) bm y i G;generalize y[i]=s at*;have⟨a,P⟩:=s;have N:gG P=aa->y.any (λs=>gG s.bH)=aa:=N;have V:gG P=ab->(y.take<|i+1).any (λs=>gG s.bH)=ab:=V;have C:aA P<1048576:=C;refine S5 W j O (a6 G) x ?_;refine oF 5 6 (aA P-1) (λk T Y=>T 2=.aR 2 1 0 0/\ T 8=iV i/\ T 9=iL P/\ T 10=iV (k+1:Nat)/\ Y.y=B/\ Y.o 2=⟨1,0,.cells aa ab 316 1 [lC y]⟩/\ gG (P.take<|k+1)=ab) ?_ ?_ ?_;refine S2 W j ?_;exact⟨aM,E,O,by cases P<;>rfl⟩;rintro k T Y f ⟨W,j,t9,u,E,O,X⟩;have a0:k+1<9223372036854775807:=aW;have r:ax (((k+1:Nat):Int)<(aA P:Int))=aa:=auR;have t:∀h:H,cF h (ae,1) (iL P) ((k+1:Nat):Int)=.ok (.bA [iV<|P[k+1]'aW] 0):=λh=>db (s:=1) iC P (k+1) aW;have b0:∀h:H,cF h (ae,1) (iL P) (k:Int)=.ok (.bA [iV<|P[k]'aW] 0):=λh=>db (s:=1) iC P k aW;have h0:av .i64 (((k+1:Nat):Int)-1)=(k:Int):=au4;have c0:=N5 (l:=P) (i:=k) aW;have d0:=N6 (l:=P) (i:=k) aW X;refine S9 W j t9 u r t b0 h0 @bd ?_;exact⟨λh=>by rw[N<|c0 h,E];rfl,λh=>⟨E,O,d0 h⟩⟩;rintro T Y ⟨W,j,t9,u,E,O,X⟩;have r:ax (((aA P-1+1:Nat):Int)<(aA P:Int))=ab:=auI;rw[eM aW]at X;refine S6 W j t9 u r @bd ?_;exact⟨E,O,V X⟩;rintro T h ⟨W,j,E,O,q⟩;rw[bP]at q;rw[q,br];refine S3 W j O ?_;rw[E];exact S4 Tryz.f281.eq_1 U L g0 tr
def jz(s t:bo):Bool:=bif s.da==t.da then gZ s.bH t.bH else ab
def On(s t:bo)(B:bk s.bH):aS VP 216 [.agg<|bm s,.agg<|bm t] (bV<|jz s t):=by
 have⟨a,g⟩:=s;have⟨b,k⟩:=t;have B:aA g<1048576:=B;unfold jz;simp only;refine gO Tryz.f216.eq_1 λw r=>?_;cases V:a==b;have n:(a !=b)=aa:=by simp[bne,V]
 exact S1 n tr;have n:(a !=b)=ab:=by simp[bne,V]
 rw[a8];by_cases l:aA g=aA k;have N:((aA g:Int)!=(aA k:Int))=ab:=by rw[l];simp
 refine S2 n N ?_;refine lF 0 (aA g) (λi T h=>T 2=.aR 2 1 0 0/\ T 3=.aR 3 1 0 0/\ T 5=iV i/\ h.y=r/\ h.o 2=⟨1,0,.cells aa ab 68 2 [bm ⟨a,g⟩]⟩/\ h.o 3=⟨1,0,.cells aa ab 68 2 [bm ⟨b,k⟩]⟩/\ gZ (g.take i) (k.take i)=aa) ?_ ?_ ?_;refine S0 ?_;exact at1;rintro i T h G ⟨W,O,c,E,L,F,M⟩;have⟨x,o⟩:=rN (p:=λa b:Int=>a==b) G (l▸G) M (b:=g[i]!=k[i]'(l▸G)) (by simp[bne]);have P:∀h:H,cF h (ae,1) (iL g) (i:Int)=.ok (.bA [iV g[i]] 0):=λh=>db (s:=1) iC g i G;have f:∀h:H,cF h (ae,1) (iL k) (i:Int)=.ok (.bA [iV<|k[i]'(l▸G)] 0):=λh=>db (s:=1) iC k i<|l▸G;refine S9 W O c L F (a6 G) @bd P f ?_;exact⟨λh=>by rw[show gZ g k=ab from x h,E],λh=>⟨E,o h⟩⟩;rintro T h ⟨W,O,c,E,L,F,M⟩;rw[bP,l,bP]at M;refine S5 W O c L F ?_;rw[show gZ g k=aa from M,E];exact S5 Tryz.f216.eq_1 n (nB l) gZ.eq_1 (oV l) tr
def aaF(s:bo)(B:bk s.bH):aS VP 217 [.agg<|bm s] (.agg<|bm s):=by have⟨a,g⟩:=s;have B:aA g<1048576:=B;have h:=yV g;have p:ah (aA g) (2^30)=aa:=qx B;have n:ai (aA g) (aA g)=aa:=aY;have M:ar (aA g) (au 0<|g.map iC)=g.map iC:=at8;refine gO Tryz.f217.eq_1 λw y=>?_;exact Z4 @bZ @dW @cC @Kf tr
abbrev qG:List bo->List bo->Bool:=dK jz
def asa(a b:List bo)(y:bk a)(o:∀s∈a,bk s.bH):aS VP 282 [.agg<|lC a,.agg<|lC b] (bV<|qG a b):=by
 refine gO Tryz.f282.eq_1 λw r=>?_;by_cases l:aA a=aA b;have N:((aA a:Int)!=(aA b:Int))=ab:=by rw[l];simp
 refine S1 N ?_;refine lF 0 (aA a) (λi T h=>T 2=.aR 2 1 0 0/\ T 3=.aR 3 1 0 0/\ T 5=iV i/\ h.y=r/\ h.o 2=⟨1,0,.cells aa ab 316 1 [lC a]⟩/\ h.o 3=⟨1,0,.cells aa ab 316 1 [lC b]⟩/\ dK jz (a.take i) (b.take i)=aa) ?_ ?_ ?_;refine S0 ?_;exact at1;rintro i T h G ⟨W,O,c,E,k,F,M⟩;have⟨x,d⟩:=rN (p:=jz) G (l▸G) M (b:=!jz a[i] (b[i]'(l▸G))) aY;have J:=On a[i] (b[i]'(l▸G))<|o _<|bD G;have P:∀h:H,cF h (ae,2) (.fz<|a.map bm) (i:Int)=.ok (.bA (bm a[i]) 0):=λh=>db (s:=2) bm a i G;have f:∀h:H,cF h (ae,2) (.fz<|b.map bm) (i:Int)=.ok (.bA (bm<|b[i]'(l▸G)) 0):=λh=>db (s:=2) bm b i<|l▸G;generalize a[i]=s at*;generalize b[i]'(l▸G)=t at*;generalize jz s t=q at*;cases q;refine fm W O c k F (a6 G) @bd P f J.aP ?_;rw[show qG a b=ab from x aM,E];refine fm W O c k F (a6 G) @bd P f J.aP ?_;exact⟨E,d aM⟩;rintro T h ⟨W,O,c,E,k,F,M⟩;rw[bP,l,bP]at M;refine S5 W O c k F ?_;rw[show qG a b=aa from M,E];exact S3 Tryz.f282.eq_1 (nB l) (oV l) tr
def ly:List (List bo)->Int
 |[]=>0
 |y::l=>bif lu y==0 then ly l else lu y
def Tx{M:List (List bo)}{i:Nat}(G:i<aA M):ly (M.drop i)=bif lu M[i]==0 then ly (M.drop<|i+1)else lu M[i]:=by rw[fD G];rfl
def sO(M:List<|List bo)(i:Nat):Bool:=(M.take i).any λx=>qG ((M[i]?).getD []) x
def AS(M:List<|List bo):Bool:=(ao<|aA M).any<|sO M
def gj(M:List<|List bo):Int:=bif ax ((aA M:Int)<1)||ax (64<(aA M:Int))||M.any oj then 23 else c7 (ly M)<|bif AS M then 8 else 0
def Yk{p:Nat->Bool}{i:Nat}(h:(ao i).any p=ab)(a:p i=ab):(ao<|i+1).any p=ab:=by grind
def arN(M:List<|List bo)(U:bk M)(g:∀y∈M,bk y/\ ∀s∈y,bk s.bH):aS VP 215 [.fz<|M.map lC] (iV<|gj M):=by
 unfold gj;have U:aA M<1048576:=U;have m:∀i (G:i<aA M) (h:H),cF h (ae,1) (.fz<|M.map lC) (i:Int)=.ok (.bA (lC M[i]) 0):=λi G h=>db (s:=1) lC M i G;cases l:ax<|(aA M:Int)<1;cases E:ax<|64<(aA M:Int);refine gO Tryz.f215.eq_1 λw r=>?_;refine S2 l E ?_;refine lF 0 (aA M) (λi T h=>T 0=.fz (M.map lC)/\ T 3=iV i/\ h=H.empty r/\ (M.take i).any oj=ab) ?_ ?_ ?_;refine S0 ?_;exact at1;rintro i T h G ⟨O,L,rfl,u⟩;have N:=gI (p:=oj) G;have V:=gJ (p:=oj) G u;have C:=m i G;generalize M[i]=y at*;unfold oj at N V;cases d:ax (12<(aA y:Int))<;>rw[d]at N V;refine S6 O L (a6 G) C d @bd ?_;exact V aM;refine S5 O L (a6 G) C d ?_;rw[show M.any oj=aa from N aM];rfl;rintro T h ⟨O,L,rfl,u⟩;rw[bP]at u;rw[u,br];refine S2 O L ?_;refine lF 2 (aA M) (λi T h=>T 0=.fz (M.map lC)/\ T 4=iV i/\ h=H.empty r/\ ly M=ly (M.drop i)) ?_ ?_ ?_;refine S1 O ?_;exact at1;rintro i T h G ⟨O,j,rfl,u⟩;have⟨J,o⟩:=g _<|bD G;have Q:=ar_ _ J o;rw[Tx G]at u;have C:=m i G;generalize M[i]=y at*;generalize lu y=e at*;cases f:e==0;have n:(e !=0)=aa:=avh;rw[f]at u;have u:ly M=e:=u;refine S6 O j (a6 G) C Q.aP n ?_;rw[u,re n];have n:(e !=0)=ab:=avh;rw[f]at u;have u:ly M=ly (M.drop<|i+1):=u;refine S7 O j (a6 G) C Q.aP n @bd ?_;exact u;rintro T h ⟨O,j,rfl,u⟩;rw[fS]at u;have u:ly M=0:=u;rw[u];refine S2 O j ?_;show dC VP _ _=.ok (iV<|bif AS M then 8 else 0,r);unfold AS;refine lF 4 (aA M) (λi T h=>T 0=.fz (M.map lC)/\ T 6=iV i/\ h=H.empty r/\ (ao i).any (sO M)=ab) ?_ ?_ ?_;refine S1 O ?_;exact at1;rintro i T h G ⟨O,v,rfl,u⟩;have a:sO M i=(M.take i).any λx=>qG M[i] x:=by unfold sO;rw[cx G];rfl
 have N:sO M i=aa->(ao<|aA M).any (sO M)=aa:=λh=>mD.2 ⟨i,lS.2 G,h⟩;have V:=Yk u (i:=i);rw[a]at N V;have⟨J,o⟩:=g _<|bD G;have C:=m i G;generalize M[i]=y at*;refine S3 O v (a6 G) ?_;refine oF 5 6 i (λk T Y=>T 0=.fz (M.map lC)/\ T 6=iV i/\ T 7=iV k/\ Y=H.empty r/\ (M.take k).any (λx=>qG y x)=ab) ?_ ?_ ?_;refine S2 O v ?_;exact at1;rintro k T Y B ⟨O,v,S,rfl,X⟩;have P:k<aA M:=aW;have c:=asa y M[k] J o;have Z:=m k P;have I:qG y M[k]=aa->(M.take i).any (λx=>qG y x)=aa:=λh=>mD.2 ⟨M[k],Fx.2 ⟨k,aW,rfl⟩,h⟩;have t:qG y M[k]=ab->(M.take<|k+1).any (λx=>qG y x)=ab:=λh=>gJ (p:=λx=>qG y x) P X h;generalize M[k]=z at*;generalize qG y z=q at*;cases q;refine S8 O v S (a6 B) C Z c.aP @bd ?_;exact t aM;refine S7 O v S (a6 B) C Z c.aP ?_;rw[N<|I rfl];rfl;rintro T Y ⟨O,v,S,rfl,X⟩;refine S4 O v S @bd ?_;exact V X;rintro T h ⟨O,v,rfl,u⟩;rw[u];exact S2 O v tr;refine gO Tryz.f215.eq_1 λw r=>?_;exact S2 l E tr;refine gO Tryz.f215.eq_1 λw r=>?_;exact S1 l tr
def IK{P:VT}{c:Vm.VC}{Q:Nat}{d:Option Tmp}{g:Bool}{ty:Nat}{p:String}{a:Array Edge}{T:Vg}{h:H}(t u:Nat)(x y:Operand)(s:P.km (dk Q d)=aa):ec P c Q g ⟨d,.call ⟨.builtin .append,#[x,y],#[t,u]⟩,ty,p,a,ae⟩ T h=lq T h d g (aO (kR P.D h t u (bS T x) (bS T y)<|nq (dk Q d) h) λp=>.ok (p.1,l6 (dk Q d) p.2)):=by have e:ec P c Q g ⟨d,.call ⟨.builtin .append,#[x,y],#[t,u]⟩,ty,p,a,ae⟩ T h=lq T h d g (An P h t u (bS T x) (bS T y)<|dk Q d):=bL aM;rw[e];unfold An;rw[s];rfl
def sT{h:H}{s:Nat}:(l6 s h).o s=⟨(h.o s).ver+1,0,.none⟩:=jx h s _
def hN{h:H}{s F:Nat}(hn:F≠s):(l6 s h).o F=h.o F:=ic hn
def Aw{h:H}{s:Nat}:(l6 s h).y=h.y:=rfl
def ajF{n:ba}(h:bU n=2):cS n=1:=by have⟨k,M,F,a,W⟩:=n;have h:k=2:=h;subst h;rfl
def qd(p:List<|List bo):Int->List Int->List ba->List (List bo)
 |_,_,[]=>p
 |b,g,n::l=>bif bU n==2 then qd p (b+cS n) (g++[b]) l else qd (p.flatMap λx=>(cK b n).map λy=>x++fi g y) (b+cS n) [] l
def Ik:∀(l:List ba) (p:List<|List bo) (b:Int) (g:aL),qd p b g l=p.flatMap λs=>eZ s<|eJ b g l
 |[],p,b,g=>by
  rw[qd];have:∀s,eZ s (eJ b g [])=[s]:=λs=>by rw[eJ,eZ]
  exact at6
 |n::l,p,b,g=>by rw[qd,eJ];cases bU n==2;rw[br,br,Ik l,List.flatMap_assoc];congr 1;funext x;rw[eZ,List.flatMap_map];rw[a8,a8,Ik l]
def J8:VP.h5 214=5:=rfl
def s5(d:Nat):dk 5 (ad d)=5000+d:=rfl
abbrev dD(M:List<|List bo):List (List VV):=M.map lC
def aov(b P:Int)(n:Nat):il b P (n+1)=il b P n++[ak (P.toNat+n) ⟨b,[]⟩]:=by unfold il;rw[wE,dg];rfl
def ahD(l:List<|List bo):fW 1 (l.map lC)=aa:=oe (f:=lC) (λ_=>rfl) _
def arK(M f:Int)(a:dZ)(b:Int)(h1:1<=M)(z:M<=f)(r:f<=6):aS VP 214 [.agg<|bc<|.mk 1 M f a [],iV b] (.fz<|dD<|il b M (f-M+1).toNat):=by
 generalize D:(f-M+1).toNat=N;refine mQ Lj NU λw y=>?_;refine S5 Tryz.f214.eq_1 @J8 @s5 @bg @zq ?_;refine vS (F:=λx=>dC VP _<|dL (cJ 0<|dL (cJ 1 x) _) _) N (λi T h=>T 1=iV b/\ T 2=.aR 5002 1 0 0/\ T 6=iV (M+i)/\ h.y=y/\ h.o 5002=⟨1,0,.cells aa ab 31 9 [bc<|.mk 1 M f a []]⟩/\ ∃v,T 5=b9 (dD<|il b M i) 5044 v/\ b6 (h.o 5044) (dD<|il b M i) v 316 1) ?_ ?_ ?_;refine S2 @bg @s5 ?_;exact⟨by rw[show M+((0:Nat):Int)=M by omega],0,rfl,rfl,λh=>absurd aM h⟩;rintro i T h g ⟨J,W,n,E,O,v,c,k⟩;have t:ax (M+(i:Int)<=f)=aa:=auR;rw[bg]at O;have X:dD (il b M<|i+1)=dD (il b M i)++[lC<|ak (M.toNat+i) ⟨b,[]⟩]:=by rw[aov];exact dg
 rw[X];have d:aA (dD<|il b M i)<536870912:=by rw[bj,il,bj,nN];omega
 generalize dD (il b M i)=A at*;obtain⟨q,Z⟩:∃q:Nat,(q:Int)=M+i:=⟨(M+i).toNat,aW⟩;have u:M.toNat+i=q:=aW;rw[u];rw[<-Z]at n t;have V:av .i64 ((q:Int)+1)=((q+1:Nat):Int):=bd q aW;have p:M+((i+1:Nat):Int)=((q+1:Nat):Int):=aW;rw[p];refine S7 J W c n O t @s5 ?_;refine ot (G:=λx=>dL (cJ 2<|dL (cJ 3 x) _) _) q (λj T Y=>T 1=iV b/\ T 2=.aR 5002 1 0 0/\ T 5=b9 A 5044 v/\ T 6=iV q/\ T 8=iV j/\ (∃B,T 7=.aR 5007 B 0 0/\ ∃m I,Y.o 5007=⟨B,m,.cells aa ab 316 1 [[b9 ((ak j (⟨b,[]⟩:bo)).map bm) 5039 I]]⟩/\ b6 (Y.o 5039) ((ak j (⟨b,[]⟩:bo)).map bm) I 68 2)/\ Y.y=y/\ Y.o 5002=⟨1,0,.cells aa ab 31 9 [bc<|.mk 1 M f a []]⟩/\ Y.o 5044=h.o 5044) ?_ ?_ ?_;refine S7 J W c n @s5 @bg O ?_;exact⟨aM,⟨_,aM,0,(h.o 5039).ver,aM,aM,λh=>absurd aM h⟩,E⟩;rintro j T Y l ⟨J,W,c,n,L,⟨B,S,m,I,o,U⟩,C,Q,e⟩;have P:(ak (j+1) (⟨b,[]⟩:bo)).map bm=(ak j (⟨b,[]⟩:bo)).map bm++[[iV b,.fz []]]:=by rw[List.replicate_succ',dg];rfl
 rw[P];have s:aA ((ak j (⟨b,[]⟩:bo)).map bm)<536870912:=by rw[bj,jR];omega
 generalize(ak j (⟨b,[]⟩:bo)).map bm=R at*;refine bq J W c n S L o (a6 l) @s5 @dW @cC (an @Ke<|an (iM U s) @bd) ?_;exact⟨⟨B,aM,_,_,aM,by rw[U.1];exact auh⟩,C,Q,e⟩;rintro T Y ⟨J,W,c,n,L,⟨B,S,m,I,o,U⟩,C,Q,e⟩;rw[<-e]at k;refine bq J W c n S L o @s5 (iM k d) (gf U) @Lf (an @GF V) ?_;exact⟨C,Q,_,aM,by rw[k.1];exact auh⟩;rintro T h ⟨J,W,n,E,O,v,c,k⟩;have t:ax (M+(N:Int)<=f)=ab:=auI;rw[bg]at O;refine S7 J W c n O t (gf k) ?_;rw[E]
def qj:List (List Int×List (List bo))->Nat
 |[]=>1
 |r::l=>aA r.2*qj l
def HY:∀(R:List<|aL×List (List bo)) (s:List bo),aA (eZ s R)=qj R
 |[],s=>rfl
 |r::R,s=>by
  rw[eZ,qj,List.length_flatMap];have:(r.2.map λy=>aA<|eZ (s++fi r.1 y) R)=r.2.map λ_=>qj R:=sB λy _=>HY R _;rw[this];generalize r.2=L
  induction L with
  |nil=>simp
  |cons x L I=>rw[cL,Js,I,cr,lU,nQ]
def ajP(c d:Int)(h1:1<=c)(a:1<=d):mi (min c 1000000*min d 1000000) 1000000=min (c*d) 1000000:=by
 rw[tf];by_cases Q:c<=1000000;by_cases t:d<=1000000
 grind
 rw[show min c 1000000=c by omega,show min d 1000000=1000000 by omega];have C:1*d<=c*d:=Int.mul_le_mul_of_nonneg_right h1 aW;omega;have Y:1000000*1<=1000000*min d 1000000:=abr aW aW;have C:c*1<=c*d:=abr a aW
 grind
def E6:∀(l:List ba) (b:Int) (g:aL) (c:Int),1<=c->(∀x∈l,bU x≠2->∀b,(1:Int)<=aA (cK b x)/\ (cw x).1 =min (aA (cK b x):Int) 1000000)->(∀x∈l,bU x=2->(cw x).1 =1)->1<=(qj (eJ b g l):Int)/\ (cD l).foldl (jE 3) (min c 1000000)=min (c*qj (eJ b g l)) 1000000
 |[],b,g,c,Q,h,p=>by rw[eJ,qj,cD];exact at6
 |n::l,b,g,c,Q,h,p=>by
  rw[eJ,cD,gn];have W:∀a b,jE 3 a b=mi (a*b.1) 1000000:=λa b=>rfl;rw[W];cases f:bU n==2;have f:bU n≠2:=aum;have⟨C,w⟩:=h n ei f b;rw[br,qj,w,ajP _ _ Q C];have F:1*1<=c*aA (cK b n):=Ci Q C aW aW;have⟨j,O⟩:=E6 l (b+cS n) [] (c*aA (cK b n)) aW (λx s=>h x<|dR _ s) λx s=>p x<|dR _ s;rw[O];show 1<=((aA (cK b n)*qj (eJ (b+cS n) [] l):Nat):Int)/\ _=min (c*((aA (cK b n)*qj (eJ (b+cS n) [] l):Nat):Int)) 1000000;rw[Int.natCast_mul];have G:1*1<=(aA (cK b n):Int)*qj (eJ (b+cS n) [] l):=Ci C j aW aW
  grind
  have f:bU n=2:=aum;rw[a8,p n ei f,Int.mul_one];have:mi (min c 1000000) 1000000=min c 1000000:=by rw[tf];omega
  rw[this];exact E6 l (b+cS n) (g++[b]) c Q (λx s=>h x<|dR _ s) λx s=>p x<|dR _ s
def P_:∀(l:List ba) (b:Int) (c:Int),0<=c->(∀x∈l,∀b,(1:Int)<=aA (cK b x)/\ (cw x).1 =min (aA (cK b x):Int) 1000000)->(cD l).foldl (jE 4) (min c 1000000)=min (c+aA (fT b l)) 1000000
 |[],b,c,Q,h=>by rw[fT,cD];exact at6
 |n::l,b,c,Q,h=>by
  rw[fT,cD,gn,cN];have f:∀a b,jE 4 a b=mi (a+b.1) 1000000:=λa b=>rfl;have⟨C,w⟩:=h n ei b;rw[f,w];have:mi (min c 1000000+min (aA (cK b n):Int) 1000000) 1000000=min (c+aA (cK b n)) 1000000:=by rw[tf];omega
  rw[this,P_ l (b+cS n) _ aW λx s=>h x<|dR _ s];exact aw1
def zd:∀(n:ba),eR n->bU n≠2->∀b,(1:Int)<=aA (cK b n)/\ (cw n).1 =min (aA (cK b n):Int) 1000000
 |.mk k M F a W,r,G,b=>by
  rw[eR]at r;obtain⟨-,C,f,A⟩:=r;have I:∀x∈W,bU x≠2->∀b,(1:Int)<=aA (cK b x)/\ (cw x).1 =min (aA (cK b x):Int) 1000000:=λx s p=>zd x (A x s) p;have v:∀x∈W,bU x=2->(cw x).1 =1:=λx _ h=>by have⟨k,M,F,a,W⟩:=x;exact avl
  rw[cK,cw]
  rcases f with⟨rfl,rfl,V,p,d⟩|⟨rfl,_⟩|⟨rfl,x,l,Z,s⟩|⟨rfl,V,p⟩
  show(1:Int)<=(aA (il b M (F-M+1).toNat):Int)/\ F-M+1=min (aA (il b M (F-M+1).toNat):Int) 1000000;rw[il,bj,nN];omega;exact awB;show(1:Int)<=(aA (eZ []<|eJ b [] W):Int)/\ ((cD W).foldl kC (1,0,0)).1 =min (aA (eZ []<|eJ b [] W):Int) 1000000;rw[HY,Kw];have⟨j,O⟩:=E6 W b [] 1 aW I v
  grind
  show(1:Int)<=(aA (fT b W):Int)/\ (de<|cD W).1 =min (aA (fT b W):Int) 1000000;have w:∀x∈W,∀b,(1:Int)<=aA (cK b x)/\ (cw x).1 =min (aA (cK b x):Int) 1000000:=λx s=>I x s<|p x s;have X:=P_ W b 0 aW w;rw[Int.zero_add]at X;refine⟨?_,?_⟩
  cases W with
  |nil=>exact absurd aM V
  |cons x l=>have:=(w x ei b).1;rw[fT,cN];omega
  rw[Ro (k:=4) aW];exact X;intro q e;rw[tM,fv]at e;obtain⟨x,s,rfl⟩:=e;have:=(w x s b);omega
 termination_by n=>n
 decreasing_by
  have:=j6 s;simp only[ba.mk.sizeOf_spec];omega
def PZ:∀{l:List ba} {i:Nat} (G:i<aA l) (b:Int),fT b (l.take<|i+1)=fT b (l.take i)++cK (b+dx (l.take i)) l[i]
 |n::l,0,_,b=>by simp[fT,dx]
 |n::l,i+1,G,b=>by
  have:=PZ (l:=l) (i:=i) (ka G)<|b+cS n;simp only[j7,fT,dx,List.getElem_cons_succ,this,eF]
  grind
def PY:∀(l:List ba) (i:Nat) (b:Int),aA (fT b<|l.take i)<=aA (fT b l)
 |[],i,b=>aY
 |n::l,0,b=>by simp[fT]
 |n::l,i+1,b=>by have:=PY l i<|b+cS n;rw[j7,fT,fT,cN,cN];omega
def Zx{l:List ba}(h:∀x∈l,eR x):∀i,dx (l.take i)<=12*i:=by
 intro i
 induction i with
 |zero=>simp[dx]
 |succ i I=>by_cases G:i<aA l;rw[EL G];have:=(qS<|h _<|bD G).2.2;omega;rw[eM aW];rw[eM aW]at I;omega
def arM(o s:Int)(a:dZ)(k:List ba)(b:Int)(L:aA k<=8)(r:∀x∈k,eR x)(a0:0<=b)(C:b<=1000000000)(b0:aA (fT b k)<=64)(I:∀i (G:i<aA k),∀W,0<=W->W<=b+12*i->aA (cK W k[i])<=64->aS VP 214 [.agg<|bc k[i],iV W] (.fz<|dD<|cK W k[i])):aS VP 214 [.agg<|bc<|.mk 4 o s a k,iV b] (.fz<|dD<|fT b k):=by
 have Q:=Zx r;have j:=λi=>yc<|k.take i;have l:=PY k;have N:=λi (G:i<aA k)=>PZ G b;refine mQ Lj NU λw y=>?_;refine S5 Tryz.f214.eq_1 @J8 @s5 @bg @zq ?_;refine vS (F:=λx=>dC VP _<|dL (cJ 0<|dL (cJ 5 x) _) _) (aA k) (λi T h=>T 1=iV (b+dx (k.take i))/\ T 2=.aR 5002 1 0 0/\ T 9=iV i/\ h.y=y/\ h.o 5002=⟨1,0,.cells aa ab 31 9 [bc<|.mk 4 o s a k]⟩/\ ∃v,T 5=b9 (dD<|fT b<|k.take i) 5063 v/\ b6 (h.o 5063) (dD<|fT b<|k.take i) v 316 1) ?_ ?_ ?_;refine S2 @bg @s5 ?_;exact⟨by rw[i',dx,Jd],rfl,0,rfl,rfl,λh=>absurd aM h⟩;rintro i T h G ⟨p,U,Z,E,O,v,c,J⟩;have Y:i<9223372036854775807:=aW;rw[bg]at O;have D:=Q i;have S:=j i;have f:=Oq _<|r _<|bD G;have e:=(qS<|r _<|bD G).2.2;have d:=qU k[i];have u:=l (i+1) b;rw[N i G,cN]at u;have m:=I i G (b+dx (k.take i)) aW aW aW;have X:dD (fT b<|k.take<|i+1)=dD (fT b<|k.take i)++dD (cK (b+dx (k.take i)) k[i]):=by rw[N i G];exact dg
 have t:=EL G;rw[X,t];have P:aA (dD<|fT b<|k.take i)<536870912:=auC;have n:aA (dD<|cK (b+dx (k.take i)) k[i])<536870912:=auC;have V:fW 1 (dD<|cK (b+dx (k.take i)) k[i])=aa:=ahD _;have g:ah (aA<|cK (b+dx (k.take i)) k[i]) (2^30)=aa:=qx aW;generalize dD (fT b<|k.take i)=A at*;generalize c0:b+dx (k.take i)=B at*;have z:av .i64 (B+cS k[i])=B+cS k[i]:=d' _ aW aW;have q:b+(dx (k.take i)+cS k[i])=B+cS k[i]:=aW;rw[q];generalize cK B k[i]=M at*;refine bq p U c Z O @s5 (a6 G) @bd m.bE @cm V (an g<|an (Px _ J P n)<|an f.aP z) ?_;exact⟨E,by rw[bg],_,rfl,F7 J⟩;rintro T h ⟨p,U,Z,E,O,v,c,J⟩;rw[bg]at O;rw[bP]at c J;refine S7 p U c Z O @s5 (gf J) ?_;rw[E]
def YP(l:List ba)(p:List<|List bo)(b:Int)(g:aL):aA (qd p b g l)=aA p*qj (eJ b g l):=by
 rw[Ik,List.length_flatMap];have:(p.map λs=>aA<|eZ s<|eJ b g l)=p.map λ_=>qj (eJ b g l):=sB λy _=>HY _ _;rw[this]
 induction p with
 |nil=>simp
 |cons x L I=>rw[cL,Js,I<|by exact sB λy _=>HY _ _,cr,lU,nQ]
def yU(y:List bo):Prop:=∀s∈y,aA s.bH<=8
def an6{g:aL}{y:List bo}(o:aA g<=8)(Q:yU y):yU (fi g y):=by
 cases y with
 |nil=>exact Q
 |cons s t=>
  intro x m
  rcases dz.1 m with m|m
  subst m;exact o;exact Q x<|dR _ m
def Ns:∀(l:List ba) (b:Int) (g:aL) (I:List bo),aA g+aA l<=8->yU I->(∀x∈l,bU x≠2->∀b,∀y∈cK b x,yU y)->∀z∈eZ I (eJ b g l),yU z
 |[],b,g,I,G,p,h,z,o=>by rw[eJ,eZ,ku]at o;subst o;exact p
 |n::l,b,g,I,G,p,h,z,o=>by
  rw[eJ]at o;simp only[cr]at G;cases f:bU n==2<;>rw[f]at o;rw[br,eZ,oL]at o;have⟨y,Q,o⟩:=o;refine Ns l _ _ _ (by simp only[f_];omega) ?_ (λx m=>h x<|dR _ m) z o;intro s B
  rcases mF.1 B with B|B
  exact p s B;exact an6 (by show aA g<=8;omega) (h n ei aum b y Q) s B;rw[a8]at o;exact Ns l _ _ _ (by rw[cN];exact awC) p (λx m=>h x<|dR _ m) z o
def Hh:∀(n:ba),eR n->bU n≠2->∀b,∀y∈cK b n,yU y
 |.mk k M F a W,r,G,b,y,Q=>by
  rw[eR]at r;obtain⟨-,C,f,A⟩:=r;have I:∀x∈W,bU x≠2->∀b,∀y∈cK b x,yU y:=λx m j=>Hh x (A x m) j;rw[cK]at Q
  rcases f with⟨rfl,rfl,h,j,d⟩|⟨rfl,_⟩|⟨rfl,x,l,Z,m⟩|⟨rfl,h,j⟩
  have Q:y∈il b M (F-M+1).toNat:=Q;unfold il at Q;obtain⟨i,g,rfl⟩:=fv.1 Q;intro s B;rw[List.eq_of_mem_replicate B];exact kQ _;exact awB;have Q:y∈eZ [] (eJ b [] W):=Q;exact Ns W b [] [] (by simp only[f_];omega) (λs B=>by cases B) I y Q;have Q:y∈fT b W:=Q;rw[yy,oL]at Q;have⟨p,O,Q⟩:=Q;have⟨Y,_⟩:=xM _ _ _ O
  grind
 termination_by n=>n
 decreasing_by
  have:=j6 m;simp only[ba.mk.sizeOf_spec];omega
def yk(T:VV)(h:H)(g:List Int):Prop:=(g=[]/\ T=.nil)\/ ∃v md fr,T=.bh 5093 v 0 (aA g)/\ h.o 5093=⟨v,md,.cells ab fr 3 1<|g.map iC⟩/\ g≠[]
def alO(s k:Nat):Prop:=(s=5074\/ 1000000000<=s)/\ s<=5123+1000000000*k
def ac4:ga VP.D 316 []=.ok (.agg [.nil]):=aV
def agd{α:Type}{x:List (List bo)}{i:Nat}(G:i<aA x)(f:List bo->List α):(x.take<|i+1).flatMap f=(x.take i).flatMap f++f x[i]:=by rw[ej G,Cn,kP,Fs,ea]
def abE(W D:Nat):jl (dD []) W D=D:=rfl
def abD(e:List bo)(E:List<|List bo)(W D:Nat):jl (dD<|e::E) W D=W:=rfl
def Xb{E:List (List bo)}{i W k B D:Nat}(V:B=jl (dD E) W D)(p:D=5123+1000000000*(k+1))(Z:i<=5123+1000000000*k)(x:E≠[]->i<W/\ 1000000000<=W/\ W<=5123+1000000000*k):i<B/\ 1000000000<=B/\ B<=5123+1000000000*(k+1)/\ B≠5123:=by
 cases E with
 |nil=>rw[abE]at V;omega
 |cons e E=>rw[abD]at V;have⟨X,q2,n⟩:=x aY;omega
def Ej{x:R Vo}{G:R Vo->R Vo}{Q Q':Vo->Prop}(h1:ew x Q')(a:∀o,Q' o->ew (G<|.ok o) Q):ew (G x) Q:=by have⟨o,e,k⟩:=h1;rw[e];exact a o k
def SZ(p L:List<|List bo)(g:aL):aA (p.flatMap λx=>L.map λy=>x++fi g y)=aA p*aA L:=by
 induction p with
 |nil=>simp
 |cons x M I=>rw[kP,cN,I,bj,cr,lU,nQ]
def yk.of{T:VV}{h h':H}{g:aL}(k:yk T h g)(e:h'.o 5093=h.o 5093):yk T h' g:=by
 rcases k with k|⟨v,U,P,C,w,j⟩
 exact .inl k;exact .inr ⟨v,U,P,C,by rw[e];exact w,j⟩
def arL(k1 l1:Int)(a:dZ)(l:List ba)(b:Int)(h8:aA l<=8)(m1:∀x∈l,eR x)(z2:0<=b)(R1:b<=1000000000)(A2:aA (qd [[]] b [] l)<=64)(T1:∀i (C0:i<aA l),bU l[i]≠2->∀P0,0<=P0->P0<=b+12*i->aA (cK P0 l[i])<=64->aS VP 214 [.agg<|bc l[i],iV P0] (.fz<|dD<|cK P0 l[i])):aS VP 214 [.agg<|bc<|.mk 3 k1 l1 a l,iV b] (.fz<|dD<|qd [[]] b [] l):=by
 have p1:=Zx m1;have Q0:∀x:ba,bU x=2->(cw x).1 =1:=λx h=>by have⟨k,k1,l1,a,l⟩:=x;exact avl
 have U1:1<=aA (qd [[]] b [] l):=by have:=(E6 l b [] 1 aW (λx k0 h2=>zd x (m1 x k0) h2) λx _ h2=>Q0 x h2).1;rw[YP,sA,Nat.one_mul];omega
 have r1:=λi=>yc<|l.take i;generalize s0:qd [[]] b [] l=F at*;refine mQ Lj NU λw y=>?_;refine S8 Tryz.f214.eq_1 @J8 @s5 @bg @zq @cC @ac4 @dW ?_;refine lF 7 (aA l) (λi T h=>T 1=iV (b+dx (l.take i))/\ T 2=.aR 5002 1 0 0/\ T 11=iV i/\ h.y=y/\ h.o 5002=⟨1,0,.cells aa ab 31 9 [bc<|.mk 3 k1 l1 a l]⟩/\ ∃z g P v D0,T 5=b9 (dD z) P v/\ b6 (h.o P) (dD z) v 316 1/\ alO P (h.o 5123).ver/\ T 10=b9 (g.map iC) 5093 D0/\ b6 (h.o 5093) (g.map iC) D0 3 1/\ aA g<=i/\ (∀x∈z,aA x<=72*i)/\ qd z (b+dx (l.take i)) g (l.drop i)=F) ?_ ?_ ?_;refine S2 @bg @s5 ?_;refine⟨by rw[i',dx,Jd],rfl,[[]],[],5074,1,0,rfl,b6.next,⟨.inl rfl,aW⟩,rfl,⟨rfl,λh=>absurd aM h⟩,kQ _,λx k0=>?_,by rw[i',dx,Jd];exact s0⟩;rw[ku]at k0;subst k0;exact kQ _;rintro i T h C0 ⟨t1,t2,V,n1,o2,z,g,P,v,D0,N,o1,o0,u,L0,u1,A0,s0⟩;have V1:i<9223372036854775807:=aW;rw[bg]at o2;have W1:=p1 i;have X1:=r1 i;have t0:=m1 _<|bD C0;have R0:=Oq _ t0;have Y1:=(qS t0).2.2;have a2:=qU l[i];have T0:=EL C0;rw[fD C0,qd]at s0;rw[T0];have v1:=T1 i C0;have e0:gg ae (bc l[i]) 0=.ok (iV<|bU l[i]):=by have⟨k,k1,l1,a,l⟩:=l[i];rw[bg];rfl
 generalize B2:b+dx (l.take i)=B at*;have w1:b+(dx (l.take i)+cS l[i])=B+cS l[i]:=aW;rw[w1];have x1:av .i64 (B+cS l[i])=B+cS l[i]:=d' _ aW aW;cases M0:bU l[i]==2;have B0:bU l[i]≠2:=by simpa using M0
 rw[M0,br]at s0;have b2:=(zd _ t0 B0 B).1;have U0:=Hh _ t0 B0 B;have V0:=DU _ t0 B0 B;have c2:=(E6 (l.drop<|i+1) (B+cS l[i]) [] 1 aW (λx k0 h2=>zd x (m1 x<|wC k0) h2)<|λx k0 h2=>Q0 x h2).1;have E0:=np aA s0;rw[YP]at E0;have W0:=SZ z (cK B l[i]) g;rw[W0]at E0;have u0:=v1 B0 B aW aW;generalize k0:l[i]=x at*;generalize cK B x=L at*;generalize qj (eJ (B+cS x) []<|l.drop<|i+1)=W at*;have d2:1<=aA L:=aW;have e2:1<=W:=aW;have f2:aA z*aA L<=64:=by have:=Pl (aA z*aA L) (show 0<W by omega);omega
 have F0:1<=aA z:=by
  cases z with
  |nil=>rw[f_,kb,kb]at E0;omega
  |cons _ _=>simp
 have y1:aA L<=64:=by have:=Nat.le_mul_of_pos_left (aA L) (show 0<aA z by omega);omega
 have z1:aA z<=64:=by have:=Pl (aA z) (show 0<aA L by omega);omega
 have u0:=u0 y1;have⟨O1,G0⟩:=o1.2 (by intro e;rw[Jn]at e;rw[e]at F0;simp at F0);have N:T 5=.bh P v 0 (aA z):=by
  rw[N]
  cases z with
  |nil=>simp at F0
  |cons _ _=>show VV.bh P v 0 (aA<|dD _)=_;rw[bj]
 have A1:P=5074\/ 1000000000<=P:=o0.1;have X0:yk (T 10) h g:=by
  rw[u]
  cases g with
  |nil=>exact .inl ⟨aM,aM⟩
  |cons g0 g=>have⟨g2,L0⟩:=L0.2 aY;exact .inr ⟨D0,g2,ab,by show VV.bh 5093 D0 0 (aA<|(g0::g).map iC)=_;rw[bj],L0,aY⟩
 refine bq t1 t2 N V o2 @s5 (a6 C0) @bd k0 e0 M0 (an u0.bE @cm) ?_;generalize Y0:(h.o 5012).ver+1=p0;clear u;generalize a1:T 10=d0 at*;obtain⟨b1,i2⟩:∃b1,b1=(h.o 5123).ver:=⟨_,aM⟩;have B1:∀y∈L,∀s∈y,aA s.bH<500000:=λy C1 s p1=>by have:=U0 y C1 s p1;omega
 have c1:∀y∈L,aA y<=72:=λy C1=>by have:=(V0 y C1).2;omega
 have j2:∀s,s≠5012->s≠5123->((h.new 5012<|.cells aa ab 31 9 [[iV 0,iV 0,iV 0,iV 0,bV ab,uV 0,.nil,sV [],.nil]]).mod 5012<|.cells aa ab 31 9 [bc x]).o s=h.o s:=λs h1 h2=>auy;refine ot (G:=λx=>dL (cJ 8<|dL (cJ 9 x) _) _) (aA z) (λj T t=>T 1=iV B/\ T 2=.aR 5002 1 0 0/\ T 11=iV i/\ T 5=.bh P v 0 (aA z)/\ T 10=d0/\ T 12=.aR 5012 p0 0 0/\ T 14=.fz (dD L)/\ T 15=iV j/\ t.y=y/\ t.o 5002=h.o 5002/\ (∃m,t.o 5012=⟨p0,m,.cells aa ab 31 9 [bc x]⟩)/\ t.o P=h.o P/\ b1<=(t.o 5123).ver/\ yk d0 t g/\ (t.o 5093).ver=(h.o 5093).ver/\ ∃C c0,T 13=b9 (dD<|(z.take j).flatMap λx=>L.map λy=>x++fi g y) C c0/\ b6 (t.o C) (dD<|(z.take j).flatMap λx=>L.map λy=>x++fi g y) c0 316 1/\ (((z.take j).flatMap λx=>L.map λy=>x++fi g y)≠[]->P<C/\ 1000000000<=C/\ C<=5123+1000000000*(t.o 5123).ver)/\ (C=0\/ 1000000000<=C)) ?_ ?_ ?_;refine S7 t1 t2 N V @s5 n1 a1 ?_;exact⟨aM,⟨1,by rw[Y0]⟩,aW,X0.of auy,0,_,rfl,⟨rfl,λh=>absurd aM h⟩,λh=>absurd aM h,.inl aM⟩;rintro j T t O0 ⟨t1,t2,V,N,u,S,M,r,O,a0,⟨f0,b0⟩,U,i0,h0,J,C,c0,I,Q,d,j0⟩;have k2:j<9223372036854775807:=aW;refine bq t1 t2 N u V S I M r @s5 @jc (an U<|an G0<|a6 O0) ?_;have l2:(z.take<|j+1).flatMap (λx=>L.map λy=>x++fi g y)=(z.take j).flatMap (λx=>L.map λy=>x++fi g y)++L.map λy=>z[j]++fi g y:=agd O0 _;rw[l2];have P1:aA ((z.take j).flatMap λx=>L.map λy=>x++fi g y)<=64:=by rw[SZ,ep];have:min j (aA z)*aA L<=aA z*aA L:=uY _ aW;omega
 generalize((z.take j).flatMap λx=>L.map λy=>x++fi g y)=A at*;have m2:=A0 _<|bD O0;have d1:(dD z)[j]?=ad (lC z[j]):=uu (f:=lC)<|cx O0;generalize z[j]=X at*;refine Ej (G:=λx=>dL (cJ 10<|cJ 11 x) _) (Q':=λo=>∃T t,o=.exit 11 T t/\ T 1=iV B/\ T 2=.aR 5002 1 0 0/\ T 11=iV i/\ T 5=.bh P v 0 (aA z)/\ T 10=d0/\ T 12=.aR 5012 p0 0 0/\ T 14=.fz (dD L)/\ T 15=iV j/\ t.y=y/\ t.o 5002=h.o 5002/\ (∃m,t.o 5012=⟨p0,m,.cells aa ab 31 9 [bc x]⟩)/\ t.o P=⟨v,O1,.cells ab ab 316 1<|dD z⟩/\ b1<=(t.o 5123).ver/\ yk d0 t g/\ (t.o 5093).ver=(h.o 5093).ver/\ ∃C c0,T 13=b9 (dD<|A++L.map λy=>X++fi g y) C c0/\ b6 (t.o C) (dD<|A++L.map λy=>X++fi g y) c0 316 1/\ ((A++L.map λy=>X++fi g y)≠[]->P<C/\ 1000000000<=C/\ C<=5123+1000000000*(t.o 5123).ver)/\ (C=0\/ 1000000000<=C)) ?_ ?_
 as_aux_lemma=>
  refine ot (G:=λx=>x) (aA L) (λk T t=>T 1=iV B/\ T 2=.aR 5002 1 0 0/\ T 11=iV i/\ T 5=.bh P v 0 (aA z)/\ T 10=d0/\ T 12=.aR 5012 p0 0 0/\ T 14=.fz (dD L)/\ T 15=iV j/\ T 16=iV k/\ t.y=y/\ t.o 5002=h.o 5002/\ (∃m,t.o 5012=⟨p0,m,.cells aa ab 31 9 [bc x]⟩)/\ t.o P=⟨v,O1,.cells ab ab 316 1<|dD z⟩/\ b1<=(t.o 5123).ver/\ yk d0 t g/\ (t.o 5093).ver=(h.o 5093).ver/\ ∃C c0,T 13=b9 (dD<|A++(L.take k).map λy=>X++fi g y) C c0/\ b6 (t.o C) (dD<|A++(L.take k).map λy=>X++fi g y) c0 316 1/\ ((A++(L.take k).map λy=>X++fi g y)≠[]->P<C/\ 1000000000<=C/\ C<=5123+1000000000*(t.o 5123).ver)/\ (C=0\/ 1000000000<=C)) ?_ ?_ ?_;refine S9 t1 t2 N u V S I M r ?_;exact⟨aM,O,a0,⟨f0,b0⟩,by rw[U];exact G0,i0,h0,J,C,c0,by rw[i',i_,ea],by rw[i',i_,ea];exact Q,by rw[i',i_,ea];exact d,j0⟩;clear Q d j0 I J h0 i0 U b0 O a0 t1 t2 N u V S M r;rintro k T t r0 ⟨t1,t2,V,N,u,S,M,r,l0,O,a0,⟨f0,b0⟩,U,i0,h0,J,C,c0,I,Q,d,j0⟩;have p2:k<9223372036854775807:=aW;have r2:(L.take<|k+1).map (λy=>X++fi g y)=(L.take k).map (λy=>X++fi g y)++[X++fi g L[k]]:=by rw[ej r0,dg];rfl
  rw[r2,<-eF];have u2:aA (A++(L.take k).map λy=>X++fi g y)<=200:=by rw[cN,bj,ep];omega
  generalize(A++(L.take k).map λy=>X++fi g y)=E at*;have v2:=c1 _<|bD r0;have D1:=B1 _<|bD r0;have m0:=ar9 X L[k] g aW aW aW D1;have e1:∀h:H,cF h (ae,1) (.fz<|dD L) (k:Int)=.ok (.bA (lC L[k]) 0):=λh=>db (s:=1) lC L k r0;generalize L[k]=Y at*;have f1:aA (dD E)<536870912:=auC;have g1:dD (E++[X++fi g Y])=dD E++[lC<|X++fi g Y]:=dg
  rcases h0 with⟨rfl,rfl⟩|⟨w2,x2,C2,rfl,E1,i1⟩
  have m0:aS VP 280 [.agg<|lC X,.agg<|lC Y,.fz []] (.agg<|lC<|X++fi [] Y):=m0;generalize X++fi [] Y=Z at*;refine bq t1 t2 N u V S I M r l0 @s5 (an (a6 r0)<|an @fg<|an @fk<|an (eB O0)<|an @c6<|an @bZ<|an U<|an d1<|an e1<|an m0.bE<|an @cm @IK) ?_;have F1:(t.new 5122<|.cells ab ab 316 1 [[.fz<|Z.map bm]]).o 5123=t.o 5123:=auy;obtain⟨D,v0⟩:∃D,D=nq 5123 (t.new 5122<|.cells ab ab 316 1 [[.fz<|Z.map bm]]):=⟨_,Eq.refl _⟩;have G1:D=5123+1000000000*((t.o 5123).ver+1):=by rw[v0];unfold nq;rw[F1]
  have w0:b6 ((t.new 5122<|.cells ab ab 316 1 [[.fz<|Z.map bm]]).o C) (dD E) c0 316 1:=by refine N0 ?_;exact Q
  rw[<-v0,wK (ver:=c0) (eT:=316) (sz:=1) (c:=[.fz<|Z.map bm]) (s:=C) w0 f1 aug P8 rfl];obtain⟨z0,x0⟩:∃z0,z0=jl (dD E) C D:=⟨_,Eq.refl _⟩;rw[<-x0];have H1:=Xb x0 G1 (by have:=o0.2;omega) d;have⟨H0,y0,I0,J0⟩:=H1;generalize K0:((t.new 5122<|.cells ab ab 316 1 [[.fz<|Z.map bm]]).o z0).ver+1=I1;have j1:P≠5123:=aW;rw[g1];refine bq t1 t2 N u V S M r l0 @bd @s5 (an @sT<|an @hN<|an @Aw<|an b0 U) ?_;exact⟨O,a0,⟨f0,aM⟩,aW,.inl ⟨rfl,rfl⟩,J,z0,I1,rfl,by rw[hN J0,jt,K0];exact auh,λ_=>⟨H0,y0,I0⟩,.inr y0⟩;have J1:ai (aA g) (aA g)=aa:=aY;have K1:ar (aA g) (au 0<|g.map iC)=g.map iC:=at8;generalize X++fi g Y=Z at*;refine bq t1 t2 N u V S I M r l0 @s5 (an (a6 r0)<|an @fg<|an @fk<|an (eB O0)<|an @c6<|an @bZ<|an U<|an d1<|an e1<|an J1<|an K1<|an m0.bE<|an @cm<|an @IK E1) ?_;have F1:((fM t 5093).new 5122<|.cells ab ab 316 1 [[.fz<|Z.map bm]]).o 5123=t.o 5123:=auy;obtain⟨D,v0⟩:∃D,D=nq 5123 ((fM t 5093).new 5122<|.cells ab ab 316 1 [[.fz<|Z.map bm]]):=⟨_,Eq.refl _⟩;have G1:D=5123+1000000000*((t.o 5123).ver+1):=by rw[v0];unfold nq;rw[F1]
  have w0:b6 (((fM t 5093).new 5122<|.cells ab ab 316 1 [[.fz<|Z.map bm]]).o C) (dD E) c0 316 1:=by refine N0 ?_;exact Q
  rw[<-v0,wK (ver:=c0) (eT:=316) (sz:=1) (c:=[.fz<|Z.map bm]) (s:=C) w0 f1 aug P8 rfl];obtain⟨z0,x0⟩:∃z0,z0=jl (dD E) C D:=⟨_,Eq.refl _⟩;rw[<-x0];have H1:=Xb x0 G1 (by have:=o0.2;omega) d;have⟨H0,y0,I0,J0⟩:=H1;generalize K0:(((fM t 5093).new 5122<|.cells ab ab 316 1 [[.fz<|Z.map bm]]).o z0).ver+1=I1;have j1:P≠5123:=aW;rw[g1];refine bq t1 t2 N u V S M r l0 @bd @s5 (an @sT<|an @hN<|an @Aw<|an b0 U) ?_;have e5:(5093:Nat)≠z0:=aW;exact⟨O,a0,⟨f0,aM⟩,aW,.inr ⟨w2,x2,aa,rfl,by rw[hN aT];simp(disch:=omega)only[dE,Dr,E1];rfl,i1⟩,by rw[E1]at J|-;exact J,z0,I1,aM,by rw[hN J0,jt,K0];exact auh,λ_=>⟨H0,y0,I0⟩,.inr y0⟩;rintro T t ⟨t1,t2,V,N,u,S,M,r,l0,O,a0,⟨f0,b0⟩,U,i0,h0,J,C,c0,I,Q,d,j0⟩;rw[bP]at I Q d;refine fm t1 t2 N u V S M r l0 @bd ?_;refine⟨_,_,aM,?_⟩;refine S9 t1 t2 N u V S M r l0 ?_;exact awi
 rintro o ⟨T,t,rfl,t1,t2,V,N,u,S,M,r,O,a0,⟨f0,b0⟩,U,i0,h0,J,C,c0,I,Q,d,j0⟩;refine S9 t1 t2 N u V S M r @bd ?_;exact awi;rintro T t ⟨t1,t2,V,N,u,S,M,r,O,a0,⟨f0,b0⟩,U,i0,h0,J,C,c0,I,Q,d,j0⟩;rw[bP]at I Q d;refine bq t1 t2 N u V S I M r @s5 @jc (an U<|an G0<|an b0<|an R0.aP<|an x1 @bd) ?_;have L1:(z.flatMap λx=>L.map λy=>x++fi g y)≠[]:=λe=>by have:=np aA e;rw[W0,f_]at this;have:=Pl (aA z) (show 0<aA L by omega);omega
 have⟨q1,q2,q3⟩:=d L1;refine⟨O,by rw[a0,o2,bg],_,[],C,c0,(h.o 5093).ver,rfl,Q,⟨.inr q2,q3⟩,rfl,⟨J,λh=>absurd aM h⟩,kQ _,λx k0=>?_,s0⟩;have⟨p,y2,k0⟩:=oL.1 k0;obtain⟨q,A1,rfl⟩:=fv.1 k0;have h1:=A0 p y2;have h2:=c1 q A1;rw[cN,Io];omega;rw[M0,a8]at s0;have M1:=ajF (n:=l[i]) (by simpa using M0);rw[M1]at s0 x1|-;have Q1:(g++[B]).map iC=g.map iC++[[iV B]]:=dg;have N1:aA (g.map iC)<536870912:=auC;refine bq t1 t2 N u V o2 @s5 (a6 C0) @bd e0 M0 (an (iM L0 N1) x1) ?_;refine⟨n1,by rw[bg],z,g++[B],P,v,D0+1,rfl,?_,o0,by rw[Q1],by rw[Q1,L0.1];exact auh,by rw[cN];exact awC,λx k0=>by have:=A0 x k0;omega,s0⟩;have A1:P=5074\/ 1000000000<=P:=o0.1;refine N0 ?_;exact o1;rintro T h ⟨t1,t2,V,n1,o2,z,g,P,v,D0,N,o1,o0,u,L0,u1,A0,s0⟩;rw[fS,qd]at s0;subst s0;rw[bg]at o2;refine S7 t1 t2 N V o2 @s5 (gf o1) ?_;rw[n1]
def Zg:∀(d:Nat) (n:ba),bR d n=aa->bR (d+1) n=aa
 |0,n,h=>by cases h
 |d+1,.mk k M F a W,h=>by have I:=Zg d;have f:=(zH h).2;rw[bR]at h|-;exact at6
def aoD{d e:Nat}(h:d<=e){n:ba}(s:bR d n=aa):bR e n=aa:=by
 induction h with
 |refl=>exact s
 |step _ I=>exact Zg _ _ I
def PS{x n:ba}:∀{l:List ba},n∈l->x∈eA n->x∈hI l
 |m::l,h,s=>by
  rw[hI,mF]
  rcases dz.1 h with h|h
  subst h;exact .inl s;exact .inr<|PS h s
def Vk:∀(n:ba) (d:Nat),d<=200->bR d n=aa->dt n->lv n<1048576->cS n<=12->(∀x∈eA n,pK x=ab/\ pj x=ab/\ pb x=ab)->eR n
 |.mk k M F a W,0,t,s,X,S,P,m=>by cases s
 |.mk k M F a W,d+1,t,s,X,S,P,m=>by
  have⟨b,f⟩:=zH s;have Q:=m (.mk k M F a W) (by rw[eA];exact ei);have c:∀x∈W,eR x:=λx Y=>by
   have T:=AG Y;have z:cS x<=cS (.mk k M F a W):=by rw[Vd];cases J:(k==1)||(k==2);exact VH W x Y;rw[b J]at Y;cases Y
   rw[lv]at S;rw[dt]at X;exact Vk x d aW (f x Y) (X.2.2 x Y) aW aW λy D=>m y (by rw[eA];exact dR _<|PS Y D)
  rw[eR];have⟨u,N,A⟩:=Q;have C:aA W<=8:=by
   rw[pK]at u
   grind
  refine⟨⟨⟨X,S⟩,aoD t s,P⟩,C,?_,c⟩;rw[bR]at s;rw[pj]at N;rw[pb]at A;by_cases V:k=1;exact at6;by_cases p:k=2;exact at6;have q:(k==1)=ab:=by simp[V]
  have U:(k==2)=ab:=by simp[p]
  rw[q,U]at s;simp only[br]at s;cases j:(k==3||k==4);rw[j]at s;cases s;rw[j]at s;simp only[a8,bW,c_]at s;have g:2<=aA W:=aW;simp only[iB,nj]at j
  rcases j with rfl|rfl
  refine .inr<|.inr<|.inl ⟨aM,?_⟩
  cases W with
  |nil=>simp at g
  |cons x l=>refine⟨x,l,aM,λe=>?_⟩;rw[oq]at A;simp only[gz]at A;have:=A.1;unfold r8 at this;rw[e]at this;simp at this
  refine .inr<|.inr<|.inr ⟨aM,λe=>by rw[e]at g;simp at g,?_⟩;have:∀(l:List ba) (i:Nat) (O:Int),oq 4 O i l=ab->∀x∈l,bU x≠2:=by
   intro l
   induction l with
   |nil=>intro i O _ x m;cases m
   |cons y l v=>
    intro i O h x m e;rw[oq]at h;simp only[gz]at h
    rcases dz.1 m with m|m
    subst m;have:=h.1;unfold r8 at this;exact at6
    grind
  grind
 termination_by n=>n
 decreasing_by
  have:=j6 Y;simp only[ba.mk.sizeOf_spec];omega
def IZ{q:cR}(X:gR q)(h:eh q=0):eR q.bt/\ bU q.bt≠2:=by
 unfold eh at h;have⟨V,h⟩:=oC h;have⟨a,h⟩:=oC h;have⟨d,h⟩:=oC h;have⟨A,h⟩:=oC h;obtain⟨Z,-⟩:=oC h;have s:bR 200 q.bt=aa:=by
  unfold pM at V
  grind
 unfold Bd at a;unfold EA at A;unfold En at Z;rw[s,a8]at a;cases j:(ax (12<(aA (qw q.bt):Int))||ax (4<(aA q.k_:Int))||ax (4<(aA q.kW:Int))||(eA q.bt).any pK);cases r:(ax (10000<q.iI)||(eA q.bt).any pj);cases B:((bU q.bt==2)||(eA q.bt).any pb);simp only[gz,cE,py]at j r B;refine⟨Vk q.bt 200 (bu _) s X.1.1 X.2 ?_ λx m=>⟨?_,?_,?_⟩,λe=>by have:=B.1;rw[e]at this;cases this⟩;have:=j.1.1.1;rw[bj]at this;unfold cS;omega;exact at6;exact at6;exact at6;rw[B]at Z;cases Z;rw[r]at A;cases A;rw[j]at a;cases a
def aaE:∀(n:ba) (b:Int),eR n->bU n≠2->0<=b->b+100*lv n<=1000000000->aA (cK b n)<=64->aS VP 214 [.agg<|bc n,iV b] (.fz<|dD<|cK b n)
 |.mk k M F a W,b,r,q,X,v,P=>by
  have y:=r;rw[eR]at r;obtain⟨-,C,f,s⟩:=r;rw[lv]at v;have I:∀i (G:i<aA W),bU W[i]≠2->∀T,0<=T->T<=b+12*i->aA (cK T W[i])<=64->aS VP 214 [.agg<|bc W[i],iV T] (.fz<|dD<|cK T W[i]):=λi G p T Q h d=>by have c:=AG<|bD G;exact aaE W[i] T (s _<|bD G) p Q aW d
  rw[cK]at P|-
  rcases f with⟨rfl,rfl,h,p,d⟩|⟨rfl,_⟩|⟨rfl,x,l,Z,m⟩|⟨rfl,h,p⟩
  exact arK M F a b h p d;exact absurd aM q;have e:eZ [] (eJ b [] W)=qd [[]] b [] W:=by rw[Ik,kP,Fs,ea]
  have P:aA (eZ []<|eJ b [] W)<=64:=P;show aS VP 214 _<|.fz<|dD<|eZ []<|eJ b [] W;rw[e]at P|-;exact arL M F a W b C s X aW P I;have P:aA (fT b W)<=64:=P;exact arM M F a W b C s X aW P λi G=>I i G (p _<|bD G)
 termination_by n=>n
 decreasing_by
  have:=j6<|bD G;simp only[ba.mk.sizeOf_spec];omega
def Kv(q:cR):Int:=(cw q.bt).1
def arJ(q:cR)(X:gR q):aS VP 212 [.agg<|bG q] (.bn [iV<|bif eh q==0 then Kv q else 0,iV<|eh q]):=by
 have g:=aaC q X;rw[<-abh]at g;cases e:eh q==0;have n:(eh q !=0)=aa:=by simp[bne,e]
 generalize eh q=E at*;obtain⟨k,M,F,a,W,u,v,Z,rfl⟩:=qC q;simp only[bG,bg,ck,b7]at g|-;refine gO Tryz.f212.eq_1 λw y=>?_;exact axa;have e:eh q=0:=avF;have⟨h,p⟩:=IZ X e;have o:=aaO q.bt h;rw[e]at g|-;unfold Kv;obtain⟨k,M,F,a,W,u,v,Z,rfl⟩:=qC q;have o:aS VP 278 [.agg<|bc<|.mk k M F a W] (iV (cw<|.mk k M F a W).1):=o;show aS VP 212 _<|.bn [iV (cw<|.mk k M F a W).1,iV 0];generalize(cw<|.mk k M F a W).1 =C at*;simp only[bG,bg,ck,b7]at g o|-;refine gO Tryz.f212.eq_1 λw y=>?_;exact S2 g.aP o.aP tr
def p_(q:cR):Int:=bif eh q==0 then(bif ax (64<(cw q.bt).1)||ax (12<(cw q.bt).2.2)then 23 else 0)else eh q
def qR(q:cR):List (List bo):=bif p_ q==0 then cK 0 q.bt else[]
def arl(q:cR)(X:gR q):aS VP 153 [.agg<|bG q] (.bn [.fz<|dD<|qR q,iV<|p_ q]):=by
 have g:=arJ q X;unfold qR p_;cases e:eh q==0;have r:(eh q !=0)=aa:=by simp[bne,e]
 rw[e]at g;simp only[br,e]at g|-;generalize eh q=E at*;obtain⟨k,A,F,a,W,u,v,Z,rfl⟩:=qC q;simp only[bG,bg,ck,b7]at g|-;show aS VP 153 _<|.bn [.fz [],iV E];refine gO Tryz.f153.eq_1 λw y=>?_;exact S2 g.aP r tr;rw[e]at g;have e:eh q=0:=avF;have⟨h,p⟩:=IZ X e;have o:=aaD q.bt h;have m:=X.2;have f:=zd q.bt h p 0;have P:=aaE q.bt 0 h p aW aW;rw[e]at g;simp only[a8]at g|-;unfold Kv at g;obtain⟨k,A,F,a,W,u,v,Z,rfl⟩:=qC q;generalize r:ba.mk k A F a W=n at*;have f:=f.2;have o:aS VP 213 [.agg<|bc n] (.bn [iV (cw n).2.1,iV (cw n).2.2]):=o;have f:(cw n).1 =min (aA (cK 0 n):Int) 1000000:=f;have P:aA (cK 0 n)<=64->aS VP 214 [.agg<|bc n,iV 0] (.fz<|dD<|cK 0 n):=P;have g:aS VP 212 [.agg<|bG ⟨n,u,v,Z⟩] (.bn [iV (cw n).1,iV 0]):=g;show aS VP 153 [.agg<|bG ⟨n,u,v,Z⟩]<|.bn [.fz<|dD<|bif (bif ax (64<(cw n).1)||ax (12<(cw n).2.2)then(23:Int)else 0)==0 then cK 0 n else[],iV<|bif ax (64<(cw n).1)||ax (12<(cw n).2.2)then 23 else 0];generalize cK 0 n=M at*;generalize cw n=J at*;have⟨c,O,i⟩:=J;clear h p;subst r;simp only at g o f|-;cases t:ax<|64<c;have P:=P (by rw[cE]at t;omega);cases N:ax<|12<i;show aS VP 153 _<|.bn [.fz<|dD M,iV 0];simp only[bG,bg,ck,b7]at g o P|-;refine gO Tryz.f153.eq_1 λw y=>?_;exact S6 g.aP o.aP P.bE @cm t N tr;show aS VP 153 _<|.bn [.fz [],iV 23];simp only[bG,bg,ck,b7]at g o P|-;refine gO Tryz.f153.eq_1 λw y=>?_;exact S4 g.aP o.aP t N tr;show aS VP 153 _<|.bn [.fz [],iV 23];simp only[bG,bg,ck,b7]at g o|-;refine gO Tryz.f153.eq_1 λw y=>?_;exact S3 g.aP o.aP t tr
abbrev gL(l:List bo):List Int:=l.map λs=>s.da
def Qh(g:aL)(y:List bo):gL (fi g y)=gL y:=by cases y<;>rfl
def pV(n i:Int)(l:List bo):Prop:=∀s∈l,n<=s.da/\ s.da<i
def an7{n i:Int}{g:aL}{y:List bo}(h:pV n i y):pV n i (fi g y):=by
 cases y with
 |nil=>exact h
 |cons s t=>
  intro x m
  rcases dz.1 m with m|m
  subst m;exact h s ei;exact h x<|dR _ m
def ED:∀(l:List ba) (b:Int) (g:aL) (I:List bo),(∀x∈l,bU x≠2->∀b,∀y∈cK b x,pV b (b+cS x) y)->∀z∈eZ I (eJ b g l),∃t,z=I++t/\ pV b (b+dx l) t
 |[],b,g,I,h,z,o=>by rw[eJ,eZ,ku]at o;subst o;exact⟨[],(ea _).symm,λs B=>by cases B⟩
 |n::l,b,g,I,h,z,o=>by
  rw[eJ]at o;have p:=qU n;have q:=yc l;cases f:bU n==2<;>rw[f]at o;rw[br,eZ,oL]at o;have⟨y,Q,o⟩:=o;have⟨t,V,a⟩:=ED l _ _ _ (λx m=>h x<|dR _ m) z o;have i:=an7 (g:=g)<|h n ei aum b y Q;refine⟨fi g y++t,by rw[V,eF],λs B=>?_⟩;rw[dx]
  rcases mF.1 B with B|B
  have:=i s B;omega;have:=a s B;omega;rw[a8]at o;have⟨t,V,a⟩:=ED l _ _ _ (λx m=>h x<|dR _ m) z o;refine⟨t,V,λs B=>?_⟩;rw[dx];have:=a s B;omega
def Mi:∀(n:ba),eR n->bU n≠2->∀b,∀y∈cK b n,pV b (b+cS n) y
 |.mk k M F a W,r,G,b,y,Q=>by
  rw[eR]at r;obtain⟨-,C,f,A⟩:=r;have I:∀x∈W,bU x≠2->∀b,∀y∈cK b x,pV b (b+cS x) y:=λx m j=>Mi x (A x m) j;rw[cK]at Q
  rcases f with⟨rfl,rfl,h,j,d⟩|⟨rfl,_⟩|⟨rfl,x,l,Z,m⟩|⟨rfl,h,j⟩
  have Q:y∈il b M (F-M+1).toNat:=Q;unfold il at Q;obtain⟨i,g,rfl⟩:=fv.1 Q;have P:cS (.mk 1 M F a [])=1:=rfl;intro s B
  grind
  exact awB;have Q:y∈eZ [] (eJ b [] W):=Q;rw[xy aW aW];have⟨t,h,j⟩:=ED W b [] [] I y Q;rw[h];exact j;have Q:y∈fT b W:=Q;rw[xy aW aW];rw[yy,oL]at Q;have⟨p,O,Q⟩:=Q;have⟨Y,d,c⟩:=xM _ _ _ O;have:=I p.2 Y (j _ Y) p.1 y Q;intro s B;have:=this s B;omega
 termination_by n=>n
 decreasing_by
  have:=j6 m;simp only[ba.mk.sizeOf_spec];omega
abbrev zl(x y:List bo):Prop:=gL x≠gL y
def RB{c:Int}:∀{y y' t t':aL},(∀a∈y,a<c)->(∀a∈y',a<c)->(∀a∈t,c<=a)->(∀a∈t',c<=a)->y++t=y'++t'->y=y'
 |[],[],_,_,_,_,_,_,_=>rfl
 |a::y,[],t,t',h,p,d,A,e=>by rw[b7,ck]at e;subst e;have:=h a ei;have:=A a ei;omega
 |[],a::y',t,t',h,p,d,A,e=>by rw[b7,ck]at e;subst e;have:=p a ei;have:=d a ei;omega
 |a::y,B::y',t,t',h,p,d,A,e=>by
  rw[ck,ck]at e
  injection e with g C
  rw[g,RB (λx s=>h x<|dR _ s) (λx s=>p x<|dR _ s) d A C]
def Nv:∀(l:List ba) (b:Int) (g:aL) (I:List bo),(∀x∈l,bU x≠2->∀b,(cK b x).Pairwise zl/\ ∀y∈cK b x,pV b (b+cS x) y)->(eZ I<|eJ b g l).Pairwise zl
 |[],b,g,I,h=>by rw[eJ,eZ];exact at6
 |n::l,b,g,I,h=>by rw[eJ];have r:∀x∈l,bU x≠2->∀b,∀y∈cK b x,pV b (b+cS x) y:=λx m p b=>(h x (dR _ m) p b).2;cases f:bU n==2;have⟨O,p⟩:=h n ei aum b;rw[br,eZ,List.pairwise_flatMap];refine⟨λy Q=>Nv l _ _ _ λx m=>h x<|dR _ m,?_⟩;refine O.imp_of_mem λ{y N} Q V C z o Z i e=>C ?_;have⟨t,T,w⟩:=ED l _ _ _ r z o;have⟨Y,j,M⟩:=ED l _ _ _ r Z i;have e:gL z=gL Z:=e;rw[T,j]at e;simp only[gL,dg,eF]at e;have e:=List.append_cancel_left e;have P:gL (fi g y)++gL t=gL (fi g N)++gL Y:=e;rw[Qh,Qh]at P;refine RB (c:=b+cS n) ?_ ?_ ?_ ?_ P;intro a J;obtain⟨s,B,rfl⟩:=fv.1 J;exact(p y Q s B).2;intro a J;obtain⟨s,B,rfl⟩:=fv.1 J;exact(p N V s B).2;intro a J;obtain⟨s,B,rfl⟩:=fv.1 J;exact(w s B).1;intro a J;obtain⟨s,B,rfl⟩:=fv.1 J;exact(M s B).1;rw[a8];exact Nv l _ _ _ λx m=>h x<|dR _ m
def P':∀(l:List ba) (b:Int),(∀x∈l,∀b,(cK b x).Pairwise zl/\ ∀y∈cK b x,y≠[]/\ pV b (b+cS x) y)->(fT b l).Pairwise zl
 |[],b,h=>by rw[fT];exact List.Pairwise.nil
 |n::l,b,h=>by
  rw[fT,List.pairwise_append];have⟨V,a⟩:=h n ei b;refine⟨V,P' l _ λx m=>h x<|dR _ m,λy Q z o e=>?_⟩;have⟨d,A⟩:=a y Q;rw[yy,oL]at o;have⟨p,M,o⟩:=o;have⟨Y,Z,w⟩:=xM _ _ _ M;have⟨c,C⟩:=(h p.2 (dR _ Y) p.1).2 z o
  cases y with
  |nil=>exact d aM
  |cons s y=>cases z with
   |nil=>exact c aM
   |cons F z=>
    simp only[gL,cL]at e
    injection e with g _
    have:=(A s ei).2;have:=(C F ei).1;omega
def Vh:∀(n:ba),eR n->bU n≠2->∀b,(cK b n).Pairwise zl
 |.mk k M F a W,X,G,b=>by
  rw[eR]at X;obtain⟨-,C,f,r⟩:=X;have I:∀x∈W,bU x≠2->∀b,(cK b x).Pairwise zl/\ ∀y∈cK b x,pV b (b+cS x) y:=λx m p b=>⟨Vh x (r x m) p b,Mi x (r x m) p b⟩;rw[cK]
  rcases f with⟨rfl,rfl,h,p,d⟩|⟨rfl,_⟩|⟨rfl,x,l,Z,m⟩|⟨rfl,h,p⟩
  show(il b M (F-M+1).toNat).Pairwise zl;unfold il;rw[O9];refine List.Pairwise.imp (R:=λi j:Nat=>i<j) (λ{i j} P e=>?_) abt;exact at6;exact awB;exact Nv W b [] [] I;refine P' W b λx m b=>⟨(I x m (p x m) b).1,λy Q=>⟨?_,(I x m (p x m) b).2 y Q⟩⟩;have⟨⟨s,t,e,_⟩,_⟩:=DU x (r x m) (p x m) b y Q;rw[e];exact OS _ _
 termination_by n=>n
 decreasing_by
  have:=j6 m;simp only[ba.mk.sizeOf_spec];omega
def s8(d:Nat):dk 8 (ad d)=8000+d:=rfl
def acH:VP.h5 203=8:=rfl
def acD:8*1000+6+1=8007:=rfl
def Qp:8*1000+23+1=8024:=rfl
def aly:8007*1000+5=8007005:=rfl
def alz:8024*1000+5=8024005:=rfl
def YW{α:Type}{l:List α}{i:Nat}{x:α}(h:l[i]?=ad x):l.set i x=l:=by obtain⟨G,rfl⟩:=lQ.1 h;exact at6
def arE(l:List bo)(h0:l≠[])(r:aA l<100000)(g:∀s∈l,aA s.bH<100000):aS VP 203 [.fz<|l.map bm] (.agg<|lC l):=by
 obtain⟨Z,U,rfl⟩:∃s N,l=s::N:=by
  cases l with
  |nil=>exact absurd aM h0
  |cons s l=>exact⟨s,l,aM⟩
 have Q:aA (bm Z::U.map bm)<536870912:=by rw[cr]at r;rw[cr,bj];omega
 have B:=λw h=>Ub (b:=8007) aT w h (bm Z) (U.map bm) aM Q;have W:(Z::U).map bm=bm Z::U.map bm:=rfl;rw[W];refine mQ agm apM λw y=>?_;refine eN Tryz.f203.eq_1 @acH @s8 @acD @aly @Dx B @dW @cC @QE @jc ?_;rw[<-W];rw[bj];generalize Z::U=l at*;refine lF 0 (aA l) (λi T h=>T 3=.aR 8003 1 0 0/\ T 2=.aR 8002 1 0 0/\ T 10=iV (aA l)/\ T 11=iV i/\ h.y=y/\ h.o 8003=⟨1,1,.cells aa ab 316 1 [[.bh 8007005 2 0<|aA l]]⟩/\ (∃m c,h.o 8002=⟨1,m,.cells aa ab 316 1 [[c]]⟩)/\ ∃o,h.o 8007005=⟨2,o,.cells ab ab 68 2<|l.map bm⟩) ?_ ?_ ?_;refine S0 ?_;exact⟨aM,⟨0,_,aM⟩,0,aM⟩;rintro i T h G ⟨O,e,u,V,E,F,⟨Y,z,L⟩,o,S⟩;have a:=g _<|bD G;have M:(l.map bm)[i]?=ad (bm l[i]):=uu (f:=bm)<|cx G;have D:=YW M;generalize l[i]=s at*;have⟨v,P⟩:=s;have M:(l.map bm)[i]?=ad [iV v,.fz<|P.map iC]:=M
 cases P with
 |nil=>have I:=λh=>LJ (b:=8024) aT w h;have D:(l.map bm).set i [iV v,.fz []]=l.map bm:=D;refine bq O e u V F S @s8 (a6 G) @bd @fg @fk (an (eB G)<|an @c6<|an @bZ<|an M<|an @cC<|an @ua<|an @Qp<|an I<|an @Lz D) ?_;exact⟨E,⟨Y,z,L⟩,o+1,aM⟩
 |cons X P=>
  have q:aA ([iV X]::P.map iC)<536870912:=by have a:aA (X::P)<100000:=a;rw[cr]at a;rw[cr,bj];omega
  have I:=λh=>LK (b:=8024) aT w h [iV X] (P.map iC) aM q;have D:(l.map bm).set i [iV v,.fz<|[iV X]::P.map iC]=l.map bm:=D;have n:ai (aA<|[iV X]::P.map iC) (aA<|[iV X]::P.map iC)=aa:=iE<|bu _;have k:ar (aA<|[iV X]::P.map iC) (au 0<|[iV X]::P.map iC)=[iV X]::P.map iC:=by rw[e6,bP]
  refine bq O e u V F S @s8 (a6 G) @bd @fg @fk (an (eB G)<|an @c6<|an @bZ<|an M<|an @dW<|an @ua<|an @Qp<|an @alz<|an I<|an D<|an n k) ?_;exact⟨E,⟨Y,z,L⟩,o+1,aM⟩
 rintro T h ⟨O,e,u,V,E,F,⟨Y,z,L⟩,o,S⟩;have n:ai (aA l) (aA l)=aa:=iE<|bu _;have k:ar (aA l) (au 0<|l.map bm)=l.map bm:=at8;refine eN O e u V F L S @s8 n k @bZ ?_;rw[E]
def Nu:∀(l:List ba) (b:Int) (g:aL) (s:List bo) (c:hJ),(∀x∈l,bU x≠2->∀b,∀y∈cK b x,(aA y:Int)<=(cw x).2.2)->(∀x∈l,bU x=2->(cw x).2.2 =0)->(aA s:Int)<=c.2.2->∀z∈eZ s (eJ b g l),(aA z:Int)<=((cD l).foldl kC c).2.2
 |[],b,g,s,c,h,a,Q,z,o=>by rw[eJ,eZ,ku]at o;subst o;exact Q
 |n::l,b,g,s,c,h,a,Q,z,o=>by rw[eJ]at o;rw[cD,gn];have B:(kC c<|cw n).2.2 =c.2.2+(cw n).2.2 :=rfl;cases f:bU n==2<;>rw[f]at o;rw[br,eZ,oL]at o;have⟨y,D,o⟩:=o;have i:=h n ei aum b y D;exact Nu l _ _ _ _ (λx m=>h x<|dR _ m) (λx m=>a x<|dR _ m) (by rw[cN,Io,B];omega) z o;rw[a8]at o;have i:=a n ei aum;exact Nu l _ _ _ _ (λx m=>h x<|dR _ m) (λx m=>a x<|dR _ m) (by rw[B];omega) z o
def Tk:∀(l:List hJ) (c:hJ),c.2.2<=(l.foldl nW c).2.2 /\ ∀b∈l,b.2.2<=(l.foldl nW c).2.2
 |[],c=>⟨rq _,λb h=>by cases h⟩
 |x::l,c=>by
  have⟨V,a⟩:=Tk l<|nW c x;have s:(nW c x).2.2 =Hv c.2.2 x.2.2:=rfl;rw[s,V7]at V
  grind
def Mh:∀(n:ba),eR n->bU n≠2->∀b,∀y∈cK b n,(aA y:Int)<=(cw n).2.2
 |.mk k M F a W,r,G,b,y,Q=>by
  rw[eR]at r;obtain⟨-,t,f,A⟩:=r;have I:∀x∈W,bU x≠2->∀b,∀y∈cK b x,(aA y:Int)<=(cw x).2.2 :=λx s j=>Mh x (A x s) j;have v:∀x∈W,bU x=2->(cw x).2.2 =0:=λx _ h=>by have⟨k,M,F,a,W⟩:=x;exact avl
  rw[cK]at Q;rw[cw]
  rcases f with⟨rfl,rfl,V,j,d⟩|⟨rfl,_⟩|⟨rfl,x,l,Z,s⟩|⟨rfl,V,j⟩
  have Q:y∈il b M (F-M+1).toNat:=Q;unfold il at Q
  grind
  exact awB;have Q:y∈eZ [] (eJ b [] W):=Q;exact Nu W b [] [] (1,0,0) I v aY y Q;have Q:y∈fT b W:=Q;show _<=(de<|cD W).2.2;rw[yy,oL]at Q;have⟨p,X,Q⟩:=Q;have⟨m,_⟩:=xM _ _ _ X;have U:=I p.2 m (j _ m) p.1 y Q;have L:cw p.2∈cD W:=by rw[tM];exact Cq m
  cases O:cD W with
  |nil=>rw[O]at L;cases L
  |cons c l=>
   rw[O]at L;rw[de];have⟨Y,C⟩:=Tk l c
   rcases dz.1 L with h|h
   rw[h]at U;omega;have:=C _ h;omega
 termination_by n=>n
 decreasing_by
  have:=j6 s;simp only[ba.mk.sizeOf_spec];omega
structure oJ where
 v:List Int
 h:aA v=12
instance:BEq oJ:=⟨λa b=>a.v==b.v⟩
instance:LawfulBEq oJ where
 eq_of_beq {a b} h:=by have h:(a.v==b.v)=aa:=h;have⟨a,J⟩:=a;have⟨b,e⟩:=b;have h:a=b:=eq_of_beq h;subst h;rfl
 rfl {a}:=by show(a.v==a.v)=aa;exact ve _
abbrev iA(n:Int):AV:=.aN<|.int .i64 n
def kA(k:oJ):AV:=.agg<|k.v.map iA
def Gw(n:Nat)(a b:Int):bX VP.D (n+1) 3 (iA a) (iA b)=.ok (a==b):=by unfold bX;rw[sq];rfl
def aqo:cP VP.D 314=.ok (.array 12 3):=aV
def apD:size VP.D 3=.ok 1:=aV
def WW(l:aL){i:Nat}(G:i<aA l):Dt.part VP.D 3 (l.map iA) (i*1)=.ok (iA l[i]):=by
 unfold Dt.part;rw[sq];have:(l.map iA)[i*1]?=ad (iA l[i]):=by rw[yp,hY,cx G];rfl
 show(match(l.map iA)[i*1]? with|ad v=>_|ae=>_)=_;exact avO
def R8(a b:aL):∀(m i:Nat),aA a=i+m->aA b=i+m->mM VP.D (bX VP.D 9) 3 1 (a.map iA) (b.map iA) m i=.ok (a.drop i==b.drop i)
 |0,i,J,e=>by rw[mZ aW,mZ aW];rfl
 |m+1,i,J,e=>by
  unfold mM;rw[WW a aW,WW b aW];show(aO (bX VP.D 9 3 (iA _)<|iA _) λr=>if r=aa then mM VP.D (bX VP.D 9) 3 1 (a.map iA) (b.map iA) m (i+1)else .ok ab)=_;rw[Gw,fD aW,fD (l:=b) aW];show(if(a[i]'aW==b[i]'aW)=aa then mM VP.D (bX VP.D 9) 3 1 (a.map iA) (b.map iA) m (i+1)else .ok ab)=_;rw[R8 a b m (i+1) aW aW,List.cons_beq_cons]
  grind
def KM(a b:oJ):bX VP.D 10 314 (kA a) (kA b)=.ok (a==b):=by have h:=R8 a.v b.v 12 0 (by rw[a.h]) (by rw[b.h]);unfold bX;rw[aqo];show(aO (size VP.D 3) λn=>mM VP.D (bX VP.D 9) 3 n (a.v.map iA) (b.v.map iA) 12 0)=_;rw[apD];exact h
def bqA(k:oJ):cU (kA k) (kA k)=aa:=by unfold kA;have:∀l:aL,kf (l.map iA) (l.map iA)=aa:=λl=>awD;simp[cU,this]
def UR:o9 VP.D 306=.ok (314,4):=aV
def s_(y:List bo)(h:aA y<=12):oJ:=⟨(gL y).map (λa=>a+1)++ak (12-aA y) 0,by rw[cN,bj,bj,jR];omega⟩
def aiO{x y:List bo}{m:aA x<=12}{Q:aA y<=12}(h1:pV 0 100 x)(p:pV 0 100 y)(e:s_ x m=s_ y Q):gL x=gL y:=by
 have e:(gL x).map (λa=>a+1)++ak (12-aA x) 0=(gL y).map (λa=>a+1)++ak (12-aA y) 0:=np oJ.v e;have j:∀(z:List bo) (n:Nat),pV 0 100 z->((gL z).map (λa=>a+1)++ak n 0).filter (λa=>a !=0)=(gL z).map (λa=>a+1):=λz n h=>by rw[ry];have d:(ak n (0:Int)).filter (λa=>a !=0)=[]:=at6;rw[d,ea,OZ];intro a J;obtain⟨b,X,rfl⟩:=fv.1 J;obtain⟨s,B,rfl⟩:=fv.1 X;have:=h s B;exact aul
 have C:=np (λl:aL=>l.filter<|λa=>a !=0) e;have C:((gL x).map (λa=>a+1)++ak (12-aA x) 0).filter (λa=>a !=0)=((gL y).map (λa=>a+1)++ak (12-aA y) 0).filter (λa=>a !=0):=C;rw[j _ _ h1,j _ _ p]at C;have i:∀l:aL,(l.map λa=>a+1).map (λa=>a-1)=l:=λl=>by
  rw[pB]
  conv=>rhs;rw[<-List.map_id l]
  refine sB λa _=>?_;exact at6
 grind
def pQ(l:List Int)(i:Nat):List Int:=(l.take i).map (λa=>a+1)++ak (12-i) 0
def SD{l:aL}{i:Nat}(h:i<=aA l)(a:i<=12):aA (pQ l i)=12:=by unfold pQ;rw[cN,bj,ep,jR];omega
def afW{l:aL}{i:Nat}(G:i<aA l)(p:i<12):(pQ l i).take i++((l[i]+1)::(pQ l i).drop (i+1))=pQ l (i+1):=by unfold pQ;exact auW
def alJ(l:aL):hc (.agg<|l.map λn=>iV n)=ad (.agg<|l.map iA):=by have:∀l:aL,eU (l.map λn=>iV n)=ad (l.map iA):=λl=>au6;rw[hc,this]
def fvK(l:List<|oJ×Bool)(k:oJ):oa VP.D 314 (.agg<|k.v.map iA) (l.map<|hL kA)=.ok ((qI l k).map λb=>.aN<|.bool b):=Dn KM k l
def svK(l:List<|oJ×Bool)(k:oJ)(b:Bool):oz (bV b) VP.D 314 (.agg<|k.v.map iA) (l.map<|hL kA)=.ok ((po l k b).map<|hL kA):=EM KM bqA k b l
def pvK(k:oJ):tq (.agg<|k.v.map iA)=aa:=by show(k.v.map iA).all xO=aa;rw[List.all_map,kt];intro a _;rfl
def aff(k:oJ):bX VP.D 10 314 (.agg<|k.v.map iA) (.agg<|k.v.map iA)=.ok aa:=by have:=KM k k;rw[show(k==k)=aa from ve _]at this;exact aw0
def arf(q:cR)(V0:gR q):aS VP 141 [.agg<|bG q] (.bn [.fz<|dD<|qR q,iV<|p_ q]):=by
 have g:=aaq q V0;unfold qR p_;cases B:eh q==0;have G0:(eh q !=0)=aa:=by simp[bne,B]
 simp only[br,B];generalize eh q=E at*;obtain⟨k,W0,X0,a,Y0,a1,b1,c1,rfl⟩:=qC q;simp only[bG,bg,ck,b7]at g|-;show aS VP 141 _<|.bn [.fz [],iV E];refine gO Tryz.f141.eq_1 λw y=>?_;exact S2 g.aP G0 tr;have B:eh q=0:=by simpa using B
 have⟨V,X⟩:=IZ V0 B;have o:=aaB q.bt V X;have g3:=Om q.bt 0;have H0:=(qS V).2.2;have d1:=Ui q.bt 0 V X (rq _) aW;have g0:=Vh q.bt V X 0;have b:=Mi q.bt V X 0;have h0:=DU q.bt V X 0;have i0:=Hh q.bt V X 0;have I:=(zd q.bt V X 0).2;have r:=Mh q.bt V X 0;rw[B]at g;simp only[a8,B];have N:=ac3 q.bt;have j0:∀h,cq h e8 (.agg<|dP q.bt 0)=.ok (.agg<|dP q.bt 0,[]):=λh=>by show aO (d_ (cq h 11) _) _=_;rw[sR q.bt 0 h 10];rfl
 have I0:=λh=>sR q.bt 0 h 10;obtain⟨k,W0,X0,a,Y0,a1,b1,c1,rfl⟩:=qC q;generalize G0:ba.mk k W0 X0 a Y0=n at*;simp only at o g3 d1 g0 b h0 i0 I r N j0 I0 H0;show aS VP 141 [.agg<|bG ⟨n,a1,b1,c1⟩]<|.bn [.fz<|dD<|bif (bif ax (64<(cw n).1)||ax (12<(cw n).2.2)then(23:Int)else 0)==0 then cK 0 n else[],iV<|bif ax (64<(cw n).1)||ax (12<(cw n).2.2)then 23 else 0];generalize cK 0 n=M at*;generalize cw n=i1 at*;generalize um n=F at*;generalize dP n 0=p1 at*;generalize cS n=q1 at*;have⟨c,m1,m2⟩:=i1;clear V X;subst G0;simp only at g o I r|-;cases t:ax<|64<c;cases f:ax<|12<m2;show aS VP 141 _<|.bn [.fz<|dD M,iV 0];rw[cE]at t f;have e1:aA M<=64:=aW;have J:ax (64<c)=ab:=kV t;have z:ax (12<m2)=ab:=kV f;simp only[bG,bg,ck,b7]at g o N|-;refine gO Tryz.f141.eq_1 λw y=>?_;refine eN g.aP o.aP J z @dW @cC N I0 g3.bE @cm @UR ?_;generalize J0:Vm.dX _ _ _=T;have W:T 6=.aR 6 1 0 0:=by rw[<-J0];exact aug
 have t7:T 7=.aR 7 1 0 0:=by rw[<-J0];exact aug
 clear J0;have k0:∀x∈M,aA x<=12:=λx U=>by have:=r x U;omega
 have l0:∀x∈M,pV 0 100 x:=λx U s K0=>by have:=b x U s K0;omega
 clear r b J z t f I g o g3 N I0;refine am1 (F:=λx=>dC VP _<|dL (cJ 0 x) _) (M.map jv) d1 (j0 _) (λj h=>h.y=y/\ (∃m,h.o 7=⟨1,m,.cells aa ab 306 1 [[.cz 28 1]]⟩)/\ (∃m v,h.o 6=⟨1,m,.cells aa ab 239 1 [[b9 (dD<|M.take j) 57 v]]⟩/\ b6 (h.o 57) (dD<|M.take j) v 316 1)/\ ∃j1 A,h.o 28=⟨1,j1,.map<|A.map<|hL kA⟩/\ ∀(k:oJ),mP A k=aa->∃x∈M.take j,∃d0,k=s_ x d0) ?_ ?_ ?_;refine S0 ?_;exact⟨⟨1,aM⟩,⟨0,0,aM,aM,λh=>absurd aM h⟩,0,[],aM,λk m0=>by cases m0⟩;rintro j h e0 ⟨L0,⟨m7,o7⟩,⟨m6,v,o6,f0⟩,m8,A,o8,M0⟩;rw[bj]at e0;rw[fK];have o0:=bD e0;have O:=k0 _ o0;have p0:=l0 _ o0;have⟨⟨s0,t0,r0,_⟩,_⟩:=h0 _ o0;have u0:=arE M[j] (by rw[r0];exact OS _ _) aW (λs K0=>by have:=i0 _ o0 s K0;omega);have v0:mP A (s_ M[j] O)=ab:=by cases E0:mP A<|s_ M[j] O;rfl;have⟨x,U,d0,e⟩:=M0 _ E0;have e:=aiO p0 (l0 x<|D5 U) e;obtain⟨i,P,rfl⟩:=zZ U;rw[ep]at P;have:=List.pairwise_iff_getElem.1 g0 i j aW e0 aW;rw[List.getElem_take]at e;exact absurd e.symm this
 have f1:dD (M.take<|j+1)=dD (M.take j)++[lC M[j]]:=by rw[ej e0];exact dg
 have w0:∀x∈M.take j,x∈M.take (j+1):=λx U=>by rw[ej e0];exact O7 _ U
 have x0:M[j]∈M.take (j+1):=by rw[ej e0];exact O8 _<|ku.2 aM
 rw[f1];have k1:aA (dD<|M.take j)<536870912:=by rw[bj,ep];omega
 have O0:∀(k:oJ),mP (po A (s_ M[j] O) aa) k=aa->∃x∈M.take (j+1),∃d0,k=s_ x d0:=λk m0=>by rw[yS]at m0;cases E0:k==s_ M[j] O;rw[E0]at m0;have⟨x,U,d0,e⟩:=M0 k m0;exact⟨x,w0 x U,d0,e⟩;exact⟨M[j],x0,O,eq_of_beq E0⟩
 generalize M.take (j+1)=M1 at*;generalize dD (M.take j)=L at*;have y0:(s_ M[j] O).v=pQ (gL M[j]) M[j].length:=by unfold pQ s_;rw[eM<|by rw[bj];exact auS]
 generalize l1:s_ M[j] O=K at*;have P0:hc (.agg<|(pQ (gL M[j]) M[j].length).map λn=>iV n)=ad (.agg<|K.v.map iA):=by rw[<-y0];exact alJ _
 clear l1 y0 x0 w0 f1 r0 o0;show ew (fH _ _ _ _ h [.fz<|M[j].map bm]) _;generalize M[j]=Y at*;have g1:∀h:H,h.new 9 (.cells aa ab 314 12 [(pQ (gL Y) 0).map λn=>iV n])=h.new 9 (.cells aa ab 314 12 [[iV 0,iV 0,iV 0,iV 0,iV 0,iV 0,iV 0,iV 0,iV 0,iV 0,iV 0,iV 0]]):=λh=>rfl;refine S3 W t7 @cm ?_;generalize Q0:(h.o 9).ver+1=v9;have R0:∀i (P:i<aA (gL Y)),(gL Y)[i]=(Y[i]'(by rwa[bj]at P)).da:=λi P=>fK _;refine ot (G:=λx=>lk T<|cJ 1<|dL (cJ 2 x) _) (aA Y) (λi d C=>d 6=.aR 6 1 0 0/\ d 7=.aR 7 1 0 0/\ d 8=.fz (Y.map bm)/\ d 9=.aR 9 v9 0 0/\ d 34=.fz (Y.map bm)/\ d 35=iV (aA Y)/\ d 36=iV i/\ C.y=y/\ C.o 6=h.o 6/\ C.o 7=h.o 7/\ C.o 28=h.o 28/\ C.o 57=h.o 57/\ ∃m,C.o 9=⟨v9,m,.cells aa ab 314 12 [(pQ (gL Y) i).map λn=>iV n]⟩) ?_ ?_ ?_;refine S2 W t7 ?_;exact⟨aM,L0,0,by rw[Q0];rfl⟩;rintro i d C P ⟨W,t7,t8,t9,u,Z,Q,S,e6,e7,a0,b0,m9,o9⟩;have n1:i<9223372036854775807:=aW;have z0:=p0 _<|bD P;have T0:∀h:H,cF h (ae,2) (.fz<|Y.map bm) (i:Int)=.ok (.bA (bm Y[i]) 0):=λh=>db (s:=2) bm Y i P;have A0:i<aA (gL Y):=by rw[bj];exact P
 have B0:=afW A0 aW;rw[R0 i A0]at B0;have c0:=SD (l:=gL Y) (i:=i) aW aW;have z:=vo (p:=i) (n:=12) aW;rw[<-B0,dg,Fw,cL,Jm];have U0:ai (i+1) (aA<|pQ (gL Y) i)=aa:=iE aW;generalize pQ (gL Y) i=F0 at*;generalize Y[i]=s at*;have⟨D,r1⟩:=s;have z0:0<=D/\ D<100:=z0;have o1:av .i64 (D+1)=D+1:=d' _ aW aW;refine bq W t7 t8 t9 u Z Q (a6 P) @bd T0 o9 (an @uh<|an z<|an @c6<|an @bZ<|an @yp<|an o1 U0) ?_;exact⟨S,e6,e7,a0,b0,m9+1,aM⟩;rintro d C ⟨W,t7,t8,t9,u,Z,Q,S,e6,e7,a0,b0,m9,o9⟩;have c0:=SD (l:=gL Y) (i:=aA Y) (by rw[bj];exact auS) aW;generalize pQ (gL Y) (aA Y)=F0 at*;have C0:ai 12 (aA F0)=aa:=by rw[c0];rfl
 have D0:ar 12 (F0.map λn=>iV n)=F0.map λn=>iV n:=eM (by rw[bj,c0];exact auS);rw[<-b0]at f0;refine bq W t7 t8 t9 u Z Q e6 e7 a0 o6 (an o7<|an o8<|an o9<|an C0<|an D0<|an @UR<|an P0<|an @aff<|an @fvK<|an @I5<|an v0<|an @pvK<|an @svK<|an u0.bE<|an @cm<|iM f0 k1) ?_;exact⟨S,⟨m7,aM⟩,⟨_,_,aM,by rw[f0.1];exact auh⟩,_,_,aM,O0⟩;rintro h ⟨L0,⟨m7,o7⟩,⟨m6,v,o6,f0⟩,m8,A,o8,M0⟩;rw[bj,bP]at o6 f0;refine S3 W o6 (gf f0) ?_;rw[L0];show aS VP 141 _<|.bn [.fz [],iV 23];simp only[bG,bg,ck,b7]at g o|-;refine gO Tryz.f141.eq_1 λw y=>?_;exact S4 g.aP o.aP t f tr;show aS VP 141 _<|.bn [.fz [],iV 23];simp only[bG,bg,ck,b7]at g o|-;refine gO Tryz.f141.eq_1 λw y=>?_;exact S3 g.aP o.aP t tr
def N_:cP VP.D 324=.ok (.int .i8):=aV
def aej(n:Int):nZ VP.D 3 324 (.aN<|.int .i64 n)=.ok (bY .i8<|av .i8 n):=C7 sq N_ _ n
def as5(n:Int)(h1:0<=n)(a:n<128):av .i8 n=n:=by
 show(if(IntKind.i8.signed&&ax (n %256>=128))=aa then n %256-256 else n %256)=n
 grind
abbrev iF(n:Int):VV:=.aN<|.int .i8 n
def kj(l:List Int)(i:Nat):List Int:=(l.take i).map (λa=>a+1)++ak (13-i) 0
def K6{l:aL}{i:Nat}(h:i<=aA l)(a:i<=13):aA (kj l i)=13:=by unfold kj;rw[cN,bj,ep,jR];omega
def afX{l:aL}{i:Nat}(G:i<aA l)(p:i<13):(kj l i).take i++((l[i]+1)::(kj l i).drop (i+1))=kj l (i+1):=by unfold kj;exact auW
def vK(s:bo):List VV:=iV s.da::(kj s.bH<|aA s.bH).map iF
def ac5(a:Int):ga VP.D 327 [(0,iV a)]=.ok (.agg [iV a,iF 0,iF 0,iF 0,iF 0,iF 0,iF 0,iF 0,iF 0,iF 0,iF 0,iF 0,iF 0,iF 0]):=aV
def arI(s:bo)(e:aA s.bH<=12)(o:∀a∈s.bH,0<=a/\ a<12):aS VP 207 [.agg<|bm s] (.agg<|vK s):=by
 have⟨a,P⟩:=s;have e:aA P<=12:=e;have o:∀a∈P,0<=a/\ a<12:=o;unfold vK;refine gO Tryz.f207.eq_1 λw y=>?_;refine S3 @dW @cC @ac5 ?_;refine lF 0 (aA P) (λi T h=>T 2=.aR 2 1 0 0/\ T 3=.aR 3 1 0 0/\ T 10=iL P/\ T 11=iV (aA P)/\ T 12=iV i/\ h.y=y/\ (∃m c,h.o 2=⟨1,m,.cells aa ab 327 14 [c]⟩/\ aA c=14)/\ ∃m,h.o 3=⟨1,m,.cells aa ab 327 14 [iV a::(kj P i).map iF]⟩) ?_ ?_ ?_;refine S0 ?_;exact avT;rintro i T h A ⟨W,L,u,V,f,E,⟨Y,Q,k,q⟩,S,b⟩;have J:i<9223372036854775807:=aW;have r:=o _<|bD A;have C:∀h:H,cF h (ae,1) (iL P) (i:Int)=.ok (.bA [iV P[i]] 0):=λh=>db (s:=1) iC P i A;have z:=afX A aW;have N:=K6 (l:=P) (i:=i) aW aW;have Z:=vo (p:=i) (n:=13) aW;have j:ar (1+i) (iV a::(kj P i).map iF)++(iF (P[i]+1)::au (1+i) ((kj P i).map iF))=iV a::(kj P<|i+1).map iF:=by rw[<-z,dg,Fw,cL,Jm,nQ 1 i,j7,ck]
 have B:ai (1+i) (aA<|kj P i)=aa:=iE (by rw[N];omega);generalize kj P i=U at*;generalize kj P (i+1)=X at*;generalize P[i]=g at*;have M:av .i64 (g+1)=g+1:=d' _ aW aW;have d:av .i8 (g+1)=g+1:=as5 _ aW aW;refine bq W L u V f (a6 A) @bd C b @uh Z (an @c6<|an @yp<|an M<|an @aej<|an d<|an B j) ?_;exact⟨E,⟨Y,Q,k,q⟩,S+1,aM⟩;rintro T h ⟨W,L,u,V,f,E,⟨Y,Q,k,q⟩,S,b⟩;have N:=K6 (l:=P) (i:=aA P) (bu _) aW;generalize kj P (aA P)=F at*;have G:aA (iV a::F.map iF)=14:=by rw[cr,bj,N]
 have O:ar 14 (iV a::F.map iF)=iV a::F.map iF:=eM (by rw[G];exact auS);have t:∀(h:H) (n:Nat),d_ (cq h<|n+1) (iV a::F.map iF)=.ok (iV a::F.map iF,[]):=λh n=>by
  have:∀l:aL,d_ (cq h<|n+1) (l.map iF)=.ok (l.map iF,[]):=λl=>by
   induction l with
   |nil=>rfl
   |cons x l I=>rw[cL,d_,I];rfl
  rw[d_,this];rfl
 generalize iV a::F.map iF=K at*;have v:au 14 Q=[]:=mZ aW;refine bq W L u V f b k G O v q (an @bZ<|an @k6 t) ?_;rw[E]
def KO:∀{a b:aL},gZ a b=aa->a=b
 |[],[],_=>rfl
 |[],_::_,h=>by cases h
 |_::_,[],h=>by cases h
 |x::a,y::b,h=>by simp only[gZ,dK,bW,nj]at h;rw[h.1,KO h.2]
def KQ:∀a:aL,gZ a a=aa
 |[]=>rfl
 |x::a=>by have:=KQ a;simp only[gZ,dK]at this|-;rw[this];simp
def EG{s t:bo}(h:jz s t=aa):s=t:=by
 have⟨a,g⟩:=s;have⟨b,k⟩:=t;unfold jz at h;simp only at h;cases V:a==b;rw[V]at h;cases h;rw[V]at h;have:a=b:=by simpa using V
 rw[this,KO h]
def Ig(s:bo):jz s s=aa:=by unfold jz;rw[ve,a8];exact KQ _
def wh(z:Bool)(g:List Int):VV:=bif z then .nil else iL g
abbrev sp(z:Bool)(t:bl)(k:Nat×Nat):List VV:=[iV t.bN.da,wh z t.bN.bH,iV t.dT,b9 (t.be.map iC) k.1 k.2,bV t.dJ,iV t.cc]
def eV(K:Nat->Nat×Nat)(N:List bl):List (List VV):=N.zipIdx.map λp=>sp (ag p.2 0) p.1<|K p.2
def xW(K:Nat->Nat×Nat)(N:List bl):aA (eV K N)=aA N:=by rw[eV,bj,List.length_zipIdx]
def EB(K:Nat->Nat×Nat)(N:List bl)(i:Nat):(eV K N)[i]?=(N[i]?).map λt=>sp (ag i 0) t (K i):=by
 rw[eV,hY,List.getElem?_zipIdx,Option.map_map]
 grind
def xV(K:Nat->Nat×Nat){N:List bl}{i:Nat}(G:i<aA N):(eV K N)[i]?=ad (sp (ag i 0) N[i]<|K i):=by rw[EB,cx G];rfl
def eu(K:Nat->Nat×Nat)(i:Nat)(k:Nat×Nat):Nat->Nat×Nat:=λj=>bif ag j i then k else K j
def qh(K:Nat->Nat×Nat)(i:Nat)(k:Nat×Nat):eu K i k i=k:=by unfold eu;rw[gX];rfl
def oD(K:Nat->Nat×Nat){i j:Nat}(k:Nat×Nat)(h:j≠i):eu K i k j=K j:=by unfold eu;cases e:ag j i;rfl;exact at6
def BT(K:Nat->Nat×Nat){N:List bl}{i:Nat}(G:i<aA N)(t:bl)(k:Nat×Nat):(eV K N).set i (sp (ag i 0) t k)=eV (eu K i k) (N.set i t):=by apply uT;intro j;rw[EB,rz,rz,EB,xW];by_cases u:i=j;subst u;rw[b8 rfl,b8 rfl,b8 G,b8 G,qh];rfl;rw[cG u,cG u,oD _ _<|hG u]
def Yn(K:Nat->Nat×Nat)(N:List bl)(t:bl)(k:Nat×Nat):eV K N++[sp (ag (aA N) 0) t k]=eV (eu K (aA N) k) (N++[t]):=by
 apply uT;intro j;rw[EB,Ji,Ji,EB,xW];by_cases u:j<aA N;rw[b8 u,b8 u,oD _ _ aW];rw[cG u,cG u];by_cases S:j=aA N;subst S;rw[Cu,qh];rfl
 grind
abbrev FU(q:Nat):Prop:=1000000000<=q
structure nc(s d:Nat)(C:Nat->Prop)(h:H)(v:Nat)(N:List bl)(K:Nat->Nat×Nat):Prop where
 o:∃md,h.o s=⟨v,md,.cells aa ab 70 6<|eV K N⟩
 k:∀i (hi:i<aA N),N[i].be≠[]->b6 (h.o (K i).1) (N[i].be.map iC) (K i).2 3 1/\ C (K i).1 /\ (K i).1 <=d+1000000000*(h.o d).ver
 j:∀i j (hi:i<aA N) (hj:j<aA N),N[i].be≠[]->N[j].be≠[]->(K i).1 =(K j).1 ->i=j
def agL{h:H}{es:aB}{s v eT sz:Nat}(b:es≠[]->b6 (h.o s) es v eT sz)(n:Nat):∃S,cq h (n+1) (b9 es s v)=.ok (.fz es,S):=by
 cases es with
 |nil=>exact⟨[],aM⟩
 |cons e es=>
  have⟨U,B⟩:=(b aY).2 aY;have p:ai (0+aA (e::es)) (aA<|e::es)=aa:=avx;have M:ar (aA<|e::es) (au 0<|e::es)=e::es:=by rw[e6,bP]
  refine⟨[s],?_⟩;show cq h (n+1) (.bh s v 0<|aA<|e::es)=_;simp only[cq,kJ,B,jb,aO,vq,br,p,a8,M]
def agO{h:H}{z:Bool}{t:bl}{k:Nat×Nat}(o:z=aa->t.bN.bH=[])(b:t.be≠[]->b6 (h.o k.1) (t.be.map iC) k.2 3 1)(n:Nat):∃S,d_ (cq h<|n+1) (sp z t k)=.ok (c8 t,S):=by
 have⟨S,r⟩:=agL (h:=h) (es:=t.be.map iC) (s:=k.1) (v:=k.2) (λC=>b<|λe=>C<|by rw[e];rfl) n;refine⟨S,?_⟩;have X:∀v,cq h (n+1) (.aN v)=.ok (.aN v,[]):=λ_=>rfl;have x:cq h (n+1) (wh z t.bN.bH)=.ok (iL t.bN.bH,[]):=by
  cases z with
  |false=>rfl
  |true=>rw[o rfl];rfl
 simp only[sp,d_,r,X,x,aO,b7,ea]
def Tw{h:H}{K:Nat->Nat×Nat}{N:List bl}(n:Nat)(o:∀G:0<aA N,N[0].bN.bH=[])(b:∀i (G:i<aA N),N[i].be≠[]->b6 (h.o (K i).1) (N[i].be.map iC) (K i).2 3 1):∃S,tY (cq h<|n+1) (eV K N)=.ok (N.map c8,S):=by
 have:∀(N:List bl) (j:Nat),(∀i (G:i<aA N),i+j=0->N[i].bN.bH=[])->(∀i (G:i<aA N),N[i].be≠[]->b6 (h.o (K<|i+j).1) (N[i].be.map iC) (K<|i+j).2 3 1)->∃S,tY (cq h<|n+1) ((N.zipIdx j).map λp=>sp (ag p.2 0) p.1<|K p.2)=.ok (N.map c8,S):=by
  intro N
  induction N with
  |nil=>intro j _ _;exact⟨[],aM⟩
  |cons t N I=>
   intro j o u;have⟨S1,V⟩:=agO (h:=h) (z:=ag j 0) (t:=t) (k:=K j) (λe=>o 0 aY<|by rw[dB e]) (λC=>by have:=u 0 aY C;rwa[bZ]at this) n;have⟨S2,a⟩:=I (j+1) (λi G e=>aW) λi G C=>by
    have:=u (i+1) (by simp only[cr];omega) C
    grind
   refine⟨S1++S2,?_⟩;rw[List.zipIdx_cons,cL,tY,V];simp only[aO,a,cL]
 exact this N 0 (λi G e=>by have:i=0:=aW
                            subst this;exact o G) λi G C=>b i G C
def nc.DN{s d:Nat}{C:aE}{h h':H}{v u:Nat}{N x:List bl}{K K':Nat->Nat×Nat}(T:nc s d C h v N K)(o:∃md,h'.o s=⟨u,md,.cells aa ab 70 6<|eV K' x⟩)(t:(h.o d).ver<=(h'.o d).ver)(M:∀q,C q->h'.o q=h.o q)(f:∀i (G:i<aA x),x[i].be≠[]->∃P:i<aA N,N[i].be=x[i].be/\ K' i=K i):nc s d C h' u x K':=by
 refine⟨o,λi G l=>?_,λi j G p V a e=>?_⟩;have⟨P,g,O⟩:=f i G l;have⟨J,w,D⟩:=T.k i P (by rw[g];exact l)
 grind
 have⟨P,g,O⟩:=f i G V;have⟨c,A,Q⟩:=f j p a;rw[O,Q]at e;exact T.j i j P c (by rw[g];exact V) (by rw[A];exact a) e
def nc.UY{s d:Nat}{C:aE}{h h':H}{v:Nat}{N:List bl}{K:Nat->Nat×Nat}(T:nc s d C h v N K){i:Nat}(G:i<aA N){t':bl}{p pv:Nat}(o:∃md,h'.o s=⟨v,md,.cells aa ab 70 6<|eV (eu K i (p,pv))<|N.set i t'⟩)(Y:(h.o d).ver<=(h'.o d).ver)(J:b6 (h'.o p) (t'.be.map iC) pv 3 1)(F:C p)(r:p<=d+1000000000*(h'.o d).ver)
 (w:N[i].be≠[]->p=(K i).1)(x:N[i].be=[]->d+1000000000*(h.o d).ver<p)(M:∀q,C q->q≠p->h'.o q=h.o q):nc s d C h' v (N.set i t') (eu K i (p,pv)):=by
 have S:∀j (u:j<aA N),j≠i->N[j].be≠[]->(K j).1 ≠p:=λj u O V e=>by by_cases Z:N[i].be=[];have:=x Z;have:=(T.k j u V).2.2;omega;rw[w Z]at e;exact O<|T.j j i u G V Z e
 refine⟨o,λj u V=>?_,λj l u P A a e=>?_⟩;rw[lR]at u;by_cases O:j=i;subst O;rw[qh];exact at6;rw[oD _ _ O];simp only[O'<|hG O]at V|-;have⟨X,m,D⟩:=T.k j u V
 grind
 have c:j<aA N:=by rwa[lR]at u
 have t:l<aA N:=by rwa[lR]at P
 by_cases O:j=i;by_cases b:l=i;rw[O,b];subst O;rw[qh,oD _ _ b]at e
 grind
 by_cases b:l=i;subst b;rw[qh,oD _ _ O]at e
 grind
 rw[oD _ _ O,oD _ _ b]at e;simp only[O'<|hG O]at A;simp only[O'<|hG b]at a;exact T.j j l c t A a e
def kO(N:List bl)(c:Int):bo:=((N[c.toNat]?).map λt=>t.bN).getD ⟨0,[]⟩
def gQ(N:List bl)(a:Nat):List Int:=((N[a]?).map λt=>t.be).getD []
def g_(N:List bl)(s:bo):List Int->Int->Int
 |[],f=>f
 |c::l,f=>g_ N s l<|bif jz (kO N c) s then c else f
def SN(N:List bl)(s:bo):∀{l:aL} {i:Nat} (G:i<aA l) (f:Int),g_ N s (l.take<|i+1) f=bif jz (kO N l[i]) s then l[i]else g_ N s (l.take i) f
 |c::l,0,_,f=>by simp[g_]
 |c::l,i+1,G,f=>by
  have:=SN N s (l:=l) (i:=i) (ka G)<|bif jz (kO N c) s then c else f
  simp only[j7,g_,List.getElem_cons_succ];exact aw0
def SL(N:List bl)(s:bo):∀(l:aL) (f:Int),g_ N s l f=f\/ g_ N s l f∈l
 |[],f=>.inl aM
 |c::l,f=>by
  rw[g_]
  rcases SL N s l (bif jz (kO N c) s then c else f)with h|h
  grind
  exact at6
def rC(N:List bl)(a:Nat):List bl:=match N[a]? with
 |ad t=>N.set a {t with be:=t.be++[(aA N:Int)]}
 |ae=>N
def ek(N:List bl)(a:Nat)(s:bo):List bl:=rC N a++[⟨s,a,[],ab,-1⟩]
def fZ(q:List bl×Nat)(s:bo):List bl×Nat:=bif ax (g_ q.1 s (gQ q.1 q.2) (-1)<0)then(ek q.1 q.2 s,aA q.1)else(q.1,(g_ q.1 s (gQ q.1 q.2)<|-1).toNat)
def fA(N:List bl)(a:Nat)(i:Int):List bl:=match N[a]? with
 |ad t=>N.set a {t with dJ:=aa,cc:=i}
 |ae=>N
def td(N:List bl)(i:Int)(y:List bo):List bl:=fA (y.foldl fZ (N,0)).1 (y.foldl fZ (N,0)).2 i
def oQ:Int->List bl->List (List bo)->List bl
 |_,N,[]=>N
 |i,N,y::l=>oQ (i+1) (td N i y) l
def ov:bl:=⟨⟨0,[]⟩,0,[],ab,-1⟩
def IF(M:List<|List bo):List bl:=oQ 0 [ov] M
structure gA(N:List bl)(m:Nat):Prop where
 n:aA N<=m+1
 p:0<aA N
 r:∀t,N[0]?=ad t->t.bN.bH=[]
 k:∀t∈N,(∀c∈t.be,0<c/\ c.toNat<aA N)/\ aA t.be<=m/\ bk t.bN.bH
def CF(N:List bl)(a:Nat):aA (rC N a)=aA N:=by
 unfold rC
 grind
def rL(N:List bl)(a:Nat)(i:Int):aA (fA N a i)=aA N:=by
 unfold fA
 grind
def YV{N:List bl}{a:Nat}{u u' t:bl}(h:∀t,N[0]?=ad t->t.bN.bH=[])(b:N[a]?=ad u)(X:u'.bN=u.bN)(D:(N.set a u')[0]?=ad t):t.bN.bH=[]:=by grind
def gA.end{N:List bl}{m:Nat}(h:gA N m)(a:Nat)(i:Int):gA (fA N a i) m:=by
 refine⟨by rw[rL];exact h.n,by rw[rL];exact h.p,λt D=>?_,λt D=>?_⟩;unfold fA at D
 cases b:N[a]? with
 |none=>rw[b]at D;exact h.r t D
 |some u=>rw[b]at D;exact YV (u':={u with dJ:=aa,cc:=i}) h.r b aM D
 rw[rL];unfold fA at D
 cases b:N[a]? with
 |none=>rw[b]at D;exact h.k t D
 |some u=>
  rw[b]at D
  rcases wD D with D|D
  exact h.k t D;subst D;exact h.k u<|nO b
def gA.add{N:List bl}{m:Nat}(h:gA N m)(a:Nat)(s:bo)(B:bk s.bH):gA (ek N a s) (m+1):=by
 have l:aA (ek N a s)=aA N+1:=by unfold ek;rw[cN,CF];rfl
 refine⟨by rw[l];have:=h.n;omega,by rw[l];omega,λt D=>?_,λt D=>?_⟩;have M:=h.p;unfold ek at D;rw[Fu<|by rw[CF];exact M]at D;unfold rC at D
 cases b:N[a]? with
 |none=>rw[b]at D;exact h.r t D
 |some u=>rw[b]at D;exact YV (u':={u with be:=u.be++[(aA N:Int)]}) h.r b aM D
 rw[l];unfold ek at D
 rcases mF.1 D with D|D
 unfold rC at D
 cases b:N[a]? with
 |none=>rw[b]at D;have⟨V,j,d⟩:=h.k t D;exact⟨λc Q=>by have:=V c Q;omega,aW,d⟩
 |some u=>
  rw[b]at D
  rcases wD D with D|D
  have⟨V,j,d⟩:=h.k t D
  grind
  subst D;have⟨V,j,d⟩:=h.k u (nO b)
  grind
 exact at6
def gA.up{N:List bl}{m:Nat}(h:gA N m):gA N (m+1):=⟨by have:=h.n;omega,h.p,h.r,λt D=>⟨(h.k t D).1,by have:=(h.k t D).2.1;omega,(h.k t D).2.2⟩⟩
def DO{N:List bl}{a:Nat}(b:a<aA N):gQ N a=N[a].be:=by unfold gQ;rw[cx b];rfl
def NM{N:List bl}{a m:Nat}(h:gA N m)(b:a<aA N)(s:bo)(B:bk s.bH):gA (fZ (N,a) s).1 (m+1)/\ (fZ (N,a) s).2 <(fZ (N,a) s).1.length:=by
 unfold fZ;simp only;cases t:ax<|g_ N s (gQ N a) (-1)<0;rw[br];refine⟨h.up,?_⟩;rw[cE]at t
 rcases SL N s (gQ N a) (-1)with e|e
 rw[e]at t;omega;rw[DO b]at e t|-;exact((h.k _<|bD b).1 _ e).2;rw[a8];refine⟨h.add a s B,?_⟩;show aA N<aA (ek N a s);unfold ek;rw[cN,CF];exact awC
def eO(N:List bl)(a:Nat)(s:bo):Int:=g_ N s (gQ N a)<|-1
def fP(N:List bl):Nat->List bo->Option Nat
 |a,[]=>ad a
 |a,s::y=>bif ax (eO N a s<0)then ae else fP N (eO N a s).toNat y
structure PT(N:List bl):Prop where
 k:∀(a:Nat) (t:bl),N[a]?=ad t->∀c∈t.be,0<c/\ ∃u:bl,N[c.toNat]?=ad u/\ u.dT=(a:Int)
def SM(N:List bl)(s:bo):∀(l:aL) (f:Int),g_ N s l f=f\/ (g_ N s l f∈l/\ jz (kO N<|g_ N s l f) s=aa)
 |[],f=>.inl aM
 |c::l,f=>by
  rw[g_]
  rcases SM N s l (bif jz (kO N c) s then c else f)with h|⟨V,p⟩
  grind
  exact at6
def K5{N:List bl}(k:PT N){a:Nat}{s:bo}(h:¬eO N a s<0):0<eO N a s/\ ∃u,N[(eO N a s).toNat]?=ad u/\ u.bN=s/\ u.dT=(a:Int):=by
 unfold eO at h|-
 rcases SM N s (gQ N a) (-1)with V|⟨V,p⟩
 rw[V]at h;omega;have f:∃t,N[a]?=ad t/\ gQ N a=t.be:=by
  unfold gQ at V|-
  grind
 have⟨t,D,b⟩:=f;generalize g_ N s (gQ N a) (-1)=c at*;rw[b]at V;have⟨d,u,A,Z⟩:=k.k a t D c V;refine⟨d,u,A,?_,Z⟩;have p:=EG p;unfold kO at p;exact at6
def IX(N:List bl)(s:bo):∀(y:List bo) (a:Nat),fP N a (y++[s])=(fP N a y).bind λb=>bif ax (eO N b s<0)then ae else ad (eO N b s).toNat
 |[],a=>by show fP N a [s]=_;rw[fP];rfl
 |t::y,a=>by rw[ck,fP,fP];cases ax (eO N a t<0);rw[br,br];exact IX N s y _;rfl
def abd{N:List bl}(k:PT N):∀(n:Nat) (y y':List bo) (b:Nat),aA y=n->fP N 0 y=ad b->fP N 0 y'=ad b->y=y'
 |n,y,y',b,r,V,j=>by
  have z:∀(y:List bo) (s:bo) (b:Nat),fP N 0 (y++[s])=ad b->0<b/\ ∃u p,N[b]?=ad u/\ u.bN=s/\ u.dT=(p:Nat)/\ fP N 0 y=ad p:=λy s b h=>by
   rw[IX]at h
   cases P:fP N 0 y with
   |none=>rw[P]at h;cases h
   |some p=>
    rw[P]at h;have h:(bif ax (eO N p s<0)then ae else ad (eO N p s).toNat)=ad b:=h;cases t:ax<|eO N p s<0;rw[t]at h;rw[cE]at t;have⟨C,u,w,D,O⟩:=K5 k t
    grind
    rw[t]at h;cases h
  rcases OV y with rfl|⟨G,s,rfl⟩
  have e:b=0:=(Aa V).symm
  rcases OV y' with rfl|⟨m,F,rfl⟩
  rfl
  grind
  rw[List.concat_eq_append]at V r|-;have⟨C,u,p,w,D,O,B⟩:=z G s b V
  rcases OV y' with rfl|⟨m,F,rfl⟩
  have e:b=0:=(Aa j).symm;omega;rw[List.concat_eq_append]at j|-;have⟨Y,Q,S,d,M,v,Z⟩:=z m F b j;rw[w]at d;cases d;have g:p=S:=by rw[O]at v;omega
  subst g;rw[cN]at r;simp only[cr,f_]at r;rw[abd k (aA G) G m p rfl B Z,<-D,M]
 termination_by n=>n
def aor{N L:List bl}(h:∀b,b<aA N->(L[b]?).map (λt=>t.bN)=(N[b]?).map λt=>t.bN){c:Int}(Q:c.toNat<aA N):kO L c=kO N c:=by unfold kO;rw[h _ Q]
def GD{N L:List bl}(s:bo):∀(l:aL) (f:Int),(∀c∈l,kO L c=kO N c)->g_ L s l f=g_ N s l f
 |[],f,_=>rfl
 |c::l,f,h=>by rw[g_,g_,h c ei,GD s l _ λd t=>h d<|dR _ t]
def SK(N:List bl)(s:bo)(c:Int):∀(l:aL) (f:Int),g_ N s (l++[c]) f=bif jz (kO N c) s then c else g_ N s l f
 |[],f=>rfl
 |d::l,f=>by rw[ck,g_,SK N s c l,g_]
def abc{N L:List bl}(h:∀a s,eO L a s=eO N a s):∀(y:List bo) (a:Nat),fP L a y=fP N a y
 |[],_=>rfl
 |s::y,a=>by rw[fP,fP,h,abc h y]
def aiS{N:List bl}(V:PT N){a:Nat}{c:Int}(Q:c∈gQ N a):0<c/\ c.toNat<aA N:=by
 unfold gQ at Q
 cases G:N[a]? with
 |none=>rw[G]at Q;cases Q
 |some t=>rw[G]at Q;have⟨h,u,p,_⟩:=V.k a t G c Q;exact⟨h,(lQ.1 p).1⟩
section
variable{N:List bl}{a:Nat}{s:bo}
def Aj(J:a<aA N)(b:Nat):(ek N a s)[b]?=if b=a then ad {N[a]with be:=N[a].be++[(aA N:Int)]}else if b=aA N then ad ⟨s,a,[],ab,-1⟩else N[b]?:=by
 unfold ek rC
 grind
def abT(J:a<aA N)(b:Nat)(e:b<aA N):((ek N a s)[b]?).map (λt=>t.bN)=(N[b]?).map λt=>t.bN:=by
 rw[Aj J]
 grind
def PL(J:a<aA N)(b:Nat):gQ (ek N a s) b=if b=a then gQ N a++[(aA N:Int)]else gQ N b:=by
 unfold gQ;rw[Aj J]
 grind
def abU(b:a<aA N):kO (ek N a s) (aA N:Int)=s:=by unfold kO;rw[c6,Aj b,cG aW,b8 rfl];rfl
def Ak(V:PT N)(J:a<aA N)(b:Nat)(t:bo):eO (ek N a s) b t=bif ag b a&&jz s t then(aA N:Int)else eO N b t:=by
 have Q:∀c∈gQ N b,kO (ek N a s) c=kO N c:=λc Q=>aor (λd C=>abT J d C) (aiS V Q).2;unfold eO;rw[PL J];by_cases h:b=a;subst h;rw[b8 rfl,SK,abU J,GD t _ _ Q,gX,oI];have:ag b a=ab:=by cases e:ag b a;rfl;exact at6
 rw[cG h,this,mB,br,GD t _ _ Q]
def PJ(V:PT N)(J:a<aA N):PT (ek N a s):=by
 have P:∀(c:Nat) u,N[c]?=ad u->∃f,(ek N a s)[c]?=ad f/\ f.dT=u.dT:=λc u X=>by
  have Q:=(lQ.1 X).1;rw[Aj J]
  grind
 refine⟨λb t e c Q=>?_⟩;have B:gQ (ek N a s) b=t.be:=by unfold gQ;rw[e];rfl
 rw[<-B,PL J]at Q;by_cases h:b=a;subst h;rw[b8 rfl]at Q
 rcases mF.1 Q with Q|Q
 have:gQ N b=N[b].be:=DO J;rw[this]at Q;have⟨l,u,p,d⟩:=V.k b _ (cx J) c Q
 grind
 rw[ku]at Q;subst Q;refine⟨aW,⟨s,b,[],ab,-1⟩,?_,rfl⟩;rw[c6,Aj J,cG aW,b8 rfl];rw[cG h]at Q;unfold gQ at Q
 cases G:N[b]? with
 |none=>rw[G]at Q;cases Q
 |some w=>rw[G]at Q;have⟨l,u,p,d⟩:=V.k b w G c Q;have⟨f,A,Z⟩:=P _ u p;exact⟨l,f,A,by rw[Z,d]⟩
def JJ(V:PT N)(J:a<aA N)(hn:eO N a s<0):∀(y:List bo) (x:Nat),(∀b,fP N x y=ad b->fP (ek N a s) x y=ad b)/\ (fP N x y=ae->x<aA N->fP (ek N a s) x y=ae\/ fP (ek N a s) x y=ad (aA N))
 |[],x=>⟨λb h=>h,λh=>by cases h⟩
 |t::y,x=>by
  rw[fP,fP,Ak V J];cases q:ag x a&&jz s t;rw[br];cases C:ax<|eO N x t<0;rw[br,br];have⟨l,p⟩:=JJ V J hn y (eO N x t).toNat;rw[cE]at C;have⟨_,u,d,_⟩:=K5 V C
  grind
  exact at6;rw[bW]at q;have o:=dB q.1;subst o;have m:=EG q.2;subst m;rw[gu hn,a8];refine⟨λb h=>(by cases h),λ_ _=>?_⟩;have C:ax (((aA N:Nat):Int)<0)=ab:=aY;rw[a8,C,br,c6]
  cases y with
  |nil=>exact .inr aM
  |cons Y y=>
   left;rw[fP,Ak V J];have e:ag (aA N) x=ab:=by cases e:ag (aA N) x;rfl;have:=dB e;omega
   have j:eO N (aA N) Y=-1:=by unfold eO gQ;rw[mE<|bu _];rfl
   rw[e,mB,br,j];rfl
end
def gD(N:List bl)(b:Nat):Bool:=((N[b]?).map λt=>t.dJ).getD ab
def rM(N:List bl)(y:List bo):Bool:=match fP N 0 y with
 |ad b=>gD N b
 |ae=>ab
def yv(N:List bl)(a:Nat)(s:bo):aA (ek N a s)=aA N+1:=by unfold ek;rw[cN,CF];rfl
def PK{N:List bl}{a:Nat}{s:bo}(J:a<aA N)(b:Nat):gD (ek N a s) b=gD N b:=by
 unfold gD;rw[Aj J]
 grind
def abS{N:List bl}(V:PT N){a:Nat}{s:bo}(J:a<aA N)(hn:eO N a s<0)(y:List bo):rM (ek N a s) y=rM N y:=by
 have⟨l,p⟩:=JJ V J hn y 0;unfold rM
 cases P:fP N 0 y with
 |some b=>rw[l b P];exact PK J b
 |none=>
  rcases p P aW with h|h
  rw[h];rw[h];show gD (ek N a s) (aA N)=ab;rw[PK J];unfold gD;rw[mE<|bu _];rfl
def G5:∀(y p:List bo) (N:List bl) (a:Nat),PT N->a<aA N->fP N 0 p=ad a->
 PT (y.foldl fZ (N,a)).1 /\ (y.foldl fZ (N,a)).2 <(y.foldl fZ (N,a)).1.length/\ fP (y.foldl fZ (N,a)).1 0 (p++y)=ad (y.foldl fZ (N,a)).2 /\ ∀z,rM (y.foldl fZ (N,a)).1 z=rM N z
 |[],p,N,a,V,b,P=>⟨V,b,by rw[ea];exact P,λz=>rfl⟩
 |s::y,p,N,a,V,b,P=>by
  have m:fZ (N,a) s=bif ax (eO N a s<0)then(ek N a s,aA N)else(N,(eO N a s).toNat):=rfl
  rw[gn,m];have x:=IX N s p 0;rw[P]at x;cases t:ax<|eO N a s<0;rw[br];have Q:=t;rw[cE]at t;have⟨_,u,d,_⟩:=K5 V t
  have x:fP N 0 (p++[s])=bif ax (eO N a s<0)then ae else ad (eO N a s).toNat:=x
  rw[Q,br]at x;have:=G5 y (p++[s]) N (eO N a s).toNat V (lQ.1 d).1 x;exact at6;rw[a8];rw[c_]at t;have Z:=PJ (s:=s) V b;have l:=(JJ V b t p 0).1 a P;have h:=IX (ek N a s) s p 0;rw[l]at h
  have h:fP (ek N a s) 0 (p++[s])=bif ax (eO (ek N a s) a s<0)then ae else ad (eO (ek N a s) a s).toNat:=h
  rw[Ak V b,gX,Ig,iJ,a8,show ax (((aA N:Nat):Int)<0)=ab by simp,br,c6]at h;have⟨C,w,j,O⟩:=G5 y (p++[s]) (ek N a s) (aA N) Z (by rw[yv];omega) h;rw[eF]at j;exact⟨C,w,j,λz=>by rw[O z,abS V b t z]⟩
def De{N:List bl}{a:Nat}{i:Int}(J:a<aA N)(b:Nat):(fA N a i)[b]?=if b=a then ad {N[a]with dJ:=aa,cc:=i}else N[b]?:=by
 unfold fA
 grind
def Sb{N:List bl}{a:Nat}{i:Int}(J:a<aA N)(b:Nat)(t:bo):eO (fA N a i) b t=eO N b t:=by
 have f:gQ (fA N a i) b=gQ N b:=by
  unfold gQ;rw[De J]
  grind
 have B:∀c,kO (fA N a i) c=kO N c:=λc=>by
  unfold kO;rw[De J]
  grind
 unfold eO;rw[f,GD t _ _ λc _=>B c]
def ae7{N:List bl}(V:PT N){a:Nat}{i:Int}(J:a<aA N):PT (fA N a i):=by
 have P:∀(c:Nat) u,N[c]?=ad u->∃Q,(fA N a i)[c]?=ad Q/\ Q.dT=u.dT:=λc u X=>by
  rw[De J]
  grind
 refine⟨λb t e c S=>?_⟩;rw[De J]at e;have:∃w,N[b]?=ad w/\ w.be=t.be:=by grind
 have⟨w,r,f⟩:=this;rw[<-f]at S;have⟨h,u,p,d⟩:=V.k b w r c S
 grind
def ajb{N:List bl}(V:PT N)(h0:0<aA N)(i:Int)(y:List bo):PT (td N i y)/\ 0<aA (td N i y)/\ ∀z,rM (td N i y) z=aa↔(z=y\/ rM N z=aa):=by
 have⟨C,w,j,O⟩:=G5 y [] N 0 V h0 aM;unfold td;generalize y.foldl fZ (N,0)=q at*;have⟨x,a⟩:=q;have j:fP x 0 y=ad a:=j;refine⟨ae7 C w,by rw[rL];exact Pm (kQ _) w,λz=>?_⟩;have P:fP (fA x a i) 0 z=fP x 0 z:=abc (λb t=>Sb w b t) z 0;rw[<-O z];unfold rM;rw[show fP (fA (x,a).1 (x,a).2 i) 0 z=fP x 0 z from P]
 cases o:fP x 0 z with
 |none=>
  refine⟨λh=>(by cases h),λh=>?_⟩
  rcases h with h|h
  subst h;rw[j]at o;cases o;cases h
 |some b=>
  show gD (fA x a i) b=aa↔(z=y\/ gD x b=aa);unfold gD;rw[De w];by_cases M:b=a;subst M;rw[b8 rfl];exact⟨λ_=>.inl<|abd C (aA z) z y b aM o j,λ_=>rfl⟩
  grind
def Gv:∀{a b:List bo},qG a b=aa↔a=b
 |[],[]=>⟨λ_=>rfl,λ_=>rfl⟩
 |[],_::_=>⟨λh=>(by cases h),λh=>(by cases h)⟩
 |_::_,[]=>⟨λh=>(by cases h),λh=>(by cases h)⟩
 |x::a,y::b=>by
  show(jz x y&&dK jz a b)=aa↔_;rw[bW];refine⟨λh=>by rw[EG h.1,Gv.1 h.2],λh=>?_⟩
  injection h with V p
  subst V;exact⟨Ig _,Gv.2 p⟩
structure uW(M:List<|List bo)(i:Nat)(N:List bl):Prop where
 p:PT N
 n:0<aA N
 e:∀z,rM N z=aa↔z∈M.take i
def uW.zero(M:List<|List bo):uW M 0 [ov]:=by
 refine⟨⟨λa t h c Q=>?_⟩,aY,λz=>?_⟩;have:t=ov:=by grind
 subst this;cases Q;rw[i'];refine⟨λh=>?_,λh=>by cases h⟩;unfold rM at h
 cases P:fP [ov] 0 z with
 |none=>rw[P]at h;cases h
 |some b=>
  rw[P]at h;have h:gD [ov] b=aa:=h;unfold gD at h
  cases b with
  |zero=>cases h
  |succ b=>cases h
def uW.next{M:List (List bo)}{i:Nat}{N:List bl}(h:uW M i N)(G:i<aA M)(k:Int):uW M (i+1) (td N k M[i]):=by have⟨V,j,d⟩:=ajb h.p h.n k M[i];refine⟨V,j,λz=>?_⟩;rw[d z,h.e z,ej G,mF,ku];exact Or.comm
def uW.dup{M:List (List bo)}{i:Nat}{N:List bl}(h:uW M i N)(G:i<aA M):gD (M[i].foldl fZ (N,0)).1 (M[i].foldl fZ (N,0)).2 =sO M i:=by
 have⟨C,w,j,O⟩:=G5 M[i] [] N 0 h.p h.n aM;have B:=O M[i];have j:fP (M[i].foldl fZ (N,0)).1 0 M[i]=ad (M[i].foldl fZ (N,0)).2 :=j;have g:gD (M[i].foldl fZ (N,0)).1 (M[i].foldl fZ (N,0)).2 =rM N M[i]:=by rw[<-B];unfold rM;rw[j]
 rw[g,Cf,h.e];unfold sO;rw[cx G,mD];refine⟨λm=>⟨_,m,Gv.2 aM⟩,λ⟨x,U,f⟩=>?_⟩;have:=Gv.1 f;exact at6
def tW{κ:Type}[BEq κ](l:List<|κ×Int)(k:κ):Option Int:=match l with
 |[]=>ae
 |e::l=>bif k==e.1 then ad e.2 else tW l k
def tv{κ:Type}[BEq κ](l:List<|κ×Int)(k:κ)(b:Int):List (κ×Int):=match l with
 |[]=>[(k,b)]
 |e::l=>bif k==e.1 then(e.1,b)::l else e::tv l k b
def agA{κ:Type}[BEq κ][LawfulBEq κ](l:List<|κ×Int)(k A:κ)(b:Int):tW (tv l k b) A=bif A==k then ad b else tW l A:=by
 induction l with
 |nil=>rfl
 |cons e l I=>
  simp only[tv];cases h:k==e.1;simp only[br,tW]
  grind
  simp only[a8,tW]
  grind
abbrev qE{κ:Type}(kA:κ->AV)(e:κ×Int):AV×VV:=(kA e.1,iV e.2)
def Ly{κ:Type}[BEq κ]{D:a_}{t:Nat}{kA:κ->AV}(f:∀a b,bX D 10 t (kA a) (kA b)=.ok (a==b))(k:κ):∀l:List<|κ×Int,oa D t (kA k) (l.map<|qE kA)=.ok ((tW l k).map λb=>iV b)
 |[]=>rfl
 |e::l=>by
  simp only[cL,oa,f,aO,tW,Ly f k l]
  grind
def Zy{κ:Type}[BEq κ][LawfulBEq κ]{D:a_}{t:Nat}{kA:κ->AV}(f:∀a b,bX D 10 t (kA a) (kA b)=.ok (a==b))(X:∀k,cU (kA k) (kA k)=aa)(k:κ)(b:Int):∀l:List<|κ×Int,oz (iV b) D t (kA k) (l.map<|qE kA)=.ok ((tv l k b).map<|qE kA)
 |[]=>rfl
 |e::l=>by
  simp only[cL,oz,f,aO,tv,Zy f X k b l]
  grind
structure rr where
 a:Int
 v:List Int
 h:aA v=13
instance:BEq rr:=⟨λx y=>x.a==y.a&&x.v==y.v⟩
def aiE{x y:rr}(h1:x.a=y.a)(p:x.v=y.v):x=y:=by have⟨a,v,h⟩:=x;exact at6
instance:LawfulBEq rr where
 eq_of_beq {x y} h:=by have h:(x.a==y.a&&x.v==y.v)=aa:=h;rw[bW]at h;exact aiE (eq_of_beq h.1)<|eq_of_beq h.2
 rfl {x}:=by show(x.a==x.a&&x.v==x.v)=aa;rw[ve,ve];rfl
abbrev gE(n:Int):AV:=.aN<|.int .i8 n
def kB(k:rr):AV:=.agg<|iA k.a::k.v.map gE
def aqp:cP VP.D 327=.ok (.struct #[⟨ "atom",3,0,ab,"","partywall/nfa",0⟩,⟨ "guards",325,1,ab,"","partywall/nfa",8⟩]):=aV
def ZL:cP VP.D 325=.ok (.array 13 324):=aV
def apF:size VP.D 325=.ok 13:=aV
def apE:size VP.D 324=.ok 1:=aV
def afg:VP.D.ma 327=aa:=aV
def afi(n:Nat)(a b:Int):bX VP.D (n+1) 324 (gE a) (gE b)=.ok (a==b):=by unfold bX;rw[N_];rfl
def WX(l:aL){i:Nat}(G:i<aA l):Dt.part VP.D 324 (l.map gE) (i*1)=.ok (gE l[i]):=by
 unfold Dt.part;rw[N_];have:(l.map gE)[i*1]?=ad (gE l[i]):=by rw[yp,hY,cx G];rfl
 show(match(l.map gE)[i*1]? with|ad v=>_|ae=>_)=_;exact avO
def Sa(a b:aL):∀(m i:Nat),aA a=i+m->aA b=i+m->mM VP.D (bX VP.D 8) 324 1 (a.map gE) (b.map gE) m i=.ok (a.drop i==b.drop i)
 |0,i,J,e=>by rw[mZ aW,mZ aW];rfl
 |m+1,i,J,e=>by
  unfold mM;rw[WX a aW,WX b aW];show(aO (bX VP.D 8 324 (gE _)<|gE _) λr=>if r=aa then mM VP.D (bX VP.D 8) 324 1 (a.map gE) (b.map gE) m (i+1)else .ok ab)=_;rw[afi,fD aW,fD (l:=b) aW];show(if(a[i]'aW==b[i]'aW)=aa then mM VP.D (bX VP.D 8) 324 1 (a.map gE) (b.map gE) m (i+1)else .ok ab)=_;rw[Sa a b m (i+1) aW aW,List.cons_beq_cons]
  grind
def afj(a b:aL)(J:aA a=13)(e:aA b=13):bX VP.D 9 325 (.agg<|a.map gE) (.agg<|b.map gE)=.ok (a==b):=by have h:=Sa a b 13 0 aW aW;unfold bX;rw[ZL];show(aO (size VP.D 324) λn=>mM VP.D (bX VP.D 8) 324 n (a.map gE) (b.map gE) 13 0)=_;rw[apE];exact h
def alU(x:AV)(l:aD):Dt.part VP.D 3 (x::l) 0=.ok x:=by unfold Dt.part;rw[sq];rfl
def Xi(x:AV)(l:aD)(h:aA l=13):Dt.part VP.D 325 (x::l) 1=.ok (.agg l):=by
 unfold Dt.part;rw[ZL];show(aO (size VP.D 325) λn=>.ok<|AV.agg<|((x::l).drop 1).take n)=_;rw[apF];show(Except.ok (AV.agg<|l.take 13):R AV)=_
 grind
def Dh(x y:rr):bX VP.D 10 327 (kB x) (kB y)=.ok (x==y):=by
 have s:aA (x.v.map gE)=13:=by rw[bj,x.h]
 have Q:aA (y.v.map gE)=13:=by rw[bj,y.h]
 show bX VP.D 10 327 (.agg<|iA x.a::x.v.map gE) (.agg<|iA y.a::y.v.map gE)=.ok (x.a==y.a&&x.v==y.v);unfold bX;rw[aqp];show(if VP.D.ma 327=aa then eqFields VP.D (bX VP.D 9) (iA x.a::x.v.map gE) (iA y.a::y.v.map gE) [⟨ "atom",3,0,ab,"","partywall/nfa",0⟩,⟨ "guards",325,1,ab,"","partywall/nfa",8⟩]else .error "")=_;rw[b8 afg];unfold eqFields;rw[cG aT];simp only[alU,ca,aO,Gw];cases x.a==y.a;rfl;show eqFields VP.D (bX VP.D 9) (iA x.a::x.v.map gE) (iA y.a::y.v.map gE) [⟨ "guards",325,1,ab,"","partywall/nfa",8⟩]=_;unfold eqFields;rw[cG aT];simp only[Xi _ _ s,Xi _ _ Q,ca,aO,afj _ _ x.h y.h];cases x.v==y.v<;>rfl
def bqB(k:rr):cU (kB k) (kB k)=aa:=by unfold kB;have:∀l:aL,kf (l.map gE) (l.map gE)=aa:=λl=>awD;simp[cU,kf,kx,this]
def gA.le{N:List bl}{m m':Nat}(h:gA N m)(Y:m<=m'):gA N m':=⟨by have:=h.n;omega,h.p,h.r,λt D=>⟨(h.k t D).1,by have:=(h.k t D).2.1;omega,(h.k t D).2.2⟩⟩
def Pz(W D:Nat):jl (([]:aL).map iC) W D=D:=rfl
def Py(c:Int)(l:aL)(W D:Nat):jl ((c::l).map iC) W D=W:=rfl
def s2(d:Nat):dk 2 (ad d)=2000+d:=rfl
def Qv:VP.h5 154=2:=rfl
def IL{P:VT}{c:Vm.VC}{Q:Nat}{d:Option Tmp}{g:Bool}{ty:Nat}{p:String}{a:Array Edge}{T:Vg}{h:H}(t:Nat)(x:Operand)(s:P.km (dk Q d)=aa)(C:P.xa (dk Q d)=ab):ec P c Q g ⟨d,.buildSlice t 1 #[(0,x)],ty,p,a,ae⟩ T h=lq T h d g (aO (gm P.D t) λes=>aO (jO P.D es.1) λ_=>aO (jn<|bS T x) λcs=>bif ag (aA cs) es.2&&ai es.2 16777216 then .ok (.bh (dk Q d) ((h.o<|dk Q d).ver+1) 0 1,h.new (dk Q d)<|.cells aa ab es.1 es.2 [cs])else .error ""):=by have e:ec P c Q g ⟨d,.buildSlice t 1 #[(0,x)],ty,p,a,ae⟩ T h=lq T h d g (te P h (bS T) (.buildSlice t 1 #[(0,x)])<|dk Q d):=bL aM;exact awN
def QL(a:Int)(es:aB)(p:Int):ga VP.D 70 [(0,.agg [iV a,.fz es]),(1,iV p),(4,iV<|-1)]=.ok (.agg [iV a,.fz es,iV p,.nil,bV ab,iV<|-1]):=aV
def QM:ga VP.D 70 [(4,iV<|-1)]=.ok (.agg [iV 0,.nil,iV 0,.nil,bV ab,iV<|-1]):=aV
def QF(s v o n:Nat):ga VP.D 38 [(0,.bh s v o n)]=.ok (.agg [.bh s v o n]):=aV
def wP:ga VP.D 38 []=.ok (.agg [.nil]):=aV
def jA(M:List<|List bo):List bl:=bif gj M==0 then IF M else[]
def Eh{M:List (List bo)}(h:gj M=0):aA M<=64/\ ∀y∈M,aA y<=12/\ lu y=0:=by
 unfold gj at h;cases c:ax ((aA M:Int)<1)||ax (64<(aA M:Int))||M.any oj;rw[c]at h;simp only[gz,cE,py]at c;have⟨V,_⟩:=oC h;refine⟨aW,λy Q=>⟨?_,?_⟩⟩;have:=c.2 y Q;unfold oj at this
 grind
 clear c h;have:∀M:List<|List bo,ly M=0->∀y∈M,lu y=0:=by
  intro M
  induction M with
  |nil=>intro _ y Q;cases Q
  |cons z M I=>
   intro h y Q;rw[ly]at h;cases o:lu z==0;exact at6
   grind
 grind
 rw[c]at h;cases h
def aau(M:List<|List bo)(G2:bk M)(C2:∀y∈M,bk y/\ ∀s∈y,bk s.bH):aS VP 154 [.fz<|M.map lC] (.bn [.agg [.fz<|(jA M).map c8],iV<|gj M]):=by
 have g:=arN M G2 C2;unfold jA;cases V0:gj M==0;have H2:(gj M !=0)=aa:=by simp[bne,V0]
 generalize gj M=E at*;show aS VP 154 _<|.bn [.agg [.fz []],iV E];refine mQ Tc Zz λw y=>?_;exact S7 Tryz.f154.eq_1 @Qv @s2 g.aP H2 @cC @wP tr;have V0:gj M=0:=by simpa using V0
 have⟨D2,I1⟩:=Eh V0;rw[V0]at g|-;show aS VP 154 _<|.bn [.agg [.fz<|(IF M).map c8],iV 0];refine mQ Tc Zz λw y=>?_;refine S9 Tryz.f154.eq_1 @Qv @s2 g.aP @cC @dW @QM @IL @QF ?_;have I0:gA [ov] 0:=⟨aY,aY,λt P0=>by cases P0;rfl,λt P0=>by rw[ku]at P0;subst P0;exact⟨λc J1=>(by cases J1),bu _,auz⟩⟩;refine lF 0 (aA M) (λi T h=>T 0=.fz (M.map lC)/\ T 2=.aR 2002 1 0 0/\ T 5=.aR 2005 1 0 0/\ T 6=iV i/\ h.y=y/\ (∃m c,h.o 2002=⟨1,m,.cells aa ab 38 1 [[c]]⟩)/\ ∃N K v,(∃m,h.o 2005=⟨1,m,.cells aa ab 38 1 [[.bh 2019 v 0<|aA N]]⟩)/\ nc 2019 2105 FU h v N K/\ gA N (12*i)/\ IF M=oQ i N (M.drop i)) ?_ ?_ ?_;refine S1 @s2 ?_;refine⟨aM,⟨0,_,aM⟩,[ov],λ_=>(0,0),1,⟨1,aM⟩,⟨⟨0,aM⟩,λi d0 C=>?_,λi j d0 W0 h1=>?_⟩,I0,aM⟩;have:i=0:=by simp only[sA]at d0;omega
 subst this;exact absurd aM C;have:i=0:=by simp only[sA]at d0;omega
 subst this;exact absurd aM h1;rintro i T h d0 ⟨O,W,B,n,o0,⟨m2,c2,o2⟩,N,K,v,⟨m5,o5⟩,r,F1,Q0⟩;have I2:i<9223372036854775807:=aW;have p0:∀h:H,cF h (ae,1) (.fz<|M.map lC) (i:Int)=.ok (.bA (lC M[i]) 0):=λh=>db (s:=1) lC M i d0;have⟨E2,_⟩:=I1 _<|bD d0;have⟨J2,K1⟩:=C2 _<|bD d0;rw[fD d0,oQ]at Q0;generalize L1:M[i]=z at*;refine S6 O W B n @s2 (a6 d0) ?_;refine Ej (G:=λx=>dL (cJ 1<|dL (cJ 2 x) _) _) (Q':=λo=>∃T h',o=.exit 2 T h'/\ T 0=.fz (M.map lC)/\ T 2=.aR 2002 1 0 0/\ T 5=.aR 2005 1 0 0/\ T 6=iV i/\ h'.y=y/\ (∃m c,h'.o 2002=⟨1,m,.cells aa ab 38 1 [[c]]⟩)/\ ∃Y J U a,T 7=iV (a:Nat)/\ (∃m,h'.o 2005=⟨1,m,.cells aa ab 38 1 [[.bh 2019 U 0<|aA Y]]⟩)/\ nc 2019 2105 FU h' U Y J/\ gA Y (12*i+aA z)/\ a<aA Y/\ (Y,a)=z.foldl fZ (N,0)) ?_ ?_
 as_aux_lemma=>
  refine ot (G:=λx=>x) (aA z) (λj T h'=>T 0=.fz (M.map lC)/\ T 2=.aR 2002 1 0 0/\ T 5=.aR 2005 1 0 0/\ T 6=iV i/\ T 8=iV j/\ h'.y=y/\ (∃m c,h'.o 2002=⟨1,m,.cells aa ab 38 1 [[c]]⟩)/\ ∃Y J U a,T 7=iV (a:Nat)/\ (∃m,h'.o 2005=⟨1,m,.cells aa ab 38 1 [[.bh 2019 U 0<|aA Y]]⟩)/\ nc 2019 2105 FU h' U Y J/\ gA Y (12*i+j)/\ a<aA Y/\ (Y,a)=(z.take j).foldl fZ (N,0)) ?_ ?_ ?_;refine S4 O W B n ?_;exact⟨aM,o0,⟨m2,c2,o2⟩,N,K,v,0,aM,⟨m5,o5⟩,r,F1,F1.p,aM⟩;clear o2 o5 o0 r;rintro j T h' W0 ⟨O,W,B,n,V,o0,⟨m2,c2,o2⟩,Y,J,U,a,L,⟨m5,o5⟩,r,d,Q,e0⟩;have K2:j<9223372036854775807:=aW;have L2:(z.take<|j+1).foldl fZ (N,0)=fZ (Y,a) z[j]:=by rw[ej W0,jQ,<-e0];rfl
  have X0:=K1 _<|bD W0;have J0:∀h:H,cF h (ae,2) (.fz<|z.map bm) (j:Int)=.ok (.bA (bm z[j]) 0):=λh=>db (s:=2) bm z j W0;rw[L2];generalize z[j]=s at*;have⟨r0,P⟩:=NM d Q s X0;have⟨Y0,s0⟩:=r.o;have b:=xV J Q;have M1:=DO Q;refine S9 O W B n L V @s2 (a6 W0) p0 ?_;refine Ej (G:=λx=>dL (cJ 3<|dL (cJ 4 x) _) _) (Q':=λo=>∃T X,o=.exit 4 T X/\ T 0=.fz (M.map lC)/\ T 2=.aR 2002 1 0 0/\ T 5=.aR 2005 1 0 0/\ T 6=iV i/\ T 7=iV a/\ T 8=iV j/\ T 9=iV (g_ Y s Y[a].be<|-1)/\ X=h') ?_ ?_
  as_aux_lemma=>
   have a1:=d.k _<|bD Q
   have a0:Y[a].be=[]\/ Y[a].be≠[]:=by cases Y[a].be with
    |nil=>exact .inl aM
    |cons _ _=>exact .inr<|OS _ _
   have M2:=d.n;have O1:Y[a].be.length<1048576:=by have:=a1.2.1;omega
   have K0:∀c∈Y[a].be,∃t,(eV J Y)[c.toNat]?=ad (sp ab t<|J c.toNat)/\ kO Y c=t.bN/\ bk t.bN.bH/\ 0<c/\ c.toNat<aA Y:=λc J1=>by
    have⟨f0,g0⟩:=a1.1 c J1;have b1:=xV J g0;have h0:ag c.toNat 0=ab:=by cases P1:ag c.toNat 0;rfl;have:=dB P1;omega
    rw[h0]at b1;exact⟨_,b1,by unfold kO;rw[cx g0];rfl,(d.k _<|bD g0).2.2,f0,g0⟩
   have Q1:Y[a].be≠[]->∃F2,h'.o (J a).1 =⟨(J a).2,F2,.cells ab ab 3 1<|Y[a].be.map iC⟩:=λC=>(r.k a Q C).1.2 (by simpa using C);have c1:Y[a].be≠[]->1000000000<=(J a).1 :=λC=>(r.k a Q C).2.1;generalize Y[a]=t at*
   rcases a0 with a0|a0
   have b:(eV J Y)[a]?=ad [iV t.bN.da,wh (ag a 0) t.bN.bH,iV t.dT,.nil,bV t.dJ,iV t.cc]:=by rw[b];unfold sp;rw[a0];rfl
   rw[a0];refine ot (G:=λx=>x) 0 (λk T X=>T 0=.fz (M.map lC)/\ T 2=.aR 2002 1 0 0/\ T 5=.aR 2005 1 0 0/\ T 6=iV i/\ T 7=iV a/\ T 8=iV j/\ T 9=iV (-1)/\ T 10=iV k/\ X=h') ?_ ?_ ?_;refine S6 O W B n L V ?_;rfl;intro k T X m0;exact absurd m0<|gH _;rintro T X ⟨O,W,B,n,L,V,t9,i0,rfl⟩;have KC:ax (((0:Nat):Int)<0)=ab:=rfl;refine bq O W B n L V t9 i0 @s2 o5 s0 (an @fg<|an @fk<|an (eB Q)<|an @c6<|an @bZ<|an b @KC) ?_;refine⟨_,_,aM,?_⟩;refine S7 O W B n L V t9 ?_;rfl;have⟨F2,ok⟩:=Q1 a0;have N2:=c1 a0;have d1:b9 (t.be.map iC) (J a).1 (J a).2 =.bh (J a).1 (J a).2 0 (aA t.be):=by
    cases u0:t.be with
    |nil=>exact absurd u0 a0
    |cons c l=>show VV.bh _ _ 0 (aA<|(c::l).map iC)=_;rw[bj]
   have b:(eV J Y)[a]?=ad [iV t.bN.da,wh (ag a 0) t.bN.bH,iV t.dT,.bh (J a).1 (J a).2 0 (aA t.be),bV t.dJ,iV t.cc]:=by rw[b];unfold sp;rw[d1]
   generalize(J a).1 =p at*;generalize(J a).2 =pv at*;generalize t.be=f1 at*;refine ot (G:=λx=>x) (aA f1) (λk T X=>T 0=.fz (M.map lC)/\ T 2=.aR 2002 1 0 0/\ T 5=.aR 2005 1 0 0/\ T 6=iV i/\ T 7=iV a/\ T 8=iV j/\ T 9=iV (g_ Y s (f1.take k)<|-1)/\ T 10=iV k/\ X=h') ?_ ?_ ?_;refine S6 O W B n L V ?_;exact at1;rintro k T X m0 ⟨O,W,B,n,L,V,t9,i0,rfl⟩;have O2:k<9223372036854775807:=aW;have⟨D0,f0,g0,R1,P2,g1⟩:=K0 _<|bD m0;rw[SN Y s m0,g0];have i1:(f1.map iC)[k]?=ad [iV f1[k]]:=uu (f:=iC)<|cx m0;have v0:=On D0.bN s R1;generalize f1[k]=c at*;have j1:ax (0<=c)=aa:=auR;have f0:(eV J Y)[c.toNat]?=ad [iV D0.bN.da,iL D0.bN.bH,iV D0.dT,b9 (D0.be.map iC) (J c.toNat).1 (J c.toNat).2,bV D0.dJ,iV D0.cc]:=f0;generalize b9 (D0.be.map iC) (J c.toNat).1 (J c.toNat).2 =f3 at*;cases C0:jz D0.bN s<;>rw[C0]at v0;exact aui;exact aui;rintro T X ⟨O,W,B,n,L,V,t9,i0,rfl⟩;rw[bP]at t9;refine bq O W B n L V t9 i0 @s2 o5 s0 (an @fg<|an @fk<|an (eB Q)<|an @c6<|an @bZ<|an b<|an ok @jc) ?_;refine⟨_,_,aM,?_⟩;exact S7 O W B n L V t9 tr
  rintro o ⟨T,X,rfl,O,W,B,n,L,V,t9,rfl⟩;rw[<-M1]at t9
  have l1:fZ (Y,a) s=bif ax (g_ Y s (gQ Y a) (-1)<0)then(ek Y a s,aA Y)else(Y,(g_ Y s (gQ Y a)<|-1).toNat):=rfl
  rw[l1]at r0 P|-;generalize g_ Y s (gQ Y a) (-1)=f at*;cases m1:ax<|f<0;obtain⟨G1,T1⟩:∃G1:Nat,(G1:Int)=f:=⟨f.toNat,by rw[cE]at m1;omega⟩;rw[m1]at r0 P;subst T1;refine fm O W B n L V t9 @s2 m1 @bd ?_;have P:((G1:Int)).toNat<aA Y:=P;rw[c6]at P;exact⟨o0,⟨m2,c2,o2⟩,Y,J,U,G1,aM,⟨m5,o5⟩,r,r0,P,by rw[c6]⟩;rw[m1]at r0 P;have w0:=aaF s X0;have U1:ag (aA Y) (aA<|eV J Y)=aa:=by rw[xW];exact gX _
  have n1:ah (aA Y+1) (2^30)=aa:=qx (by have:=d.n;omega);have⟨Z,I⟩:=s;have w0:aS VP 217 [.agg [iV Z,iL I]] (.agg [iV Z,.fz<|I.map iC]):=w0;have V1:ag (aA Y) 0=ab:=by cases P1:ag (aA Y) 0;rfl;have:=dB P1;omega
  have b0:=Yn J Y ⟨⟨Z,I⟩,a,[],ab,-1⟩ (0,0);rw[V1]at b0;have b0:eV J Y++[[iV Z,.fz<|I.map iC,iV a,.nil,bV ab,iV<|-1]]=eV (eu J (aA Y) (0,0)) (Y++[⟨⟨Z,I⟩,a,[],ab,-1⟩]):=b0;have x0:a<aA (Y++[(⟨⟨Z,I⟩,a,[],ab,-1⟩:bl)]):=by rw[cN];omega
  have F:=xV (eu J (aA Y) (0,0)) x0;rw[Jl Q,oD _ _ aW]at F;have L0:=BT (eu J (aA Y) (0,0)) x0;have y0:(Y++[(⟨⟨Z,I⟩,a,[],ab,-1⟩:bl)]).set a {Y[a]with be:=Y[a].be++[(aA Y:Int)]}=ek Y a ⟨Z,I⟩:=by unfold ek rC;rw[cx Q,List.set_append_left _ _ Q]
  have W1:aA (ek Y a ⟨Z,I⟩)=aA Y+1:=by unfold ek;rw[cN,CF];rfl
  have z0:∀h':H,(∃Y0,h'.o 2019=⟨U+1,Y0,.cells aa ab 70 6<|eV (eu J (aA Y) (0,0))<|Y++[(⟨⟨Z,I⟩,a,[],ab,-1⟩:bl)]⟩)->(X.o 2105).ver<=(h'.o 2105).ver->(∀q,1000000000<=q->h'.o q=X.o q)->nc 2019 2105 FU h' (U+1) (Y++[(⟨⟨Z,I⟩,a,[],ab,-1⟩:bl)]) (eu J (aA Y) (0,0)):=λh' q1 q2 q3=>r.DN q1 q2 q3 λq C0 C=>by
   by_cases o1:q<aA Y;exact⟨o1,by rw[Jl o1],oD _ _ aW⟩;have:q=aA Y:=by rw[cN]at C0;simp only[cr,f_]at C0;omega
   subst this;rw[List.getElem_append_right<|bu _]at C;simp at C
  obtain⟨u,R0,X1,p1,E0,r1⟩:∃u R0,b9 (Y[a].be.map iC) (J a).1 (J a).2 =b9 (Y[a].be.map iC) u R0/\ b6 (X.o u) (Y[a].be.map iC) R0 3 1/\ (Y[a].be≠[]->u=(J a).1)/\ (Y[a].be=[]/\ u=0\/ 1000000000<=u):=by by_cases C:Y[a].be=[];rw[C];exact⟨0,(X.o 0).ver,aM,⟨aM,λh=>absurd aM h⟩,λh=>absurd aM h,.inl ⟨aM,aM⟩⟩;have⟨k1,k2,_⟩:=r.k a Q C;exact⟨_,_,aM,k1,λ_=>rfl,.inr k2⟩
  have t1:Y[a].be≠[]->u<=2105+1000000000*(X.o 2105).ver:=λC=>by rw[E0 C];exact(r.k a Q C).2.2
  have Q2:Y[a].be.length<1048576:=by have h1:=(d.k _<|bD Q).2.1;omega
  have F:(eV (eu J (aA Y) (0,0))<|Y++[(⟨⟨Z,I⟩,a,[],ab,-1⟩:bl)])[a]?=ad [iV Y[a].bN.da,wh (ag a 0) Y[a].bN.bH,iV Y[a].dT,b9 (Y[a].be.map iC) u R0,bV Y[a].dJ,iV Y[a].cc]:=by rw[F,<-X1]
  have Y1:yL aa aa=aa:=rfl;refine bq O W B n L V t9 @s2 m1 @bd o5 (an s0<|an @jc<|an p0<|an L1<|an J0<|an w0.bE<|an @cm<|an @dW<|an @cC<|an @QL<|an @IL<|an U1<|an n1<|an @bZ<|an Y1<|an b0<|an @fg<|an @fk<|an (eB<|uX Q)<|an @c6<|an F @IK) ?_;obtain⟨H1,j0⟩:∃H1:H,H1=(((X.new 2091<|.cells aa ab 70 6 [[iV Z,.fz<|I.map iC,iV a,.nil,bV ab,iV<|-1]]).new 2019<|.cells aa ab 70 6<|eV (eu J (aA Y) (0,0))<|Y++[(⟨⟨Z,I⟩,a,[],ab,-1⟩:bl)]).mod 2005<|.cells aa ab 38 1 [[.bh 2019 (U+1) 0<|aA Y+1]]):=⟨_,Eq.refl _⟩;rw[<-j0];have M0:H1.o 2019=⟨U+1,0,.cells aa ab 70 6<|eV (eu J (aA Y) (0,0))<|Y++[(⟨⟨Z,I⟩,a,[],ab,-1⟩:bl)]⟩:=by rw[j0];refine N0 ?_;rw[s0]
  have a2:H1.o 2005=⟨1,m5+1,.cells aa ab 38 1 [[.bh 2019 (U+1) 0<|aA Y+1]]⟩:=by rw[j0];refine N0 ?_;rw[o5]
  have T0:∀q,q≠2091->q≠2019->q≠2005->H1.o q=X.o q:=λq h1 X h3=>by rw[j0];exact auy
  have R2:H1.y=X.y:=by rw[j0];rfl
  have b2:=z0 H1 ⟨0,M0⟩ (by rw[T0 _ aW aW aW];exact auS)<|λq C0=>T0 q aW aW aW;clear j0 z0 b0;generalize d2:Y++[(⟨⟨Z,I⟩,a,[],ab,-1⟩:bl)]=f2 at*;generalize g2:eu J (aA Y) (0,0)=U0 at*;have u1:(H1.o 2105).ver=(X.o 2105).ver:=by rw[T0 _ aW aW aW]
  obtain⟨D,v1⟩:∃D,D=nq 2105 (H1.new 2104<|.cells ab ab 3 1 [[iV (aA Y:Int)]]):=⟨_,Eq.refl _⟩;have g3:D=2105+1000000000*((X.o 2105).ver+1):=by have i2:(H1.new 2104<|.cells ab ab 3 1 [[iV (aA Y:Int)]]).o 2105=H1.o 2105:=auy;rw[v1];unfold nq;rw[i2,u1]
  have O0:H1.o 2104=X.o 2104:=T0 _ aW aW aW;have w1:b6 ((H1.new 2104<|.cells ab ab 3 1 [[iV (aA Y:Int)]]).o u) (Y[a].be.map iC) R0 3 1:=by have i2:(H1.new 2104<|.cells ab ab 3 1 [[iV (aA Y:Int)]]).o u=H1.o u:=auy;rw[i2,T0 _ aW aW aW];exact p1
  have x1:aA (Y[a].be.map iC)<536870912:=auC;rw[<-v1,wK (ver:=R0) (eT:=3) (sz:=1) (c:=[iV (aA Y:Int)]) (s:=u) w1 x1 (by exact S1 O0 tr) Am rfl];obtain⟨A,A0⟩:∃A,A=jl (Y[a].be.map iC) u D:=⟨_,Eq.refl _⟩;rw[<-A0];have P0:1000000000<=A/\ A<=D/\ (Y[a].be≠[]->A=(J a).1)/\ (Y[a].be=[]->A=D):=by
   by_cases C:Y[a].be=[];have e:jl (Y[a].be.map iC) u D=D:=by rw[C];exact Pz u D
   rw[e]at A0;exact⟨aW,aW,λh=>absurd C h,λ_=>A0⟩;have e:jl (Y[a].be.map iC) u D=u:=by
    cases u0:Y[a].be with
    |nil=>exact absurd u0 C
    |cons c l=>exact Py _ _ u D
   rw[e]at A0;have h3:=t1 C
   have h1:1000000000<=u:=by rcases r1 with⟨h,_⟩|h
                             exact absurd h C;exact h
   exact⟨aW,aW,λh=>by rw[A0];exact E0 h,λh=>absurd h C⟩
  have⟨j2,T2,l2,p2⟩:=P0;have r2:A≠2104/\ A≠2105/\ A≠2019/\ A≠2005/\ A≠2002:=aW;have⟨U2,V2,W2,X2,Y2⟩:=r2;generalize u2:((H1.new 2104<|.cells ab ab 3 1 [[iV (aA Y:Int)]]).o A).ver+1=F0;have y1:(Y[a].be++[(aA Y:Int)]).map iC=Y[a].be.map iC++[[iV (aA Y:Int)]]:=dg;have c0:=L0 {Y[a]with be:=Y[a].be++[(aA Y:Int)]} (A,F0);rw[y0]at c0;have c0:(eV U0 f2).set a [iV Y[a].bN.da,wh (ag a 0) Y[a].bN.bH,iV Y[a].dT,b9 (Y[a].be.map iC++[[iV (aA Y:Int)]]) A F0,bV Y[a].dJ,iV Y[a].cc]=eV (eu U0 a (A,F0)) (ek Y a ⟨Z,I⟩):=by rw[<-y1];exact c0
  have z1:a<aA Y+1:=aW;refine bq O W B n L V t9 @s2 @bd M0 a2 (an @sT<|an @hN<|an @Aw<|an @fg<|an @fk<|an (eB z1)<|an @c6<|an @bZ<|an F c0) ?_;have G0:(f2[a]'x0).be=Y[a].be:=by
   have:f2[a]?=ad Y[a]:=by rw[<-d2,Fu Q,cx Q]
   rw[cx x0]at this;rw[Aa this]
  have A1:U0 a=J a:=by rw[<-g2];exact oD _ _ aW
  obtain⟨H4,k0⟩:∃H4:H,H4=(l6 2105<|(H1.new 2104<|.cells ab ab 3 1 [[iV (aA Y:Int)]]).new A<|.cells ab ab 3 1<|Y[a].be.map iC++[[iV (aA Y:Int)]]).mod 2019 (.cells aa ab 70 6<|eV (eu U0 a (A,F0))<|ek Y a ⟨Z,I⟩):=⟨_,Eq.refl _⟩;rw[<-k0];have v2:H4.o 2019=⟨U+1,0+1,.cells aa ab 70 6<|eV (eu U0 a (A,F0))<|ek Y a ⟨Z,I⟩⟩:=by rw[k0];simp(disch:=first|assumption|omega)only[qL,gv,sT,hN,jt,dE,M0]
  have a3:(H4.o 2105).ver=(X.o 2105).ver+1:=by rw[k0];simp(disch:=first|assumption|omega)only[qL,gv,sT,hN,jt,dE,u1]
  have w2:H4.o A=⟨F0,0,.cells ab ab 3 1<|Y[a].be.map iC++[[iV (aA Y:Int)]]⟩:=by rw[k0];simp(disch:=first|assumption|omega)only[gv,hN];rw[jt,u2]
  have zq:∀q,1000000000<=q->q≠A->H4.o q=H1.o q:=λq h1 X=>by have e1:q≠2019:=aW;have e2:q≠2105:=aW;have e3:q≠2104:=aW;rw[k0];simp(disch:=first|assumption|omega)only[gv,hN,dE]
  clear k0;have m0:=b2.UY x0 (t':={Y[a]with be:=Y[a].be++[(aA Y:Int)]}) (p:=A) (pv:=F0) (h':=H4) ⟨_,by rw[y0];exact v2⟩ aW (by rw[y1,w2];exact auh) j2 aW (λC=>by rw[A1];exact l2<|by rw[<-G0];exact C) (λC=>by have:=p2 (by rw[<-G0];exact C);omega) zq;rw[y0]at m0;exact⟨by rw[R2];exact o0,⟨m2,c2,by rw[T0 _ aW aW aW];exact o2⟩,ek Y a ⟨Z,I⟩,eu U0 a (A,F0),U+1,aA Y,aM,⟨m5+1,by rw[W1]⟩,m0,r0,P,aM⟩;rintro T h' ⟨O,W,B,n,V,o0,⟨m2,c2,o2⟩,Y,J,U,a,L,⟨m5,o5⟩,r,d,Q,e0⟩;rw[bP]at e0;refine S8 O W B n L V @s2 p0 ?_;refine⟨_,_,aM,?_⟩;refine S7 O W B n L V @s2 ?_;exact⟨o0,⟨m2,c2,o2⟩,Y,J,U,a,aM,⟨m5,o5⟩,r,d,Q,e0⟩
 rintro o ⟨T,h',rfl,O,W,B,n,o0,⟨m2,c2,o2⟩,Y,J,U,a,L,⟨m5,o5⟩,r,d,Q,e0⟩;have⟨Y0,s0⟩:=r.o;have b:=xV J Q;have x2:Y[a]?=ad Y[a]:=cx Q;have H0:fA Y a i=Y.set a {Y[a]with dJ:=aa,cc:=(i:Int)}:=by unfold fA;rw[x2]
 have y2:=BT J Q {Y[a]with dJ:=aa}<|J a;have P:a<aA (Y.set a {Y[a]with dJ:=aa}):=by rw[lR];exact Q
 have B0:=xV (eu J a<|J a) P;rw[O5,qh]at B0;have B1:=BT (eu J a<|J a) P {Y[a]with dJ:=aa,cc:=(i:Int)}<|J a;rw[List.set_set,<-H0]at B1;have C1:td N i z=fA Y a i:=by unfold td;rw[<-e0]
 rw[C1]at Q0;have u0:∀q (C0:q<aA (fA Y a i)),(fA Y a i)[q].be≠[]->∃b3:q<aA Y,Y[q].be=(fA Y a i)[q].be/\ eu (eu J a<|J a) a (J a) q=J q:=λq C0 _=>by
  have D1:q<aA Y:=by rwa[rL]at C0
  refine⟨D1,?_,?_⟩;have:(fA Y a i)[q]?=(Y.set a {Y[a]with dJ:=aa,cc:=(i:Int)})[q]?:=by rw[H0]
  rw[cx C0,rz]at this;by_cases l0:a=q;subst l0;rw[b8 rfl,b8 Q]at this;exact awE;rw[cG l0,cx D1]at this;exact awE;by_cases l0:q=a;subst l0;rw[qh];rw[oD _ _ l0,oD _ _ l0]
 have E1:aA Y=aA (fA Y a i):=(rL _ _ _).symm;have z2:=d.end a i;generalize fA Y a i=c3 at*;generalize Y[a]=t at*;generalize Y.set a {t with dJ:=aa}=N1 at*;refine bq O W B n L @s2 o5 s0 @fg @fk (eB Q) (an @c6<|an @bZ<|an b<|an y2<|an B0<|an B1 @bd) ?_;refine⟨o0,⟨m2,c2,o2⟩,c3,_,U,⟨m5,by rw[E1]⟩,r.DN ⟨Y0+1+1,?_⟩ ?_ ?_ u0,z2.le aW,Q0⟩;rw[qL,qL,s0];exact Nat.le_of_eq auy;intro q C0;exact auy;rintro T h ⟨O,W,B,n,o0,⟨m2,c2,o2⟩,N,K,v,⟨m5,o5⟩,r,F1,Q0⟩;rw[fS,oQ]at Q0;rw[Q0];have⟨Y0,s0⟩:=r.o;have⟨S,d3⟩:=Tw (h:=h.mod 2002<|.cells aa ab 38 1 [[.bh 2019 v 0<|aA N]]) (K:=K) (N:=N) 8 (λd0=>F1.r _<|cx d0) (λi d0 C=>by have⟨k1,k2,_⟩:=r.k i d0 C;refine N0 ?_;exact k1);have A2:ai (aA N) (aA<|eV K N)=aa:=by rw[xW];exact iE<|bu _
 have B2:ar (aA N) (au 0<|eV K N)=eV K N:=by rw[e6,eM<|by rw[xW];exact auS]
 refine bq O W B n @s2 o2 o5 s0 @bZ A2 B2 d3 ?_;rw[o0]
def vX(s:bo):Prop:=aA s.bH<=12/\ ∀a∈s.bH,0<=a/\ a<12
def ZP:∀(l:aL) (n:Int),gG l=ab->(∀a∈l,n<=a/\ a<12)->(aA l:Int)<=max 0 (12-n)
 |[],n,_,_=>by simp only[f_];omega
 |[a],n,_,h=>by have:=h a ei;exact awC
 |a::b::l,n,h,e=>by
  rw[gG,gz,cE]at h;have V:=e a ei;have y:∀c∈b::l,a+1<=c/\ c<12:=by
   have:∀(l:aL) (b:Int),gG (b::l)=ab->∀c∈l,b<c:=by
    intro l
    induction l with
    |nil=>intro b _ c Q;cases Q
    |cons d l I=>
     intro b X c Q;rw[gG,gz,cE]at X
     rcases dz.1 Q with Q|Q
     subst Q;omega;have:=I d X.2 c Q;omega
   grind
  have:=ZP (b::l) (a+1) h.2 y
  grind
def Wx{y:List bo}(h:lu y=0):∀s∈y,vX s:=by
 intro s B;unfold lu at h;cases V:Du y;rw[V]at h;cases p:y.any<|qf 12;rw[p]at h;cases d:y.any λs=>gG s.bH;rw[py]at p d;have p:=p s B;have d:=d s B;unfold qf at p;have o:∀a∈s.bH,0<=a/\ a<12:=λa b=>by have:(s.bH.any<|gY 12)=ab:=at6;rw[py]at this;have:=this a b;unfold gY at this;exact at6
 refine⟨?_,o⟩;have:=ZP s.bH 0 (by simpa using d) o;omega;rw[d]at h;cases h;rw[p]at h;cases h;rw[V]at h;cases h
def hQ(s:bo):rr:=if h:aA s.bH<=13 then⟨s.da,kj s.bH<|aA s.bH,K6 (bu _) h⟩else⟨0,ak 13 0,aM⟩
def Mb{s:bo}(h:vX s):(hQ s).a=s.da/\ (hQ s).v=kj s.bH (aA s.bH):=by
 unfold hQ;have:aA s.bH<=13:=by have:=h.1;omega
 exact at6
def alK{s:bo}(h:vX s):hc (.agg<|vK s)=ad (kB<|hQ s):=by have⟨V,p⟩:=Mb h;unfold kB vK;rw[V,p];have:∀l:aL,eU (l.map iF)=ad (l.map gE):=λl=>au6;rw[hc,eU,this]
def aiN{s t:bo}(B:vX s)(D:vX t)(e:hQ s=hQ t):s=t:=by
 have⟨V,p⟩:=Mb B;have⟨d,A⟩:=Mb D;have c:s.da=t.da:=by rw[<-V,<-d,e]
 have U:kj s.bH (aA s.bH)=kj t.bH (aA t.bH):=by rw[<-p,<-A,e]
 have j:∀(l:aL),(∀a∈l,0<=a/\ a<12)->(kj l<|aA l).filter (λa=>a !=0)=l.map λa=>a+1:=λl h=>by
  unfold kj;rw[bP,ry];have d:(ak (13-aA l) (0:Int)).filter (λa=>a !=0)=[]:=at6;rw[d,ea,OZ]
  grind
 have C:=np (λl:aL=>l.filter<|λa=>a !=0) U;have C:(kj s.bH<|aA s.bH).filter (λa=>a !=0)=(kj t.bH<|aA t.bH).filter (λa=>a !=0):=C;rw[j _ B.2,j _ D.2]at C;have z:∀l:aL,(l.map λa=>a+1).map (λa=>a-1)=l:=λl=>by
  rw[pB]
  conv=>rhs;rw[<-List.map_id l]
  refine sB λa _=>?_;exact at6
 have G:=np (aq λa:Int=>a-1) C;rw[z,z]at G;have⟨a,g⟩:=s;have⟨b,k⟩:=t;exact at6
def na(A:List<|rr×Int)(N:List bl)(i:Nat):Prop:=∀s,vX s->tW A (hQ s)=bif ax (eO N i s<0)then ae else ad<|eO N i s
def na.add{A:List (rr×Int)}{N:List bl}{a:Nat}{s:bo}(h:na A N a)(V:PT N)(b:a<aA N)(B:vX s):na (tv A (hQ s)<|aA N) (ek N a s) a:=λt D=>by
 rw[agA,Ak V b,gX,oI];cases q:jz s t;have:(hQ t==hQ s)=ab:=by cases f:hQ t==hQ s;rfl;have:=aiN D B<|zU f;rw[this,Ig]at q;cases q
 rw[this,br,br];exact h t D;have:=EG q
 grind
def na.oth{A:List (rr×Int)}{N:List bl}{a b:Nat}{s:bo}(h:na A N b)(V:PT N)(J:a<aA N)(e:b≠a):na A (ek N a s) b:=λt D=>by
 have:ag b a=ab:=by cases q:ag b a;rfl;exact at6
 rw[Ak V J,this,mB,br];exact h t D
def na.new{N:List bl}{a:Nat}{s:bo}(V:PT N)(b:a<aA N):na [] (ek N a s) (aA N):=λt D=>by
 have e:ag (aA N) a=ab:=by cases e:ag (aA N) a;rfl;have:=dB e;omega
 have j:eO N (aA N) t=-1:=by unfold eO gQ;rw[mE<|bu _];rfl
 rw[Ak V b,e,mB,br,j];rfl
def na.end{A:List (rr×Int)}{N:List bl}{a b:Nat}{i:Int}(h:na A N b)(J:a<aA N):na A (fA N a i) b:=λt D=>by rw[Sb J];exact h t D
def na.am9:na [] [ov] 0:=λt D=>by have:eO [ov] 0 t=-1:=rfl;exact avO
def s1(d:Nat):dk 1 (ad d)=1000+d:=rfl
def FT:VP.h5 142=1:=rfl
def DM:o9 VP.D 321=.ok (327,3):=aV
structure MO(h:H)(vm:Nat)(N:List bl)(Q:Nat->Nat×Nat):Prop where
 o:∃md,h.o 1046=⟨vm,md,.cells aa ab 321 1<|(ao<|aA N).map λi=>[.cz (Q i).1 (Q i).2]⟩
 m:∀i,i<aA N->∃mq A,h.o (Q i).1 =⟨(Q i).2,mq,.map<|A.map<|qE kB⟩/\ na A N i
 c:∀i,i<aA N->(Q i).1 =1045\/ ∃k,(Q i).1 =1111+1000000000*(k+1)/\ k<(h.o 1111).ver
 j:∀i j,i<aA N->j<aA N->(Q i).1 =(Q j).1 ->i=j
def Mj(w:Option VV)(z:R VV):R VV:=match w with
 |ad v=>.ok<|.bn [v,bV aa]
 |ae=>aO z λz=>.ok<|.bn [z,bV ab]
def aje(v:VV)(z:R VV):Mj (ad v) z=.ok (.bn [v,bV aa]):=rfl
def ajd(z:R VV):Mj ae z=aO z λz=>.ok (.bn [z,bV ab]):=rfl
def Vj(D:a_)(h:H)(t:Nat)(x T:VV):zg D h t x T aa=aO (o9 D t) λi=>aO (o7 h x) λes=>aO (ib<|hc T) λk=>aO (bX D 10 i.1 k k) λr=>bif r then
 aO (oa D i.1 k es) λw=>Mj w (yh D i.2)else .error "":=rfl
def XE(D:a_)(t:Nat)(x y:Operand)(f:Bool):gP D (.lookup t x y f)=aa:=rfl
def Xy(T:Vg)(t:Nat)(x y:Operand)(f:Bool):xS T (.lookup t x y f)=bS T x:=rfl
def Zh(h0 h:H)(s v:Nat):q8 h0 h (.cz s v)=(ag (h0.o s).ver (h.o s).ver&&ag (h0.o s).md (h.o s).md):=rfl
def Yg(s:bo):wc (.agg<|vK s)=aa:=by have:∀l:aL,eU (l.map iF)=ad (l.map gE):=λl=>au6;show(eU<|vK s).isSome=aa;unfold vK;rw[eU,this];rfl
def nc.fN{s d:Nat}{C:aE}{h h':H}{v:Nat}{N:List bl}{K:Nat->Nat×Nat}(T:nc s d C h v N K)(h1:h'.o s=h.o s)(a:h'.o d=h.o d)(X:∀q,C q->h'.o q=h.o q):nc s d C h' v N K:=T.DN (by rw[h1];exact T.o) (by rw[a];exact auS) X λi G _=>⟨G,aM,aM⟩
def MO.fN{h h':H}{i:Nat}{N:List bl}{Q:Nat->Nat×Nat}(k:MO h i N Q)(h1:h'.o 1046=h.o 1046)(a:∀q,q<aA N->h'.o (Q q).1 =h.o (Q q).1)(d:h'.o 1111=h.o 1111):MO h' i N Q:=by
 refine⟨by rw[h1];exact k.o,λq M=>?_,λq M=>by rw[d];exact k.c q M,k.j⟩;have⟨r,A,g,C⟩:=k.m q M
 grind
def MO.Kc{h:H}{M:Nat}{N:List bl}{Q:Nat->Nat×Nat}(k:MO h M N Q){q:Nat}(u:q<aA N):(Q q).1 =1045\/ 1000000000<=(Q q).1 :=by
 rcases k.c q u with e|⟨W,e,_⟩
 exact .inl e;omega
def MO.end{h h':H}{E:Nat}{N:List bl}{Q:Nat->Nat×Nat}{a:Nat}{i:Int}(k:MO h E N Q)(b:a<aA N)(h1:h'.o 1046=h.o 1046)(p:∀q,q<aA N->h'.o (Q q).1 =h.o (Q q).1)(d:h'.o 1111=h.o 1111):MO h' E (fA N a i) Q:=by refine⟨?_,λq M=>?_,λq M=>?_,λq r M x=>?_⟩;rw[rL,h1];exact k.o;rw[rL]at M;have⟨T,A,g,C⟩:=k.m q M;exact⟨T,A,by rw[p q M];exact g,C.end b⟩;rw[rL]at M;rw[d];exact k.c q M;rw[rL]at M x;exact k.j q r M x
def MO.n1{h:H}{M:Nat}{N:List bl}{Q:Nat->Nat×Nat}(k:MO h M N Q){q:Nat}(u:q<aA N):1111≠(Q q).1 :=by rcases k.c q u with e|⟨W,e,_⟩<;>omega
def MO.n2{h:H}{M:Nat}{N:List bl}{Q:Nat->Nat×Nat}(k:MO h M N Q){q:Nat}(u:q<aA N):1002≠(Q q).1 :=by rcases k.c q u with e|⟨W,e,_⟩<;>omega
def acr{N L:List bl}{t:bl}(e:N++[t]=L)(D:t.be=[]){K:Nat->Nat×Nat}{k:Nat×Nat}:∀i (G:i<aA L),L[i].be≠[]->∃P:i<aA N,N[i].be=L[i].be/\ eu K (aA N) k i=K i:=by subst e;intro i G C;rw[cN,sA]at G;by_cases h:i<aA N;exact⟨h,by rw[Jl h],oD _ _ aW⟩;exact at6
abbrev vM(q:Nat):Prop:=∃k,q=1094+1000000000*(k+1)
def ahM(w:cV)(h:H)(g:aL)(o:aA g<1048576):∃d,(vW VP).i 208 1104 [iL g] w h=.ok (iL g,d)/\ d.y=h.y/\ ∀q,q≠1104005->d.o q=h.o q:=by
 cases g with
 |nil=>exact⟨h,nw Bj aM,aM,λq _=>rfl⟩
 |cons a g=>have l:aA ([iV a]::g.map iC)<536870912:=awY;have P:ah (aA<|[iV a]::g.map iC) (2^29)=aa:=at2;have C:lD (1104*1000+5)=ab:=aT;have G:lD (1104*1000+7)=ab:=aT;have Q:ai 7000 1104=ab:=aT;have p:ag [iV a].length 1=aa:=rfl;refine⟨fM ((h.new (1104*1000+5)<|.cells ab ab 3 1 []).new (1104*1000+5)<|.cells ab ab 3 1<|[iV a]::g.map iC)<|1104*1000+5,nw Bj ?_,?_,λq M=>?_⟩;show mJ 3 1 1104 [.fz<|[iV a]::g.map iC] h=_;exact avW;rw[vz];rfl;exact auy
def MO.add{h h':H}{z u:Nat}{N:List bl}{Q:Nat->Nat×Nat}{a:Nat}{s:bo}{D F:Nat}{A:List (rr×Int)}(k:MO h z N Q)(V:PT N)(J:a<aA N)(v:vX s)(hn:eO N a s<0)(X:na A N a)
 (o:∃md,h'.o 1046=⟨u,md,.cells aa ab 321 1<|((ao<|aA N).map λi=>[.cz (Q i).1 (Q i).2])++[[.cz D F]]⟩)(d:∃b,h'.o (Q a).1 =⟨(Q a).2,b,.map<|(tv A (hQ s)<|aA N).map<|qE kB⟩)(l:∃b,h'.o D=⟨F,b,.map []⟩)(y:∀q,q<aA N->q≠a->h'.o (Q q).1 =h.o (Q q).1)
 (E:D=1111+1000000000*((h.o 1111).ver+1))(Y:(h'.o 1111).ver=(h.o 1111).ver+1):MO h' u (ek N a s) (eu Q (aA N) (D,F)):=by
 have C:∀q,q<aA N->eu Q (aA N) (D,F) q=Q q:=λq M=>oD _ _ aW;have w:∀q,q<aA N->(Q q).1 ≠D:=λq M e=>by
  rcases k.c q M with O|⟨W,O,G⟩
  omega;rw[O,E]at e;omega
 refine⟨?_,λq M=>?_,λq M=>?_,λq r M x e=>?_⟩;have⟨md,o⟩:=o;refine⟨md,?_⟩;rw[o,yv,wE,dg];have P:(ao<|aA N).map (λi=>[VV.cz (Q i).1 (Q i).2])=(ao<|aA N).map λi=>[VV.cz (eu Q (aA N) (D,F) i).1 (eu Q (aA N) (D,F) i).2]:=sB λi L=>by rw[C i<|lS.1 L]
 rw[P,List.map_singleton,qh];rw[yv]at M;by_cases g:q=aA N;subst g;rw[qh];have⟨b,l⟩:=l;exact⟨b,[],l,na.new V J⟩;rw[C q aW];by_cases T:q=a;subst T;have⟨b,d⟩:=d;exact⟨b,_,d,X.add V J v⟩;have⟨b,B,P,O⟩:=k.m q aW;exact⟨b,B,by rw[y q aW T];exact P,O.oth V J T⟩;rw[yv]at M;by_cases g:q=aA N;subst g;rw[qh];exact .inr ⟨(h.o 1111).ver,E,aW⟩;rw[C q aW]
 rcases k.c q aW with O|⟨W,O,G⟩
 exact .inl O;exact .inr ⟨W,O,aW⟩;rw[yv]at M x;by_cases g:q=aA N;by_cases p:r=aA N;rw[g,p];rw[g,qh,C r aW]at e
 grind
 by_cases p:r=aA N;rw[p,qh,C q aW]at e
 grind
 rw[C q aW,C r aW]at e;exact k.j q r aW aW e
def aqP{P:VT}{c:Vm.VC}{Q:Nat}{d:Option Tmp}{g:Bool}{ty:Nat}{p:String}{a:Array Edge}{T:Vg}{h:H}(t:Nat)(s:P.km (dk Q d)=aa)(C:P.xa (dk Q d)=ab):ec P c Q g ⟨d,.makeMap t ae,ty,p,a,ae⟩ T h=lq T h d g (aO (h_ P.D h (bS T) (.makeMap t ae)<|nq (dk Q d) h) λp=>.ok (p.1,l6 (dk Q d) p.2)):=by have e:ec P c Q g ⟨d,.makeMap t ae,ty,p,a,ae⟩ T h=lq T h d g (te P h (bS T) (.makeMap t ae)<|dk Q d):=bL aM;exact awN
def QK(a:Int)(es:aB):ga VP.D 68 [(0,iV a),(1,.fz es)]=.ok (.agg [iV a,.fz es]):=aV
def acB:1*1000+103+1=1104:=rfl
def aar(M:List<|List bo)(R2:bk M)(G3:∀y∈M,bk y/\ ∀s∈y,bk s.bH):aS VP 142 [.fz<|M.map lC] (.bn [.agg [.fz<|(jA M).map c8],iV<|gj M]):=by
 have v0:=arF M R2;have R2:aA M<1048576:=R2;have I3:∀i (g:i<aA M) (h:H),cF h (ae,1) (.fz<|M.map lC) (i:Int)=.ok (.bA (lC M[i]) 0):=λi g h=>db (s:=1) lC M i g;cases c0:ax<|(aA M:Int)<1;cases f0:ax<|64<(aA M:Int);cases p0:M.any oj;rw[p0]at v0;refine mQ GH IB λw y=>?_;refine S6 Tryz.f142.eq_1 @FT @s1 c0 f0 v0.aP ?_;refine lF 0 (aA M) (λi T h=>T 0=.fz (M.map lC)/\ T 2=.aR 1002 1 0 0/\ T 29=.fz (M.map lC)/\ T 30=iV (aA M)/\ T 31=iV i/\ h.y=y/\ (∃m c,h.o 1002=⟨1,m,.cells aa ab 38 1 [[c]]⟩)/\ (∀q,q≠1002->q≠1005->h.o q=⟨0,0,.none⟩)/\ ly M=ly (M.drop i)) ?_ ?_ ?_;refine S1 @s1 ?_;refine⟨aM,⟨0,_,aM⟩,λq h1 _=>trivial,aM⟩;rintro i T h g ⟨Z,p,O0,P0,Q0,e0,⟨m2,c2,o2⟩,L,r0⟩;have T2:i<9223372036854775807:=aW;have⟨k1,k2⟩:=G3 _<|bD g;have b1:=arH _ k1 k2;rw[Tx g]at r0;have R0:=I3 i g;generalize M[i]=z at*;generalize lu z=e at*;cases B0:e==0;have hn:(e !=0)=aa:=by simp[bne,B0]
 rw[B0]at r0;have r0:ly M=e:=r0;have E:gj M=e:=by unfold gj;rw[c0,f0,p0,r0];exact re hn
 have C0:jA M=[]:=by unfold jA;rw[E,B0];rfl
 rw[E,C0];refine bq Z p O0 P0 Q0 @s1 (a6 g) R0 b1.aP hn @cC (an @wP o2) ?_;rw[e0];have hn:(e !=0)=ab:=by simp[bne,B0]
 rw[B0]at r0;have r0:ly M=ly (M.drop<|i+1):=r0;refine eN Z p O0 P0 Q0 @s1 (a6 g) R0 b1.aP hn @bd ?_;exact⟨e0,⟨m2,c2,o2⟩,L,r0⟩;rintro T h ⟨Z,p,O0,P0,Q0,e0,⟨m2,c2,o2⟩,L,r0⟩;rw[fS]at r0;have r0:ly M=0:=r0
 have E:gj M=bif AS M then 8 else 0:=by unfold gj;rw[c0,f0,p0,r0];rfl
 have p1:=L 1043 aT aT;have r1:=L 1045 aT aT;have t1:=L 1046 aT aT;have u1:=L 1007 aT aT;refine bq Z p O0 P0 Q0 @s1 @dW @cC @QM @IL @QF (an @DM<|an p1<|an r1<|an t1 u1) ?_;have U2:∀y∈M,aA y<=12/\ ∀s∈y,vX s:=by
  have R3:∀M:List<|List bo,ly M=0->∀y∈M,lu y=0:=by
   intro M
   induction M with
   |nil=>intro _ y M0;cases M0
   |cons z M T3=>
    intro h y M0;rw[ly]at h;cases Q1:lu z==0;rw[Q1]at h;have h:lu z=0:=h;rw[h]at Q1;cases Q1;rw[Q1]at h
    rcases dz.1 M0 with M0|M0
    subst M0;simpa using Q1;exact T3 h y M0
  intro y M0;refine⟨?_,Wx<|R3 M r0 y M0⟩;rw[py]at p0;have:=p0 y M0;unfold oj at this;simp only[c_]at this;omega
 have J3:aA M<=64:=by rw[cE]at f0;omega
 have v1:gA [ov] 0:=⟨aY,aY,λt L1=>by cases L1;rfl,λt L1=>by rw[ku]at L1;subst L1;exact⟨λc U3=>(by cases U3),bu _,auz⟩⟩;refine lF 2 (aA M) (λi T h=>T 0=.fz (M.map lC)/\ T 2=.aR 1002 1 0 0/\ T 47=.fz (M.map lC)/\ T 48=iV (aA M)/\ T 49=iV i/\ T 7=.aR 1007 1 0 0/\ h.y=y/\ (∃m c,h.o 1002=⟨1,m,.cells aa ab 38 1 [[c]]⟩)/\ (ao i).any (sO M)=ab/\ ∃N K Q v R1,T 8=.bh 1046 R1 0 (aA N)/\ (∃m,h.o 1007=⟨1,m,.cells aa ab 38 1 [[.bh 1043 v 0<|aA N]]⟩)/\ nc 1043 1094 vM h v N K/\ MO h R1 N Q/\ gA N (12*i)/\ uW M i N/\ IF M=oQ i N (M.drop i)) ?_ ?_ ?_;refine S3 @s1 Z p ?_;refine⟨aM,e0,⟨m2,c2,o2⟩,aM,[ov],λ_=>(0,0),λ_=>(1045,1),1,1,aM,⟨1,by rw[u1];rfl⟩,⟨⟨0,?_⟩,λi g C=>?_,λi j g T0 h1=>?_⟩,⟨⟨0,?_⟩,λi g=>?_,λi g=>.inl aM,λi j g T0 _=>?_⟩,v1,uW.zero M,aM⟩;refine N0 ?_;rw[p1];rfl;have:i=0:=by simp only[sA]at g;omega
 subst this;exact absurd aM C;have:i=0:=by simp only[sA]at g;omega
 subst this;exact absurd aM h1;refine N0 ?_;rw[t1];rfl;have:i=0:=by simp only[sA]at g;omega
 subst this;exact⟨0,[],by refine N0 ?_;rw[r1];rfl,na.am9⟩;simp only[sA]at g T0;omega;clear L p1 r1 t1 u1 o2 e0;rintro i T h g ⟨Z,p,V,F,W,t7,e0,⟨m2,c2,o2⟩,U0,N,K,Q,v,R1,t8,⟨m7,ozz7⟩,o0,u,T1,V0,M1⟩;have T2:i<9223372036854775807:=aW;have⟨K3,V2⟩:=U2 _<|bD g;have⟨V3,W2⟩:=G3 _<|bD g;have b0:=V0.dup g;have D0:=V0.next g i;have R0:=I3 i g;rw[fD g,oQ]at M1;generalize W3:M[i]=z at*;refine S9 Z p V F W t7 @s1 (a6 g) R0 ?_;refine Ej (G:=λx=>dL (cJ 3<|dL (cJ 4 x) _) _) (Q':=λo=>∃T h',o=.exit 4 T h'/\ T 0=.fz (M.map lC)/\ T 2=.aR 1002 1 0 0/\ T 47=.fz (M.map lC)/\ T 48=iV (aA M)/\ T 49=iV i/\ T 7=.aR 1007 1 0 0/\ T 9=iV i/\ h'.y=y/\ (∃m c,h'.o 1002=⟨1,m,.cells aa ab 38 1 [[c]]⟩)/\ ∃Y J Q' a0 U a,T 8=.bh 1046 U 0 (aA Y)/\ T 11=iV (a:Nat)/\ (∃m,h'.o 1007=⟨1,m,.cells aa ab 38 1 [[.bh 1043 a0 0<|aA Y]]⟩)/\ nc 1043 1094 vM h' a0 Y J/\ MO h' U Y Q'/\ gA Y (12*i+aA z)/\ a<aA Y/\ (Y,a)=z.foldl fZ (N,0)) ?_ ?_
 as_aux_lemma=>
  refine ot (G:=λx=>x) (aA z) (λj T h'=>T 0=.fz (M.map lC)/\ T 2=.aR 1002 1 0 0/\ T 47=.fz (M.map lC)/\ T 48=iV (aA M)/\ T 49=iV i/\ T 7=.aR 1007 1 0 0/\ T 9=iV i/\ T 55=.fz (z.map bm)/\ T 56=iV (aA z)/\ T 57=iV j/\ h'.y=y/\ (∃m c,h'.o 1002=⟨1,m,.cells aa ab 38 1 [[c]]⟩)/\ ∃Y J Q' a0 U a,T 8=.bh 1046 U 0 (aA Y)/\ T 11=iV (a:Nat)/\ (∃m,h'.o 1007=⟨1,m,.cells aa ab 38 1 [[.bh 1043 a0 0<|aA Y]]⟩)/\ nc 1043 1094 vM h' a0 Y J/\ MO h' U Y Q'/\ gA Y (12*i+j)/\ PT Y/\ a<aA Y/\ (Y,a)=(z.take j).foldl fZ (N,0)) ?_ ?_ ?_;refine S8 Z p V F W t7 t8 @s1 ?_;exact⟨aM,e0,⟨m2,c2,o2⟩,N,K,Q,v,R1,0,aM,aM,⟨m7,ozz7⟩,o0.fN auy auy (λq L=>by have⟨O1,L⟩:=L;exact auy),u.fN auy (λq L=>by have:=u.Kc L;exact auy) auy,T1,V0.p,T1.p,aM⟩;clear o2 ozz7 e0 o0 u T1 t8;rintro j T h' T0 ⟨Z,p,V,F,W,t7,t9,g0,h0,i0,e0,⟨m2,c2,o2⟩,Y,J,Q',a0,U,a,t8,I,⟨m7,ozz7⟩,o0,u,s0,O2,b,u0⟩;have X3:j<9223372036854775807:=aW;have U1:(z.take<|j+1).foldl fZ (N,0)=fZ (Y,a) z[j]:=by rw[ej T0,jQ,<-u0];rfl
  have V1:=W2 _<|bD T0;have E0:=V2 _<|bD T0;have W1:∀h:H,cF h (ae,2) (.fz<|z.map bm) (j:Int)=.ok (.bA (bm z[j]) 0):=λh=>db (s:=2) bm z j T0;rw[U1];generalize X1:z[j]=s at*;have⟨A0,P⟩:=NM s0 b s V1;have c1:=arI s E0.1 E0.2;have x1:=alK E0;have⟨L3,X2⟩:=u.o;have⟨Y3,A,P2,M3⟩:=u.m a b;have j0:=M3 s E0;have a4:=u.Kc b;have Y1:((ao<|aA Y).map λi=>[VV.cz (Q' i).1 (Q' i).2])[a]?=ad [.cz (Q' a).1 (Q' a).2]:=by rw[hY,Jk b];rfl
  have a2:fZ (Y,a) s=bif ax (eO Y a s<0)then(ek Y a s,aA Y)else(Y,(eO Y a s).toNat):=rfl
  rw[a2]at A0 P|-;cases d1:ax<|eO Y a s<0;rw[d1]at j0 A0 P;have j0:tW A (hQ s)=ad (eO Y a s):=j0;have W0:oa VP.D 327 (kB<|hQ s) (A.map<|qE kB)=.ok (ad<|iV<|eO Y a s):=by rw[Ly Dh,j0];rfl
  have X0:bX VP.D 10 327 (kB<|hQ s) (kB<|hQ s)=.ok aa:=by rw[Dh,ve]
  obtain⟨Q2,Y2⟩:∃Q2:Nat,(Q2:Int)=eO Y a s:=⟨(eO Y a s).toNat,by rw[cE]at d1;omega⟩;rw[<-Y2]at W0 A0 P|-;refine bq Z p V F W t7 t9 t8 I g0 h0 (an i0<|an @s1<|an (a6 T0)<|an X1<|an W1<|an (c1.aP aM<|Yg s)<|an @fg<|an @fk<|an (eB b)<|an @c6<|an @bZ<|an X2<|an Y1<|an @Vj<|an @DM<|an P2<|an x1<|an X0<|an W0<|an @aje<|an @XE<|an @Xy<|an @Zh @bd) ?_;have P:((Q2:Int)).toNat<aA Y:=P;rw[c6]at P;exact⟨e0,⟨m2,c2,o2⟩,Y,J,Q',a0,U,Q2,aM,aM,⟨m7,ozz7⟩,o0.fN auy auy (λq L=>by have⟨O1,L⟩:=L;exact auy),u.fN auy (λq L=>by have:=u.Kc L;exact auy) auy,A0,O2,P,aM⟩;rw[d1]at j0 A0 P;have j0:tW A (hQ s)=ae:=j0;have W0:oa VP.D 327 (kB<|hQ s) (A.map<|qE kB)=.ok ae:=by rw[Ly Dh,j0];rfl
  have X0:bX VP.D 10 327 (kB<|hQ s) (kB<|hQ s)=.ok aa:=by rw[Dh,ve]
  have a3:yh VP.D 3=.ok (iV 0):=aV;have y1:=Zy Dh bqB (hQ s) (aA Y:Int) A;have⟨b2,f1⟩:=o0.o;refine bq Z p V F W t7 t9 t8 I g0 h0 (an i0<|an @s1<|an (a6 T0)<|an X1<|an W1<|an (c1.aP aM<|Yg s)<|an @fg<|an @fk<|an (eB b)<|an @c6<|an @bZ<|an X2<|an Y1<|an @Vj<|an @DM<|an P2<|an x1<|an X0<|an W0<|an @ajd<|an a3<|an @XE<|an @Xy<|an @Zh<|an @bd<|an ozz7<|an @jc f1) ?_;obtain⟨H0,F0⟩:∃H0:H,H0=(h'.new 1013<|.cells aa ab 68 2 [[iV 0,.nil]]).mod 1013 (.cells aa ab 68 2 [[iV s.da,iL s.bH]]):=⟨_,Eq.refl _⟩;rw[<-F0];have b3:H0.o 1013=⟨(h'.o 1013).ver+1,1,.cells aa ab 68 2 [[iV s.da,iL s.bH]]⟩:=by rw[F0];exact auy
  have d2:∀q,q≠1013->H0.o q=h'.o q:=λq h1=>by rw[F0];exact auy
  have b4:H0.y=h'.y:=by rw[F0];rfl
  clear F0;have f2:BB VP.D H0 321 (.cz (Q' a).1 (Q' a).2) (.agg<|vK s) (iV (aA Y:Int))=.ok (H0.mod (Q' a).1 (.map<|(tv A (hQ s)<|aA Y).map<|qE kB)):=by
   have e1:o7 H0 (.cz (Q' a).1 (Q' a).2)=.ok (A.map<|qE kB):=by rw[Mp,d2 _ aW,P2,Mw]
   have e2:tq (kB<|hQ s)=aa:=by
    show((iA (hQ s).a::(hQ s).v.map gE).all xO)=aa;rw[uS,List.all_map];have:((hQ s).v.all<|xO∘gE)=aa:=by rw[kt];intro a _;rfl
    exact avO
   have y1:oz (iV (aA Y:Int)) VP.D 327 (kB<|hQ s) (A.map<|qE kB)=.ok ((tv A (hQ s)<|aA Y).map<|qE kB):=y1;show aO (o9 VP.D 321) (λN3=>aO (o7 H0<|.cz (Q' a).1 (Q' a).2) λU1=>aO (ib<|hc<|.agg<|vK s) λk=>aO (bX VP.D 10 N3.1 k k) λr=>bif r&&tq k then aO (oz (iV (aA Y:Int)) VP.D N3.1 k U1) (λU1=>.ok<|H0.mod (Q' a).1 (.map U1))else .error "")=_;rw[DM,e1,x1];simp only[aO,ib,X0,e2,y1,iJ,a8]
  rw[f2];have g2:=u.c a b;obtain⟨O,P1,c3,i2,w0,x0⟩:∃O P1,b9 (Y[a].be.map iC) (J a).1 (J a).2 =b9 (Y[a].be.map iC) O P1/\ b6 (h'.o O) (Y[a].be.map iC) P1 3 1/\ (Y[a].be≠[]->O=(J a).1)/\ (Y[a].be=[]/\ O=0\/ vM O):=by by_cases C:Y[a].be=[];rw[C];exact⟨0,(h'.o 0).ver,aM,⟨aM,λh=>absurd aM h⟩,λh=>absurd aM h,.inl ⟨aM,aM⟩⟩;have⟨k1,k2,_⟩:=o0.k a b C;exact⟨_,_,aM,k1,λ_=>rfl,.inr k2⟩
  have j2:Y[a].be≠[]->O<=1094+1000000000*(h'.o 1094).ver:=λC=>by rw[w0 C];exact(o0.k a b C).2.2
  have c4:Y[a].be.length<1048576:=by have h1:=(s0.k _<|bD b).2.1;omega
  have X:=xV J b;have X:(eV J Y)[a]?=ad [iV Y[a].bN.da,wh (ag a 0) Y[a].bN.bH,iV Y[a].dT,b9 (Y[a].be.map iC) O P1,bV Y[a].dJ,iV Y[a].cc]:=by rw[X,<-c3]
  have g1:O≠1013/\ O≠(Q' a).1 /\ O≠1093/\ O≠1094:=by rcases x0 with⟨_,e⟩|⟨O1,e⟩<;>rcases g2 with e2|⟨O3,e2,_⟩<;>omega
  have l2:Y[a].be=[]/\ O=0\/ 1000000000<=O:=by
   rcases x0 with h|⟨O1,e⟩
   exact .inl h;exact .inr aW
  have i1:Y[a].be≠[]->vM O:=λC=>by
   rcases x0 with⟨h,_⟩|h
   exact absurd h C;exact h
  clear g2 x0;obtain⟨H1,k0⟩:∃H1:H,H1=H0.mod (Q' a).1 (.map<|(tv A (hQ s)<|aA Y).map<|qE kB):=⟨_,Eq.refl _⟩;rw[<-k0];have z1:H1.o 1043=⟨a0,b2,.cells aa ab 70 6<|eV J Y⟩:=by rw[k0,gv (hn:=aW),d2 _ aW,f1]
  have A1:H1.o 1007=⟨1,m7,.cells aa ab 38 1 [[.bh 1043 a0 0<|aA Y]]⟩:=by rw[k0,gv (hn:=aW),d2 _ aW,ozz7]
  have B1:H1.o 1013=⟨(h'.o 1013).ver+1,1,.cells aa ab 68 2 [[iV s.da,iL s.bH]]⟩:=by rw[k0,gv (hn:=aW),b3]
  have d4:H1.o (Q' a).1 =⟨(Q' a).2,Y3+1,.map<|(tv A (hQ s)<|aA Y).map<|qE kB⟩:=by rw[k0,qL,d2 _ aW,P2]
  have j1:∀q,q≠1013->q≠(Q' a).1 ->H1.o q=h'.o q:=λq h1 h2=>by rw[k0,gv (hn:=h2),d2 _ h1]
  have e4:H1.y=h'.y:=by rw[k0];exact b4
  clear k0 f2;refine bq Z p V F W t7 t9 t8 I g0 h0 (an i0<|an @s1<|an z1<|an A1<|an B1<|an @fg<|an @fk<|an (eB b)<|an @c6<|an @bZ<|an X @IK) ?_;have p2:(H1.o 1094).ver=(h'.o 1094).ver:=by rw[j1 _ aW aW]
  obtain⟨D,r2⟩:∃D,D=nq 1094 (H1.new 1093<|.cells ab ab 3 1 [[iV (aA Y:Int)]]):=⟨_,Eq.refl _⟩;have P3:D=1094+1000000000*((h'.o 1094).ver+1):=by have d3:(H1.new 1093<|.cells ab ab 3 1 [[iV (aA Y:Int)]]).o 1094=H1.o 1094:=auy;rw[r2];unfold nq;rw[d3,p2]
  have u2:b6 ((H1.new 1093<|.cells ab ab 3 1 [[iV (aA Y:Int)]]).o O) (Y[a].be.map iC) P1 3 1:=by have d3:(H1.new 1093<|.cells ab ab 3 1 [[iV (aA Y:Int)]]).o O=H1.o O:=auy;rw[d3,j1 _ g1.1 g1.2.1];exact i2
  have v2:aA (Y[a].be.map iC)<536870912:=auC;rw[<-r2,wK (ver:=P1) (eT:=3) (sz:=1) (c:=[iV (aA Y:Int)]) (s:=O) u2 v2 aug Am rfl];obtain⟨B,G0⟩:∃B,B=jl (Y[a].be.map iC) O D:=⟨_,Eq.refl _⟩;rw[<-G0];have L1:1000000000<=B/\ B<=D/\ (Y[a].be≠[]->B=(J a).1)/\ (Y[a].be=[]->B=D):=by
   by_cases C:Y[a].be=[];have e:jl (Y[a].be.map iC) O D=D:=by rw[C];exact Pz O D
   rw[e]at G0;exact⟨aW,aW,λh=>absurd C h,λ_=>G0⟩;have e:jl (Y[a].be.map iC) O D=O:=by
    cases C1:Y[a].be with
    |nil=>exact absurd C1 C
    |cons c l=>exact Py _ _ O D
   rw[e]at G0;have h3:=j2 C
   have h1:1000000000<=O:=by rcases l2 with⟨h,_⟩|h
                             exact absurd h C;exact h
   exact⟨aW,aW,λh=>by rw[G0];exact w0 h,λh=>absurd h C⟩
  have⟨f4,g4,D1,E1⟩:=L1;generalize e3:((H1.new 1093<|.cells ab ab 3 1 [[iV (aA Y:Int)]]).o B).ver+1=y0;have I0:=BT J b {Y[a]with be:=Y[a].be++[(aA Y:Int)]} (B,y0);have x2:(Y[a].be++[(aA Y:Int)]).map iC=Y[a].be.map iC++[[iV (aA Y:Int)]]:=dg;have I0:(eV J Y).set a [iV Y[a].bN.da,wh (ag a 0) Y[a].bN.bH,iV Y[a].dT,b9 (Y[a].be.map iC++[[iV (aA Y:Int)]]) B y0,bV Y[a].dJ,iV Y[a].cc]=eV (eu J a (B,y0)) (Y.set a {Y[a]with be:=Y[a].be++[(aA Y:Int)]}):=by rw[<-x2];exact I0
  have f3:B≠1093/\ B≠1094/\ B≠1043/\ B≠1007/\ B≠1013/\ B≠1002/\ B≠1046:=aW;have⟨i4,j4,k4,l4,m4,n4,o4⟩:=f3;refine bq Z p V F W t7 t9 t8 I g0 h0 (an i0<|an @s1<|an z1<|an A1<|an B1<|an @sT<|an @hN<|an @Aw<|an @fg<|an @fk<|an (eB b)<|an @c6<|an @bZ<|an X<|an I0<|an @ua @acB) ?_;obtain⟨H2,d⟩:∃H2:H,H2=(l6 1094<|(H1.new 1093<|.cells ab ab 3 1 [[iV (aA Y:Int)]]).new B<|.cells ab ab 3 1<|Y[a].be.map iC++[[iV (aA Y:Int)]]).mod 1043 (.cells aa ab 70 6<|eV (eu J a (B,y0))<|Y.set a {Y[a]with be:=Y[a].be++[(aA Y:Int)]}):=⟨_,Eq.refl _⟩;rw[<-d];have⟨H3,g3,i3,f⟩:=ahM w H2 s.bH V1;rw[g3];have F1:H3.o 1043=⟨a0,b2+1,.cells aa ab 70 6<|eV (eu J a (B,y0))<|Y.set a {Y[a]with be:=Y[a].be++[(aA Y:Int)]}⟩:=by rw[f _ aW,d,qL];simp(disch:=first|assumption|omega)only[hN,dE,z1]
  have G1:H3.o 1007=⟨1,m7,.cells aa ab 38 1 [[.bh 1043 a0 0<|aA Y]]⟩:=by rw[f _ aW,d];simp(disch:=first|assumption|omega)only[gv,hN,dE,A1]
  have y2:H3.o 1013=⟨(h'.o 1013).ver+1,1,.cells aa ab 68 2 [[iV s.da,iL s.bH]]⟩:=by rw[f _ aW,d];simp(disch:=first|assumption|omega)only[gv,hN,dE,B1]
  have z2:H3.o 1046=⟨U,L3,.cells aa ab 321 1<|(ao<|aA Y).map λi=>[.cz (Q' i).1 (Q' i).2]⟩:=by rw[f _ aW,d];simp(disch:=first|assumption|omega)only[gv,hN,dE];rw[j1 _ aW aW,X2]
  have j3:H2.o 1007=⟨1,m7,.cells aa ab 38 1 [[.bh 1043 a0 0<|aA Y]]⟩:=by rw[<-f _ aW];exact G1
  have l3:H2.o 1013=⟨(h'.o 1013).ver+1,1,.cells aa ab 68 2 [[iV s.da,iL s.bH]]⟩:=by rw[<-f _ aW];exact y2
  have J0:aA (Y.set a {Y[a]with be:=Y[a].be++[(aA Y:Int)]})=aA Y:=lR;have m3:ag (aA Y) (aA<|eV (eu J a (B,y0))<|Y.set a {Y[a]with be:=Y[a].be++[(aA Y:Int)]})=aa:=by rw[xW,J0];exact gX _
  have l1:ah (aA Y+1) (2^30)=aa:=qx (by have:=s0.n;omega);have n3:ag (aA Y) 0=ab:=by cases p4:ag (aA Y) 0;rfl;have:=dB p4;omega
  have l0:=Yn (eu J a (B,y0)) (Y.set a {Y[a]with be:=Y[a].be++[(aA Y:Int)]}) ⟨s,a,[],ab,-1⟩ (0,0);rw[J0,n3]at l0;have m1:Y.set a {Y[a]with be:=Y[a].be++[(aA Y:Int)]}++[(⟨s,a,[],ab,-1⟩:bl)]=ek Y a s:=by unfold ek rC;rw[cx b]
  rw[m1]at l0;have l0:eV (eu J a (B,y0)) (Y.set a {Y[a]with be:=Y[a].be++[(aA Y:Int)]})++[[iV s.da,.fz<|s.bH.map iC,iV a,.nil,bV ab,iV<|-1]]=eV (eu (eu J a (B,y0)) (aA Y) (0,0)) (ek Y a s):=l0;have A2:yL aa aa=aa:=rfl;have o3:ag (aA Y) (aA<|ao<|aA Y)=aa:=by rw[nN];exact gX _
  refine bq Z p V F W t7 t9 t8 I g0 h0 (an i0<|an @s1<|an F1<|an G1<|an y2<|an z2<|an @dW<|an @cC<|an @QK<|an @QL<|an @IL<|an @aqP<|an @DM<|an m3<|an l1<|an A2<|an l0<|an @bZ<|an j3<|an l3 @gX) ?_;obtain⟨H4,d0⟩:∃H4:H,H4=((H3.new 1107<|.cells aa ab 70 6 [[iV s.da,.fz<|s.bH.map λn=>[iV n],iV a,.nil,bV ab,iV<|-1]]).new 1043<|.cells aa ab 70 6<|eV (eu (eu J a (B,y0)) (aA Y) (0,0))<|ek Y a s).mod 1007 (.cells aa ab 38 1 [[.bh 1043 (a0+1) 0<|aA Y+1]]):=⟨_,Eq.refl _⟩;rw[<-d0];have B2:H4.o 1046=⟨U,L3,.cells aa ab 321 1<|(ao<|aA Y).map λi=>[.cz (Q' i).1 (Q' i).2]⟩:=by rw[d0];simp(disch:=first|assumption|omega)only[gv,dE,z2]
  obtain⟨D2,I1⟩:∃D2,D2=nq 1111 H4:=⟨_,Eq.refl _⟩;rw[<-I1];have C2:D2=1111+1000000000*((H4.o 1111).ver+1):=by rw[I1];rfl
  have E2:D2≠1046/\ D2≠1111/\ D2≠1112:=aW;have⟨w1,w2,w3⟩:=E2;generalize p3:(H4.o D2).ver+1=r3;clear C2;refine bq Z p V F W t7 t9 t8 I g0 h0 (an i0<|an @s1<|an B2<|an @sT<|an @hN<|an @Aw<|an o3<|an A2<|an l1<|an @bd @bZ) ?_;have F2:D2=1111+1000000000*((h'.o 1111).ver+1):=by
   have e:H4.o 1111=h'.o 1111:=by rw[d0];simp(disch:=first|assumption|omega)only[gv,dE];rw[f _ aW,d];simp(disch:=first|assumption|omega)only[gv,hN,dE];rw[j1 _ aW aW]
   rw[I1,<-e];rfl
  have t3:nc 1043 1094 vM H3 a0 (Y.set a {Y[a]with be:=Y[a].be++[(aA Y:Int)]}) (eu J a (B,y0)):=by
   have G2:(H3.o 1094).ver=(h'.o 1094).ver+1:=by rw[f _ aW,d];simp(disch:=first|assumption|omega)only[gv,sT,dE,p2]
   refine o0.UY b ⟨_,F1⟩ aW ?_ ?_ aW D1 (λC=>by have:=E1 C;omega) ?_;rw[x2,f _ aW,d];simp(disch:=first|assumption|omega)only[gv,hN];rw[jt,e3];exact auh;exact au9;intro q I2 r4;have J1:q≠(Q' a).1 /\ 1000000000<=q:=by
    have⟨O1,L⟩:=I2
    rcases u.c a b with e|⟨O3,e,_⟩<;>omega
   clear I2;have⟨J1,t4⟩:=J1;rw[f _ aW,d];simp(disch:=first|assumption|omega)only[gv,hN,dE];rw[j1 _ aW J1]
  have Y0:vM B:=au9;have J2:∀q,q<aA Y->(Q' q).1 ≠1007/\ (Q' q).1 ≠1043/\ (Q' q).1 ≠1107/\ (Q' q).1 ≠1104005/\ (Q' q).1 ≠B/\ (Q' q).1 ≠1093/\ (Q' q).1 ≠1094/\ (Q' q).1 ≠1046/\ (Q' q).1 ≠1111/\ (Q' q).1 ≠1112/\ (Q' q).1 ≠D2/\ (Q' q).1 ≠1013:=λq L=>by
   have⟨B4,Y0⟩:=Y0;clear U0
   rcases u.c q L with e|⟨O3,e,C4⟩<;>omega
  have zq:∀q,q≠1007->q≠1043->q≠1107->q≠1104005->q≠B->q≠1093->q≠1094->H4.o q=H1.o q:=λq h1 h2 h3 h4 h5 h6 h7=>by rw[d0];simp(disch:=assumption)only[gv,dE];rw[f _ h4,d];simp(disch:=assumption)only[gv,hN,dE]
  have u4:∀q,vM q->H4.o q=H3.o q:=λq L=>by
   have L:q≠1007/\ q≠1043/\ q≠1107:=by have⟨k,L⟩:=L;omega
   have⟨h1,h2,h3⟩:=L;rw[d0];simp(disch:=assumption)only[gv,dE]
  have G2:H4.o 1094=H3.o 1094:=by rw[d0];simp(disch:=omega)only[gv,dE]
  have u3:∃m,H4.o 1043=⟨a0+1,m,.cells aa ab 70 6<|eV (eu (eu J a (B,y0)) (aA Y) (0,0))<|ek Y a s⟩:=by rw[d0];simp(disch:=omega)only[gv,jt,dE,F1];exact avb
  have v3:∃m,H4.o 1007=⟨1,m,.cells aa ab 38 1 [[.bh 1043 (a0+1) 0<|aA Y+1]]⟩:=by rw[d0];simp(disch:=omega)only[qL,dE,G1];exact avb
  have x3:H4.o 1002=⟨1,m2,.cells aa ab 38 1 [[c2]]⟩:=by rw[zq _ aW aW aW aW aW aW aW,j1 _ aW<|u.n2 b,o2]
  have v4:H4.y=y:=by rw[d0];show H3.y=y;rw[i3,d];show(l6 1094 _).y=y;rw[Aw];show H1.y=y;rw[e4,e0]
  have x4:(H4.o 1111).ver=(h'.o 1111).ver:=by rw[zq _ aW aW aW aW aW aW aW,j1 _ aW<|u.n1 b]
  obtain⟨H6,K0⟩:∃H6:H,H6=((l6 1111<|H4.new D2<|.map []).new 1112<|.cells aa ab 321 1 [[.cz D2 r3]]).new 1046 (.cells aa ab 321 1<|(ao<|aA Y).map (λi=>[.cz (Q' i).1 (Q' i).2])++[[.cz D2 r3]]):=⟨_,Eq.refl _⟩;rw[<-K0];have h6:∀q,q≠1046->q≠1112->q≠1111->q≠D2->H6.o q=H4.o q:=λq h1 h2 h3 h4=>by rw[K0];simp(disch:=assumption)only[dE,hN]
  have y3:∀q,vM q->q≠1046/\ q≠1112/\ q≠1111/\ q≠D2:=λq L=>by have⟨k,L⟩:=L;omega
  have z0:D2≠1007/\ D2≠1043/\ D2≠1002/\ D2≠1094:=aW;refine⟨v4,⟨m2,c2,?_⟩,ek Y a s,eu (eu J a (B,y0)) (aA Y) (0,0),eu Q' (aA Y) (D2,r3),a0+1,U+1,aA Y,by rw[yv],rfl,?_,t3.DN ?_ ?_ ?_ ?_,u.add O2 b E0 (tm d1) M3 ?_ ?_ ?_ ?_ F2 ?_,A0,PJ O2 b,P,rfl⟩;rw[dE (hn:=hG z0.2.2.1)];exact x3;rw[dE (hn:=hG z0.1),yv];exact v3;rw[h6 _ aW aW aW<|hG z0.2.1];exact u3;rw[h6 _ aW aW aW<|hG z0.2.2.2,G2];exact auS;intro q L;have⟨h1,h2,h3,h4⟩:=y3 q L;rw[h6 _ h1 h2 h3 h4,u4 q L];intro i g C;have⟨k1,k2,k3⟩:=acr m1 aM (K:=eu J a (B,y0)) (k:=(0,0)) i g C;exact⟨k1,k2,by rw[<-J0];exact k3⟩;rw[K0];simp(disch:=first|assumption|omega)only[jt,dE,hN,B2];exact avb;have⟨q1,q2,q3,q4,q5,q6,q7,q8,q9,K1,BO,_⟩:=J2 a b;rw[h6 _ q8 K1 q9 BO,zq _ q1 q2 q3 q4 q5 q6 q7,d4];exact avb;rw[K0,dE (hn:=w1),dE (hn:=w3),hN (hn:=w2),jt,p3];exact avb;intro q L m0;have⟨q1,q2,q3,q4,q5,q6,q7,q8,q9,K1,BO,z3⟩:=J2 q L;rw[h6 _ q8 K1 q9 BO,zq _ q1 q2 q3 q4 q5 q6 q7,j1 _ z3 λe=>m0<|u.j q a L b e];rw[K0];simp(disch:=first|assumption|omega)only[dE,sT];rw[x4];rintro T h' ⟨Z,p,V,F,W,t7,t9,g0,h0,i0,e0,⟨m2,c2,o2⟩,Y,J,Q',a0,U,a,t8,I,⟨m7,ozz7⟩,o0,u,s0,O2,b,u0⟩;rw[bP]at u0;refine bq Z p V F W t7 t9 t8 I g0 h0 (an i0 @s1) ?_;refine⟨_,_,aM,?_⟩;refine S9 Z p V F W t7 t9 t8 I ?_;exact⟨e0,⟨m2,c2,o2⟩,Y,J,Q',a0,U,a,aM,aM,⟨m7,ozz7⟩,o0,u,s0,b,u0⟩
 rintro o ⟨T,h',rfl,Z,p,V,F,W,t7,t9,e0,⟨m2,c2,o2⟩,Y,J,Q',a0,U,a,t8,I,⟨m7,ozz7⟩,o0,u,s0,b,u0⟩;have⟨Q3,f1⟩:=o0.o;have X:=xV J b;rw[<-u0]at b0;have b0:gD Y a=sO M i:=b0;have A3:gD Y a=Y[a].dJ:=by unfold gD;rw[cx b];rfl
 rw[A3]at b0;cases a1:Y[a].dJ;have B3:Y[a]?=ad Y[a]:=cx b;have n1:fA Y a i=Y.set a {Y[a]with dJ:=aa,cc:=(i:Int)}:=by unfold fA;rw[B3]
 have C3:=BT J b {Y[a]with dJ:=aa}<|J a;have P:a<aA (Y.set a {Y[a]with dJ:=aa}):=by rw[lR];exact b
 have L0:=xV (eu J a<|J a) P;rw[O5,qh]at L0;have K2:=BT (eu J a<|J a) P {Y[a]with dJ:=aa,cc:=(i:Int)}<|J a;rw[List.set_set,<-n1]at K2;have L2:td N i z=fA Y a i:=by unfold td;rw[<-u0]
 rw[L2]at M1 D0;have C1:∀q (L:q<aA (fA Y a i)),(fA Y a i)[q].be≠[]->∃y4:q<aA Y,Y[q].be=(fA Y a i)[q].be/\ eu (eu J a<|J a) a (J a) q=J q:=λq L _=>by
  have M2:q<aA Y:=by rwa[rL]at L
  refine⟨M2,?_,?_⟩;have:(fA Y a i)[q]?=(Y.set a {Y[a]with dJ:=aa,cc:=(i:Int)})[q]?:=by rw[n1]
  rw[cx L,rz]at this;by_cases m0:a=q;subst m0;rw[b8 rfl,b8 b]at this;exact awE;rw[cG m0,cx M2]at this;exact awE;by_cases m0:q=a;subst m0;rw[qh];rw[oD _ _ m0,oD _ _ m0]
 have o1:aA Y=aA (fA Y a i):=(rL _ _ _).symm;have D3:=s0.end a i;have E3:=λh2=>u.end (h':=h2) (i:=i) b;have N2:(ao<|i+1).any (sO M)=ab:=Yk U0 (by rw[<-b0];exact a1);have X:(eV J Y)[a]?=ad [iV Y[a].bN.da,wh (ag a 0) Y[a].bN.bH,iV Y[a].dT,b9 (Y[a].be.map iC) (J a).1 (J a).2,bV ab,iV Y[a].cc]:=by rw[X,<-a1]
 generalize fA Y a i=z4 at*;generalize Y[a]=t at*;generalize Y.set a {t with dJ:=aa}=N1 at*;refine bq Z p V F W t7 t9 t8 I @s1 ozz7 (an f1<|an @fg<|an @fk<|an (eB b)<|an @c6<|an @bZ<|an X<|an C3<|an L0<|an K2 @bd) ?_;refine⟨e0,⟨m2,c2,o2⟩,N2,z4,_,Q',a0,U,by rw[o1],⟨m7,by rw[o1]⟩,o0.DN ⟨Q3+1+1,?_⟩ ?_ ?_ C1,E3 _ ?_ ?_ ?_,D3.le aW,D0,M1⟩;rw[qL,qL,f1];exact Nat.le_of_eq auy;rintro q ⟨O1,L⟩;exact auy;exact auy;intro q L;have:(Q' q).1 =1045\/ 1000000000<=(Q' q).1 :=by
  rcases u.c q L with e|⟨O1,e,_⟩
  exact .inl e;exact .inr aW
 exact auy;exact auy;have d1:AS M=aa:=mD.2 ⟨i,lS.2 g,by rw[<-b0];exact a1⟩;rw[d1]at E;have E:gj M=8:=E;have C0:jA M=[]:=by unfold jA;rw[E];rfl
 rw[E,C0];rw[sp,a1]at X;refine bq Z p V F W t7 t9 t8 I @s1 ozz7 (an f1<|an @fg<|an @fk<|an (eB b)<|an @c6<|an @bZ<|an X<|an @cC<|an @wP o2) ?_;rw[e0];rintro T h ⟨Z,p,V,F,W,t7,e0,⟨m2,c2,o2⟩,U0,N,K,Q,v,R1,t8,⟨m7,ozz7⟩,o0,u,T1,V0,M1⟩;rw[fS,oQ]at M1;have d1:AS M=ab:=U0;rw[d1]at E;have E:gj M=0:=E;have C0:jA M=N:=by unfold jA;rw[E];exact M1
 rw[E,C0];have⟨Q3,f1⟩:=o0.o;have⟨S,A4⟩:=Tw (h:=h.mod 1002<|.cells aa ab 38 1 [[.bh 1043 v 0<|aA N]]) (K:=K) (N:=N) 8 (λg=>T1.r _<|cx g) (λi g C=>by have⟨k1,⟨D4,k2⟩,_⟩:=o0.k i g C;refine N0 ?_;exact k1);have F3:ai (aA N) (aA<|eV K N)=aa:=by rw[xW];exact iE<|bu _
 have Y0:ar (aA N) (au 0<|eV K N)=eV K N:=by rw[e6,eM<|by rw[xW];exact auS]
 refine bq Z p t7 V F W @s1 o2 ozz7 f1 @bZ (an F3<|an Y0 A4) ?_;rw[e0];rw[p0]at v0;have B0:gj M=23:=by unfold gj;rw[c0,f0,p0];rfl
 unfold jA;rw[B0];show aS VP 142 _<|.bn [.agg [.fz []],iV 23];refine mQ GH IB λw y=>?_;exact S8 Tryz.f142.eq_1 @FT @s1 c0 f0 v0.aP @cC @wP tr;have B0:gj M=23:=by unfold gj;rw[c0,f0];rfl
 unfold jA;rw[B0];show aS VP 142 _<|.bn [.agg [.fz []],iV 23];refine mQ GH IB λw y=>?_;exact S7 Tryz.f142.eq_1 @FT @s1 c0 f0 @cC @wP tr;have B0:gj M=23:=by unfold gj;rw[c0];rfl
 unfold jA;rw[B0];show aS VP 142 _<|.bn [.agg [.fz []],iV 23];refine mQ GH IB λw y=>?_;exact S6 Tryz.f142.eq_1 @FT @s1 c0 @cC @wP tr
def asM(s t:bo)(B:bk s.bH):aS VP 406 [.agg<|bm s,.agg<|bm t] (bV<|qF s t):=by refine gO Tryz.f406.eq_1 λw y=>?_;exact S2 ((Ol s.bH t.bH B).aP) qF.eq_1 tr
def asO(a b:Int):aS VP 408 [iV a,iV b] (bV<|a==b):=by refine gO Tryz.f408.eq_1 λw y=>?_;exact aug
def asW(a b:aL)(J:bk a):aS VP 438 [iL a,iL b,.func 408 [] []] (bV<|gZ a b):=by refine gO Tryz.f438.eq_1 λw y=>?_;by_cases l:aA a=aA b;refine Z0 ?_;refine lF 0 (aA a) (λi T h=>T 1=iL b/\ T 2=.func 408 [] []/\ T 15=iL a/\ T 16=iV (aA a)/\ T 17=iV i/\ h=H.empty y/\ gZ (a.take i) (b.take i)=aa) ?_ ?_ ?_;refine Z0 ?_;exact at1;rintro i T h G ⟨g,C,c,k,V,rfl,M⟩;refine Z4 (a6 G) (a6<|l▸G) @bd ((asO a[i]<|b[i]'(l▸G)).aP) ?_;have⟨x,o⟩:=rN (p:=λa b:Int=>a==b) G (l▸G) M (b:=!a[i]==b[i]'(l▸G)) aY;exact⟨λh=>by rw[gZ,x h],o⟩;rintro T h ⟨g,C,c,k,V,rfl,M⟩;exact auw;exact awy
def asN(a b:aL)(J:bk a):aS VP 407 [iL a,iL b,.func 408 [] []] (bV<|gZ a b):=by refine gO Tryz.f407.eq_1 λw y=>?_;exact S1 ((asW a b J).aP) tr
def ass(s t:bl)(h:bk s.bN.bH)(a:bk s.be):aS VP 355 [.agg<|c8 s,.agg<|c8 t] (bV<|fV s t):=by refine gO Tryz.f355.eq_1 λw y=>?_;exact S3 ((asN s.be t.be a).aP) ((asM s.bN t.bN h).aP) fV.eq_1 tr
def asY{f:Nat}(C:DD f=ab)(j:∀s t:bl,bk s.bN.bH->bk s.be->aS VP f [.agg<|c8 s,.agg<|c8 t] (bV<|fV s t))(a b:List bl)(J:bk a)(r:∀t∈a,bk t.bN.bH/\ bk t.be):aS VP 92 [.fz<|a.map c8,.fz<|b.map c8,.func f [] []] (bV<|dK fV a b):=by refine gO Tryz.f92.eq_1 λw y=>?_;by_cases l:aA a=aA b;refine Z0 ?_;refine lF 0 (aA a) (λi T h=>T 1=.fz (b.map c8)/\ T 2=.func f [] []/\ T 15=.fz (a.map c8)/\ T 16=iV (aA a)/\ T 17=iV i/\ h.y=y/\ dK fV (a.take i) (b.take i)=aa) ?_ ?_ ?_;refine Z0 ?_;exact at1;rintro i T h G ⟨g,O,c,k,V,E,M⟩;have m:=r _<|bD G;refine Z5 (a6 G) (a6<|l▸G) @bd (LX f C) ((j a[i] (b[i]'(l▸G)) m.1 m.2).aP) ?_;have⟨x,o⟩:=rN (p:=fV) G (l▸G) M (b:=!fV a[i] (b[i]'(l▸G))) aY;exact auk;rintro T h ⟨g,O,c,k,V,E,M⟩;exact auw;exact avJ
def asr(a b:List bl)(e:hU a):aS VP 354 [.fz<|a.map c8,.fz<|b.map c8,.func 355 [] []] (bV<|dK fV a b):=by refine gO Tryz.f354.eq_1 λw y=>?_;exact S1 ((asY aM ass a b e.1 e.2).aP) tr
abbrev nh(y:List bo):List Int:=y.map λs=>s.da
def ast(l:List bo)(P:bk l):aS VP 356 [.agg<|lC l] (iL<|nh l):=by
 have P:aA l<1048576:=P;refine gO Tryz.f356.eq_1 λw y=>?_;refine S0 ?_;refine lF 0 (aA l) (λi T h=>T 7=.fz (l.map bm)/\ T 8=iV (aA l)/\ T 9=iV i/\ h.y=y/\ ∃v,T 3=b9 ((nh<|l.take i).map iC) 17 v/\ b6 (h.o 17) ((nh<|l.take i).map iC) v 3 1) ?_ ?_ ?_;exact auG;rintro i T h g ⟨S,Q,A,E,v,G,b⟩;have n:aA ((nh<|l.take i).map iC)<536870912:=aul;have X:(nh<|l.take<|i+1).map iC=(nh<|l.take i).map iC++[[iV l[i].da]]:=by rw[ej g,nh,dg,dg];rfl
 have x:∀h:H,cF h (ae,2) (.fz<|l.map bm) (i:Int)=.ok (.bA (bm l[i]) 0):=λh=>db (s:=2) bm l i g;generalize l[i]=s at*;refine S8 S Q A G (a6 g) x @bd (iM b n) ?_;refine⟨E,v+1,by rw[X],?_⟩;rw[X,b.1];exact auh;rintro T h ⟨S,Q,A,E,v,G,b⟩;simp only[bP]at G b;exact S6 S Q A G (gf b) E tr
def arT(l:List bo)(P:bk l):aS VP 229 [.agg<|lC l] (iL<|nh l):=by
 have P:aA l<1048576:=P;refine gO Tryz.f229.eq_1 λw y=>?_;refine S0 ?_;refine lF 0 (aA l) (λi T h=>T 1=.aR 1 1 0 0/\ h.o 1=⟨1,0,.cells aa ab 316 1 [lC l]⟩/\ T 4=iV i/\ h.y=y/\ ∃v,T 3=b9 ((nh<|l.take i).map iC) 20 v/\ b6 (h.o 20) ((nh<|l.take i).map iC) v 3 1) ?_ ?_ ?_;exact auG;rintro i T h g ⟨J,E,N,O,v,G,b⟩;have n:aA ((nh<|l.take i).map iC)<536870912:=aul;have X:(nh<|l.take<|i+1).map iC=(nh<|l.take i).map iC++[[iV l[i].da]]:=by rw[ej g,nh,dg,dg];rfl
 have x:∀h:H,cF h (ae,2) (.fz<|l.map bm) (i:Int)=.ok (.bA (bm l[i]) 0):=λh=>db (s:=2) bm l i g;generalize l[i]=s at*;refine S8 J N E G (a6 g) x @bd (iM b n) ?_;refine⟨O,v+1,by rw[X],?_⟩;rw[X,b.1];exact auh;rintro T h ⟨J,E,N,O,v,G,b⟩;simp only[bP]at G b;exact S6 J N E G (gf b) O tr
def nG(z:bo)(L:List bo)(k:Nat):List bo:=(ao<|aA L).map λx=>(if x<k\/ aA L-k<=x then L[aA L-1-x]? else L[x]?).getD z
def Ez(z:bo)(L:List bo)(k:Nat):aA (nG z L k)=aA L:=by unfold nG;rw[bj,nN]
def BQ(z:bo)(L:List bo)(k:Nat){x:Nat}(s:x<aA L):(nG z L k)[x]?=ad ((if x<k\/ aA L-k<=x then L[aA L-1-x]? else L[x]?).getD z):=by unfold nG;rw[hY,Jk s];rfl
def amW(z:bo)(L:List bo):nG z L 0=L:=by apply uT;intro x;by_cases s:x<aA L;rw[BQ z L 0 s,cG aW,cx s];rfl;rw[mE<|by rw[Ez];omega,mE aW]
def amX(z:bo)(L:List bo):nG z L (aA L/2)=L.reverse:=by
 apply uT;intro x;by_cases s:x<aA L;rw[BQ z L _ s,List.getElem?_reverse s]
 grind
 rw[mE<|by rw[Ez];omega,mE<|by rw[qs];omega]
def amY(z:bo)(L:List bo){k:Nat}(f:k<aA L/2):(nG z L k)[k]?=ad (L[k]'aW)/\ (nG z L k)[aA L-1-k]?=ad (L[aA L-1-k]'aW):=by rw[BQ z L k aW,BQ z L k aW,cG aW,cG aW,cx aW,cx aW];exact at6
def amZ(z:bo)(L:List bo){k:Nat}(f:k<aA L/2):((nG z L k).set k<|L[aA L-1-k]'aW).set (aA L-1-k) (L[k]'aW)=nG z L (k+1):=by
 apply uT;intro x;by_cases s:x<aA L;rw[BQ z L _ s,rz,rz,lR,Ez,BQ z L k s]
 grind
 rw[mE<|by rw[lR,lR,Ez];omega,mE<|by rw[Ez];omega]
def Qn:0*1000+34+1=35:=rfl
def Ue:og VP 405=aa:=rfl
def aqk(w:cV)(h:H):(vW VP).i 405 35 [.nil] w h=.ok (.bn [],h):=by
 have l:∃Y,ki VP Tryz.f405.results.toList (cv VP (cW VP w) 35 (VP.gk 405) (Tryz.f405.body.getD .skip) (gK [.nil]) h)=.ok (.bn [],Y)/\ Y=h:=by refine vr ?_;refine S1 Tryz.f405.eq_1 ?_;refine ot (G:=λx=>cJ 0 x) 0 (λi T Y=>T 2=iV 0/\ T 3=iV (-1)/\ Y=h) ?_ ?_ ?_;exact avo;intro i T Y g;exact absurd g<|gH _;rintro T Y ⟨k,A,rfl⟩;have:ax ((0:Int)< -1)=ab:=rfl;refine Z0 ?_;exact awm
 obtain⟨Y,C,rfl⟩:=l;exact pW Tg ZB aX C
def aqj(w:cV)(h:H)(L:List bo)(s v md:Nat)(B:h.o s=⟨v,md,.cells ab ab 68 2<|L.map bm⟩)(Z:aA L<1048576):∃h',(vW VP).i 405 35 [.bh s v 0<|aA L] w h=.ok (.bn [],h')/\ h'.y=h.y/\ (∃m,h'.o s=⟨v,m,.cells ab ab 68 2<|L.reverse.map bm⟩)/\ ∀q,q≠s->h'.o q=h.o q:=by
 have l:∃h',ki VP Tryz.f405.results.toList (cv VP (cW VP w) 35 (VP.gk 405) (Tryz.f405.body.getD .skip) (gK [.bh s v 0<|aA L]) h)=.ok (.bn [],h')/\ (h'.y=h.y/\ (∃m,h'.o s=⟨v,m,.cells ab ab 68 2<|L.reverse.map bm⟩)/\ ∀q,q≠s->h'.o q=h.o q):=by
  refine vr ?_;have P:av .i64 ((aA L:Int)-1)=(aA L:Int)-1:=d' _ aW aW;refine S4 Tryz.f405.eq_1 @jc B P ?_;refine ot (G:=λx=>cJ 0 x) (aA L/2) (λi T h'=>T 0=.bh s v 0 (aA L)/\ T 2=iV i/\ T 3=iV ((aA L:Int)-1-i)/\ h'.y=h.y/\ (∃m,h'.o s=⟨v,m,.cells ab ab 68 2<|(nG ⟨0,[]⟩ L i).map bm⟩)/\ ∀q,q≠s->h'.o q=h.o q) ?_ ?_ ?_;refine S0 ?_;exact⟨aM,aY,⟨md,by rw[amW];exact B⟩,λq _=>trivial⟩;rintro i T h' g ⟨Y,C,A,E,⟨m,o⟩,M⟩;have⟨u,b⟩:=amY ⟨0,[]⟩ L g;have f:=amZ ⟨0,[]⟩ L g;have t:ax ((i:Int)<(aA L:Int)-1-i)=aa:=aul;have W:((nG ⟨0,[]⟩ L i).map bm)[i]?=ad (bm<|L[i]'aW):=by rw[hY,u];rfl
  have d:((nG ⟨0,[]⟩ L i).map bm)[aA L-1-i]?=ad (bm<|L[aA L-1-i]'aW):=by rw[hY,b];rfl
  have p:(aA L:Int)-1-i=((aA L-1-i:Nat):Int):=aW;have y:i<aA L:=aW;have r:aA L-1-i<aA L:=aW;have k:av .i64 (((aA L-1-i:Nat):Int)-1)=(aA L:Int)-1-(i+1:Nat):=au4;have O:(((nG ⟨0,[]⟩ L i).map bm).set i<|bm<|L[aA L-1-i]'aW).set (aA L-1-i) (bm<|L[i]'aW)=(nG ⟨0,[]⟩ L<|i+1).map bm:=by rw[<-f,sC,sC]
  have n:i<9223372036854775807:=aW;have X:av .i64 ((i:Int)+1)=((i+1:Nat):Int):=bd i n;rw[p]at t A;generalize L[i]'aW=s1 at*;generalize L[aA L-1-i]'aW=s2 at*;generalize aA L-1-i=j at*;generalize nG ⟨0,[]⟩ L (i+1)=U at*;generalize nG ⟨0,[]⟩ L i=z at*;have V:i≠j:=by simp only[c_]at t;omega
  have D:((z.map bm).set i<|bm s2)[j]?=ad (bm s2):=by rw[rz,cG V];exact d
  refine bq Y C A t o @fg @fk (eB y) (eB r) @c6 @bZ (an W<|an d<|an D<|an k<|an X O) ?_;exact⟨E,⟨_,aM⟩,M⟩;rintro T h' ⟨Y,C,A,E,⟨m,o⟩,M⟩;have t:ax (((aA L/2:Nat):Int)<(aA L:Int)-1-(aA L/2:Nat))=ab:=aul;refine S4 Y C A t ?_;rw[amX]at o;exact⟨_,aM,E,⟨m,o⟩,M⟩
 have⟨h',J,e⟩:=l;exact⟨h',pW Tg ZB aX J,e⟩
def Ep(N:List bl)(a:Nat):Int:=((N[a]?).map λt=>t.dT).getD 0
def x9(N:List bl)(a:Nat):bo:=((N[a]?).map λt=>t.bN).getD ⟨0,[]⟩
def oU(N:List bl):Nat->Nat->List bo
 |0,_=>[]
 |k+1,a=>bif ag a 0 then[]else x9 N a::oU N k (Ep N a).toNat
def iH(N:List bl)(a:Nat):List bo:=(oU N a a).reverse
def q'(N:List bl):Prop:=∀i (G:i<aA N),0<i->0<=N[i].dT/\ N[i].dT<i
def WV{N:List bl}(V:q' N){a:Nat}(b:a<aA N)(h0:0<a):(Ep N a).toNat<a:=by unfold Ep;rw[cx b];have:=V a b h0;exact at6
def aeJ{N:List bl}(V:q' N):∀(k a m:Nat),a<aA N->a<=k->a<=m->oU N k a=oU N m a:=by
 intro k
 induction k with
 |zero=>intro a m b f Y;have:a=0:=aW;subst this;cases m<;>rfl
 |succ k I=>
  intro a m b f Y
  cases m with
  |zero=>have:a=0:=aW;subst this;rfl
  |succ m=>
   unfold oU;cases e:ag a 0;have Q:0<a:=by
    cases a with
    |zero=>cases e
    |succ a=>omega
   have:=WV V b Q
   grind
   rfl
def Gl{N:List bl}(V:q' N){a p:Nat}(J:a<aA N)(h0:0<a)(M:N[a].dT=(p:Int)):oU N a a=N[a].bN::oU N p p/\ p<a:=by
 have h:=WV V J h0;have e:(Ep N a).toNat=p:=by unfold Ep;rw[cx J];show N[a].dT.toNat=p;rw[M];rfl
 rw[e]at h;refine⟨?_,h⟩;obtain⟨b,rfl⟩:∃b,a=b+1:=⟨a-1,aW⟩;rw[oU,e];have:ag (b+1) 0=ab:=rfl;rw[this,br,aeJ V b p p aW aW<|bu _];unfold x9;rw[cx J];rfl
def RN(N:List bl):oU N 0 0=[]:=rfl
def HQ{N:List bl}(V:q' N){a:Nat}(b:a<aA N)(h0:0<a):∃p:Nat,N[a].dT=(p:Int):=⟨N[a].dT.toNat,by have:=V a b h0;omega⟩
def Gk{N:List bl}(V:q' N):∀(n a:Nat),a<=n->a<aA N->aA (oU N a a)<=a:=by
 intro n
 induction n with
 |zero=>intro a h _;have:a=0:=aW
        subst this;exact bu _
 |succ n I=>
  intro a r b;by_cases Q:a=0;subst Q;exact auS;have⟨p,M⟩:=HQ V b aW;have⟨e,O⟩:=Gl V b aW M
  grind
def T8(b:Nat)(e:b<7000)(C:lD (b*1000+5)=ab)(G:lD (b*1000+7)=ab)(w:cV)(h:H)(g:aL)(o:aA g<1048576):∃d,(vW VP).i 208 b [iL g] w h=.ok (iL g,d)/\ d.y=h.y/\ ∀q,q≠b*1000+5->d.o q=h.o q:=by
 have Q:ai 7000 b=ab:=by cases M:ai 7000 b;rfl;have:=Cs M;omega
 cases g with
 |nil=>exact⟨h,nw Bj<|by show mJ 3 1 b [.fz []] h=_;simp only[mJ,mO,cq,e8,aO,Q];rfl,aM,λq _=>rfl⟩
 |cons a g=>have l:aA ([iV a]::g.map iC)<536870912:=awY;have P:ah (aA<|[iV a]::g.map iC) (2^29)=aa:=at2;have p:ag [iV a].length 1=aa:=rfl;refine⟨fM ((h.new (b*1000+5)<|.cells ab ab 3 1 []).new (b*1000+5)<|.cells ab ab 3 1<|[iV a]::g.map iC)<|b*1000+5,nw Bj ?_,?_,λq M=>?_⟩;show mJ 3 1 b [.fz<|[iV a]::g.map iC] h=_;exact avW;rw[vz];rfl;exact auy
def b28:0*1000+27+1=28:=rfl
def TO{a:Nat}(h:0<a):ax ((0:Int)<(a:Int))=aa:=aul
def LH:ax ((0:Int)<((0:Nat):Int))=ab:=rfl
def mw{N:List bl}{a:Nat}(b:a<aA N)(h:H):cF h (ae,6) (.fz<|N.map c8) (a:Int)=.ok (.bA (c8 N[a]) 0):=db (s:=6) c8 N a b
def aa5(N:List bl)(a:Nat)(b:a<aA N)(i:hU N)(V:q' N):aS VP 353 [.agg<|dA N,iV a] (.agg<|lC<|iH N a):=by
 have g0:aA N<1048576:=i.1;refine gO Tryz.f353.eq_1 λw y=>?_;refine S0 ?_;refine Bx (F:=λx=>dC VP _<|dL (cJ 0 x) _) (I:=λn T h=>n<aA N/\ T 1=iV n/\ T 2=.aR 2 1 0 0/\ T 4=.aR 4 1 0 0/\ T 5=.aR 5 1 0 0/\ h.o 2=⟨1,0,.cells aa ab 38 1 [dA N]⟩/\ h.o 4=⟨1,0,.cells aa ab 316 1 [[.nil]]⟩/\ h.y=y/\ ∃G v U,h.o 5=⟨1,U,.cells aa ab 316 1 [[b9 (G.map bm) 30 v]]⟩/\ b6 (h.o 30) (G.map bm) v 68 2/\ G++oU N n n=oU N a a) ?_ a ⟨b,aug,aug,aug,aug,aug,aug,aug,[],0,0,avo,⟨aug,λh=>absurd aM h⟩,rfl⟩;have k:=b;rintro n T h ⟨r,J,W,j,u,O,D,E,G,v,U,Y,b,P⟩;by_cases h0:n=0;subst h0;rw[RN,ea]at P;have X:iH N a=G.reverse:=by unfold iH;rw[P]
 have c0:aA G<1048576:=by rw[P];exact Pm (Gk V a a (bu _) k) aW
 rw[X];by_cases C:G=[];subst C;have X:=aqk w h;have B:b9 (([]:List bo).map bm) 30 v=.nil:=rfl;rw[B]at Y;refine eN J W j u O D Y @LH @Ue @Qn X ?_;rw[E];rfl;have⟨L,m⟩:=b.2 (by simpa using C);have⟨M,X,d0,⟨m2,Q⟩,a0⟩:=aqj w h G 30 v L m c0;have B:b9 (G.map bm) 30 v=.bh 30 v 0 (aA G):=by
  cases G with
  |nil=>exact absurd aM C
  |cons c l=>show VV.bh _ _ 0 (aA<|(c::l).map bm)=_;rw[bj]
 rw[B]at Y;have S:M.o 5=⟨1,U,.cells aa ab 316 1 [[.bh 30 v 0<|aA G]]⟩:=by rw[a0 _ aT,Y]
 have q:M.o 4=⟨1,0,.cells aa ab 316 1 [[.nil]]⟩:=by rw[a0 _ aT,D]
 have s:ai (aA G) (aA G.reverse)=aa:=by rw[qs];exact iE<|bu _
 have o:ar (aA G) (au 0<|G.reverse.map bm)=G.reverse.map bm:=by rw[e6,eM<|by rw[bj,qs];exact auS]
 refine bq J W j u O D Y @LH @Ue @Qn X (an q<|an S<|an Q<|an s<|an o @bZ) ?_;rw[d0,E];have⟨p,b0⟩:=HQ V r aW;have⟨e,z⟩:=Gl V r aW b0;have f:=mw r;have e0:=(i.2 _<|bD r).1;have Z:=TO (a:=n) aW;rw[e]at P;generalize N[n]=t at*;have⟨d,c1,f0,g⟩:=T8 28 aT aT aT w ((h.new 6<|.cells aa ab 68 2 [[iV 0,.nil]]).mod 6<|.cells aa ab 68 2 [[iV t.bN.da,iL t.bN.bH]]) t.bN.bH e0;have S:d.o 5=⟨1,U,.cells aa ab 316 1 [[b9 (G.map bm) 30 v]]⟩:=by rw[g _ aT];refine N0 ?_;exact Y
 have p6:d.o 6=⟨(h.o 6).ver+1,1,.cells aa ab 68 2 [[iV t.bN.da,iL t.bN.bH]]⟩:=by rw[g _ aT];exact auy
 have p2:d.o 2=⟨1,0,.cells aa ab 38 1 [dA N]⟩:=by rw[g _ aT];refine N0 ?_;exact O
 have q:d.o 4=⟨1,0,.cells aa ab 316 1 [[.nil]]⟩:=by rw[g _ aT];refine N0 ?_;exact D
 have A:d.o 30=h.o 30:=by rw[g _ aT];exact auy
 rw[<-A]at b;have r:aA (G.map bm)<536870912:=by have:=np aA P;rw[cN,cr]at this;have:=Gk V a a (bu _) k;exact auC
 refine bq J W j u O D Y f Z b0 @ua (an @b28<|an c1<|an S<|an p6<|an p2<|an q<|an @dW<|an @cC<|an @QK<|iM b r) ?_;refine⟨p,z,aW,rfl,by rw[f0];exact E,G++[t.bN],v+1,U+1,by rw[dg];rfl,?_,by rw[eF];exact P⟩;rw[dg,b.1];exact auh
def afy{h:H}{es:aB}{s v eT sz:Nat}(b:b6 (h.o s) es v eT sz):kF h (b9 es s v)=.ok (ab,es):=by
 cases es with
 |nil=>rfl
 |cons e es=>have⟨U,B⟩:=b.2 aY;show kF h (.bh s v 0<|aA<|e::es)=_;have X:ai (0+aA (e::es)) (aA<|e::es)=aa:=avx;simp only[GB,kJ,B,jb,aO,X,a8,e6,bP]
def Ob{P:VT}{c:Vm.VC}{Q:Nat}{d:Option Tmp}{g:Bool}{ty:Nat}{p:String}{a:Array Edge}{T:Vg}{h:H}(t n:Nat)(O:Array<|Nat×Operand)(s:P.km (dk Q d)=aa)(C:P.xa (dk Q d)=aa):ec P c Q g ⟨d,.buildSlice t n O,ty,p,a,ae⟩ T h=lq T h d g (aO (h_ P.D h (bS T) (.buildSlice t n O)<|nq (dk Q d) h) λp=>.ok (p.1,l6 (dk Q d) p.2)):=by have e:ec P c Q g ⟨d,.buildSlice t n O,ty,p,a,ae⟩ T h=lq T h d g (te P h (bS T) (.buildSlice t n O)<|dk Q d):=bL aM;exact awN
def s4(d:Nat):dk 4 (ad d)=4000+d:=rfl
def acI:VP.h5 230=4:=rfl
def aaJ(N:List bl)(a:Nat)(b:a<aA N)(P:hU N)(V:q' N):aS VP 230 [.agg<|dA N,iV a] (.agg<|lC<|iH N a):=by
 have k0:aA N<1048576:=P.1;refine mQ agn apO λw y=>?_;refine S3 Tryz.f230.eq_1 @acI @s4 ?_;refine Bx (F:=λx=>dC VP _<|dL (cJ 0 x) _) (I:=λn T h=>n<aA N/\ T 1=iV n/\ T 2=.aR 4002 1 0 0/\ T 4=.aR 4004 1 0 0/\ T 5=.aR 4005 1 0 0/\ h.o 4002=⟨1,0,.cells aa ab 38 1 [dA N]⟩/\ h.o 4004=⟨1,0,.cells aa ab 316 1 [[.nil]]⟩/\ h.y=y/\ ∃G s v U,h.o 4005=⟨1,U,.cells aa ab 316 1 [[b9 (G.map bm) s v]]⟩/\ b6 (h.o s) (G.map bm) v 68 2/\ (s=0\/ 1000000000<=s)/\ s<=4015+1000000000*(h.o 4015).ver/\ (oU N n n).reverse++G=iH N a) ?_ a ⟨b,aug,aug,aug,aug,aug,aug,aug,[],0,0,0,avo,⟨aug,λh=>absurd aM h⟩,.inl rfl,kQ _,ea _⟩;have k:=b;rintro n T h ⟨hn,i,g,S,c,O,J,l,G,s,v,U,Y,b,l0,a0,C⟩;have b0:aA G<1048576:=by have:=np aA C;unfold iH at this;rw[cN,qs,qs]at this;have:=Gk V a a (bu _) k;omega
 by_cases h0:n=0;subst h0;rw[RN,List.reverse_nil,b7]at C;rw[<-C];have c0:s≠4004:=aW;exact eN i g S c @s4 O J Y @LH (gf b) l tr;have⟨p,M⟩:=HQ V hn aW;have⟨e,m⟩:=Gl V hn aW M;have r:=mw hn;have d0:=(P.2 _<|bD hn).1;have q:=TO (a:=n) aW;rw[e,Pd,eF]at C;generalize e0:N[n]=t at*;refine bq i g S c @s4 O J Y r q M (an ((aaF t.bN d0).bE) @Ob) ?_;obtain⟨D,Z⟩:∃D,D=nq 4015 h:=⟨_,Eq.refl _⟩;have f0:D=4015+1000000000*((h.o 4015).ver+1):=Z;rw[<-Z];have Q:1000000000<=D/\ s≠D/\ s≠4015:=aW;have⟨E,X,A⟩:=Q;generalize f:(h.o D).ver+1=W;obtain⟨L,j⟩:∃L,L=l6 4015 (h.new D<|.cells ab ab 68 2 [bm t.bN]):=⟨_,Eq.refl _⟩;have q5:L.o 4005=⟨1,U,.cells aa ab 316 1 [[b9 (G.map bm) s v]]⟩:=by rw[j,hN (hn:=aW),dE (hn:=aW),Y]
 have q4:L.o 4004=⟨1,0,.cells aa ab 316 1 [[.nil]]⟩:=by rw[j,hN (hn:=aW),dE (hn:=aW),J]
 have q2:L.o 4002=⟨1,0,.cells aa ab 38 1 [dA N]⟩:=by rw[j,hN (hn:=aW),dE (hn:=aW),O]
 have B:L.o D=⟨W,0,.cells ab ab 68 2 [bm t.bN]⟩:=by rw[j,hN (hn:=aW),jt,f]
 have g0:L.o s=h.o s:=by rw[j,hN (hn:=A),dE (hn:=X)]
 have i0:(L.o 4015).ver=(h.o 4015).ver+1:=by rw[j,sT,dE (hn:=aW)]
 have j0:L.y=y:=by rw[j];exact l
 show ew (cJ 1<|dL (aO (aO (bif ((l6 4015<|h.new D<|.cells ab ab 68 2 [bm t.bN]).o 4005).ver.beq 1 then _ else _) _) _) _) _;rw[<-j];clear j Z;rw[<-g0]at b;have z:∀d,kR VP.D L 312 312 (.bh D W 0 1) (b9 (G.map bm) s v) d=.ok (b9 ((t.bN::G).map bm) D<|W+1,L.new D<|.cells ab ab 68 2<|(t.bN::G).map bm):=λd=>by have:=JZ (D:=VP.D) (t:=312) (u:=312) (d:=d) (es:=[bm t.bN]) (new:=G.map bm) (s:=D) (ver:=W) (eT:=68) (sz:=2) (h:=L) (y:=b9 (G.map bm) s v) (by rw[B];exact⟨aM,λ_=>⟨0,aM⟩⟩) aY aY auC (afy b) JX<|TY _;exact aw0
 refine bq i g S c @s4 O J Y q5 q4 @q2 (an e0<|an M z) ?_;refine⟨p,m,aW,rfl,j0,t.bN::G,D,W+1,U+1,rfl,?_,.inr E,by rw[i0,f0];exact auS,by rw[<-C];rfl⟩;rw[gv (hn:=aW),jt,B];exact auh
def alD{n:Nat}{N:Nat->Nat->Int}(X:Go.Sort.SWO<|λx y=>decide (N x y<0)):(j_ n N).Perm (ao n)/\ ∀i j (G:i<j) (u:j<aA (j_ n N)),¬N (j_ n N)[j] (j_ n N)[i]<0:=by
 have⟨⟨h,_,a⟩,d⟩:=Go.Sort.pdq_sorts (α:=Nat) (λx y=>decide (N x y<0)) X (Array.range n) 0 n (Lib.bitLen n) aa aa (kQ _) (by rw[Fh];exact auS)<|.inl aM;have s:(Go.Sort.pdq (λx y=>decide (N x y<0)) (Array.range n) 0 n (Lib.bitLen n) aa aa).size=n:=by rw[h,Fh]
 unfold j_;refine⟨?_,λi j G u=>?_⟩;have g:=Array.extract_size (xs:=Go.Sort.pdq (λx y=>decide (N x y<0)) (Array.range n) 0 n (Lib.bitLen n) aa aa);rw[s]at g;have C:=Array.extract_size (xs:=Array.range n);rw[Fh]at C;rw[g,C,Array.toList_range]at a;exact a;rw[Fg,s]at u;have:=d i j (kQ _) G u;rw[vx _ j<|by rw[s];exact u,vx _ i<|by rw[s];omega]at this;simp only[Array.getElem_toList];exact of_decide_eq_false this
def agv:VZ.D.func 404=ad Tryz.f404:=aV
def apW:fp VZ 404 3=aa:=aV
def akT:VZ.gk 404 1=[]:=aV
def agC:vv VZ.D 38 0=.ok 0:=aV
def agD:vv VZ.D 70 4=.ok 5:=aV
def aob:qe VZ.D 36=.ok ae:=aV
def aoc:qe VZ.D 3=.ok ae:=aV
def anW:sh VZ.D 36=.ok (ae,6):=aV
def asL(N:List bl){a b:Nat}(J:a<aA N)(e:b<aA N)(h1:0<=N[a].cc/\ N[a].cc<9223372036854775808)(p:0<=N[b].cc/\ N[b].cc<9223372036854775808):aS VZ 404 [iV a,iV b,.bA (dA N) 0] (iV<|N[a].cc-N[b].cc):=by have x:=mw J;have Q:=mw e;have P:av .i64 (N[a].cc-N[b].cc)=N[a].cc-N[b].cc:=d' _ aW aW;generalize N[a]=s at*;generalize N[b]=t at*;refine GP agv apW λw y=>?_;exact Z7 Tryz.f404.eq_1 @akT @agC @agD @aob @aoc @anW tr
def aoL{L:aL}(h0:∀x∈L,0<=x/\ x<aA L)(s:∀i j (G:i<j) (p:j<aA L),L[i]<L[j]):∀i (G:i<aA L),L[i]=(i:Int):=by
 have n:∀i (G:i<aA L),(i:Int)<=L[i]:=by
  intro i
  induction i with
  |zero=>intro G;exact(h0 _<|bD G).1
  |succ i I=>intro G;have:=I aW;have:=s i (i+1) aW G;omega
 have u:∀k i (G:i<aA L),aA L=i+1+k->L[i]<=(i:Int):=by
  intro k
  induction k with
  |zero=>intro i G e;have:=(h0 _<|bD G).2;omega
  |succ k I=>intro i G e;have:=I (i+1) aW aW;have:=s i (i+1) aW aW;omega
 intro i G;have:=n i G;have:=u (aA L-(i+1)) i G aW;omega
def kl(N:List bl)(a:Nat):Int:=((N[a]?).map λt=>t.cc).getD<|-1
def uo{N:List bl}{a:Nat}(b:a<aA N):kl N a=N[a].cc:=by unfold kl;rw[cx b];rfl
def kX(N:List bl):List Nat:=(ao<|aA N).filter<|gD N
def Dg{N:List bl}{a:Nat}:a∈kX N↔∃b:a<aA N,N[a].dJ=aa:=by unfold kX gD;rw[List.mem_filter,lS];constructor;rintro⟨h,p⟩;rw[cx h]at p;exact⟨h,p⟩;rintro⟨h,p⟩;rw[cx h];exact⟨h,p⟩
structure nD(N:List bl):Prop where
 l:aA N<=769
 p:q' N
 e:∀i (hi:i<aA N),N[i].dJ=ax (0<=N[i].cc)
 b:∀i (hi:i<aA N),0<=N[i].cc->N[i].cc<aA (kX N)
 d:∀i j (hi:i<aA N) (hj:j<aA N),0<=N[i].cc->N[i].cc=N[j].cc->i=j
structure pd(N:List bl)(S:List Nat):Prop where
 n:aA S=aA (kX N)
 a:∀i (hi:i<aA S),∃ha:S[i]<aA N,N[S[i]].cc=(i:Int)
def pd.at{N:List bl}{S:aK}(h:nD N)(k:pd N S){j i:Nat}(u:j<aA N)(G:i<aA S)(e:N[j].cc=(i:Int)):S[i]=j:=by have⟨b,C⟩:=k.a i G;exact h.d _ _ b u aW aW
def WO{N:List bl}{S:aK}(h:nD N)(M:S.Perm<|kX N)(s:∀i j (G:i<j) (u:j<aA S),kl N S[i]<=kl N S[j]):pd N S:=by
 have n:=M.length_eq;have m:∀a∈S,∃b:a<aA N,N[a].dJ=aa:=λa b=>Dg.1<|M.mem_iff.1 b;have r:S.Nodup:=M.nodup_iff.2<|List.nodup_range.filter _;have A:∀a∈S,0<=kl N a/\ kl N a<aA S:=λa b=>by have⟨V,p⟩:=m a b;rw[uo V,n];rw[h.e a V]at p;have p:=tm p;exact⟨p,h.b a V p⟩
 have z:=aoL (L:=S.map<|kl N) (λx U=>by
  obtain⟨a,b,rfl⟩:=fv.1 U;rw[bj];exact A a b) (λi j G u=>by
  rw[bj]at u;rw[fK,fK];have V:=s i j G u;have l:kl N S[i]≠kl N S[j]:=λe=>by
   have⟨C,_⟩:=m _<|bD<|show i<aA S by omega
   have⟨D,_⟩:=m _<|bD u;have Q:=(A _<|bD<|show i<aA S by omega).1;rw[uo C]at Q;rw[uo C,uo D]at e;have:=h.d _ _ C D Q e;have:=(List.getElem_inj r).1 this;omega
  omega)
 refine⟨n,λi G=>?_⟩;have⟨V,_⟩:=m _<|bD G;refine⟨V,?_⟩;have:=z i (by rw[bj];exact G);rw[fK,uo V]at this;exact aw0
def ak6{N:List bl}{S:aK}(P:aA N<=769)(V:q' N)(f:∀i (G:i<aA N),N[i].dJ=ax (0<=N[i].cc))(p:S.Perm<|kX N)(s:∀i (G:i<aA S),kl N S[i]=(i:Int)):nD N/\ pd N S:=by
 have n:=p.length_eq;have A:∀j (u:j<aA N),0<=N[j].cc->∃i,∃G:i<aA S,S[i]=j/\ N[j].cc=(i:Int):=λj u Q=>by have:j∈S:=p.mem_iff.2<|Dg.2 ⟨u,by rw[f j u];exact gu Q⟩;have⟨i,G,e⟩:=zZ this;refine⟨i,G,e,?_⟩;have:=s i G;rw[e,uo u]at this;exact aw0
 refine⟨⟨P,V,f,λj u Q=>?_,λj k u B Q e=>?_⟩,⟨n,λi G=>?_⟩⟩;have⟨i,G,_,e⟩:=A j u Q;rw[e,<-n];omega;have⟨i,G,g,C⟩:=A j u Q;have⟨l,P,Z,q⟩:=A k B aW;have:i=l:=aW;subst this;rw[<-g,<-Z];have⟨h,_⟩:=Dg.1<|p.mem_iff.1<|bD G;refine⟨h,?_⟩;have:=s i G;rwa[uo h]at this
abbrev nL(S:List Nat):VV:=.fz<|S.map λa=>[iV (a:Nat)]
def k7(N:List bl):Prop:=∀t∈N,t.cc<9223372036854775808
def Ze{N:List bl}{E:aK}(h0:E≠[])(h1:aA E<1048576)(T:∀a∈E,∃b:a<aA N,0<=N[a].cc)(l:k7 N):∃S:aK,S.Perm E/\ (∀i j (p:i<j) (u:j<aA S),kl N S[i]<=kl N S[j])/\
 ∀(h:H) (s ver md e:Nat),s≠1->h.o 1=⟨1,0,.cells aa ab 38 1 [dA N]⟩->h.o s=⟨ver,md,.cells ab ab e 1<|E.map λa=>[iV (a:Nat)]⟩->qg VZ ab 1 [.bh s ver 0<|aA E,.func 404 [] [.aR 1 1 0 0]] h=.ok (.bn [],h.mod s<|.cells ab ab e 1<|S.map λa=>[iV (a:Nat)]):=by
 have t:0<aA E:=by cases E with
  |nil=>exact absurd aM h0
  |cons a E=>exact Pp _
 let pk:Nat->Nat:=λi=>E.getD (if i<aA E then i else 0) 0
 have P:∀i,pk i∈E:=λi=>by
  show E.getD _ 0∈E;have:(if i<aA E then i else 0)<aA E:=by split<;>assumption
  rw[pz,cx this];exact bD this
 have g:∀i,n' (E.map λa=>[iV (a:Nat)]) i=[iV (pk i:Nat)]:=λi=>by
  unfold n';rw[bj];have:(if i<aA E then i else 0)<aA E:=by split<;>assumption
  show(E.map _).getD _ []=[iV ((E.getD _ 0:Nat):Int)];rw[pz,pz,hY,cx this];rfl
 have C:∀a∈E,∃b:a<aA N,0<=N[a].cc/\ N[a].cc<9223372036854775808:=λa b=>by have⟨O,w⟩:=T a b;exact⟨O,w,l _<|bD O⟩
 have o:∀i j,aS VZ 404 (AU ab (n' (E.map λa=>[iV (a:Nat)]) i)::AU ab (n' (E.map λa=>[iV (a:Nat)]) j)::[.bA (dA N) 0]) (iV<|kl N (pk i)-kl N (pk j)):=λi j=>by rw[g,g];have⟨B,v⟩:=C _<|P i;have⟨L,k⟩:=C _<|P j;rw[uo B,uo L];exact asL N B L v k
 have c:Go.Sort.SWO λx y=>decide (kl N (pk x)-kl N (pk y)<0):=by refine⟨λx=>aY,λx y z h1 Y=>?_,λx y z h1 Y=>?_⟩;exact aww;simp only[cE]at*;omega
 have G:∃U,C_ VZ ab 404 [.bA (dA N) 0] (E.map λa=>[iV (a:Nat)]) U:=⟨_,o,c⟩;have F:∀i j,G.choose i j=kl N (pk i)-kl N (pk j):=λi j=>by have O:=G.choose_spec.1 i j default [];have w:=o i j default [];rw[w]at O;exact(np (λr:R (VV×aB)=>match r with|.ok (.aN<|.int _ n,_)=>n|_=>0) O).symm
 have V:=G.choose_spec.2;have⟨m,I⟩:=alD (n:=aA E) V;have J:=m.length_eq;rw[nN]at J;have f:(ao<|aA E).map pk=E:=by apply uT;intro i;by_cases p:i<aA E;rw[hY,Jk p];show ad (E.getD _ 0)=_;rw[b8 p,pz,cx p];rfl;rw[mE<|by rw[bj,nN];omega,mE aW]
 refine⟨(j_ (aA E) G.choose).map pk,?_,λi j p u=>?_,λh s ver md e d X Q=>?_⟩;have:=m.map pk;rwa[f]at this;rw[bj]at u;rw[fK,fK];have:=I i j p u;rw[F]at this;omega;have A:gB h s ver=.ok (ab,ab,e,1,E.map λa=>[iV (a:Nat)]):=by rw[kJ,Q];exact jb _ _ _ _ _ _ _
 have Z:d_ (cq h e8) [.aR 1 1 0 0]=.ok ([.bA (dA N) 0],[1]):=by show aO (aO (qD h 1 1 0) λM=>aO (d_ (cq h 11) M) λq=>.ok (VV.bA q.1 0,1::q.2)) _=_;simp only[qD,kJ,X,jb,aO];rfl
 unfold qg;simp only[A,aO,Z];have W:(ab=ab/\ ab=ab/\ 1=1/\ aA E=aA (E.map λa=>[iV (a:Nat)])/\ 0<aA E/\ aA E<2^62/\ s∉[1])/\ ∃U,C_ VZ ab 404 [.bA (dA N) 0] (E.map λa=>[iV (a:Nat)]) U:=⟨⟨aM,aM,aM,by rw[bj],t,aW,by simpa using d⟩,G⟩;rw[w_ W,pB];have:(j_ (aA E) G.choose).map (n'<|E.map λa=>[iV (a:Nat)])=(j_ (aA E) G.choose).map ((λa:Nat=>[iV (a:Nat)])∘pk):=sB λi _=>g i;rw[this]
def pd.IJ{N:List bl}{S S':aK}(h:nD N)(k:pd N S)(e:pd N S'):S=S':=by apply List.ext_getElem (by rw[k.n,e.n]);intro i G P;have⟨V,p⟩:=e.a i P;exact k.at h V G p
def Df(N:List bl):aA (kX N)<=aA N:=by have:=tF (gD N)<|ao<|aA N;rwa[nN]at this
def Sc{N:List bl}(h:∀i (G:i<aA N),N[i].dJ=ax (0<=N[i].cc)):∀a∈kX N,∃b:a<aA N,0<=N[a].cc:=λa b=>by have⟨V,p⟩:=Dg.1 b;exact at6
def GA{N:List bl}(h:nD N)(l:k7 N):∃S,pd N S:=by by_cases Q:kX N=[];exact⟨[],by rw[Q],λi G=>absurd G<|gH _⟩;have⟨S,V,a,_⟩:=Ze Q (by have:=Df N;have:=h.l;omega) (Sc h.e) l;exact⟨S,WO h V a⟩
abbrev nC(a:Nat):List VV:=[iV (a:Nat)]
def SI{p:Nat->Bool}{i:Nat}:(ao<|i+1).filter p=(ao i).filter p++(bif p i then[i]else[]):=by
 rw[wE,ry]
 grind
def ahS:og VP 403=aa:=rfl
def b52:0*1000+51+1=52:=rfl
def UG:VP.nv 403=ad λ_=>qg VZ ab 1:=rfl
def Ai(l:aK):aA (l.map nC)=aA l:=bj _
def abF{es S:aB}{s v:Nat}(h:aA es=aA S):b9 es s v=b9 S s v:=by
 cases es with
 |nil=>cases S with
  |nil=>rfl
  |cons _ _=>cases h
 |cons a es=>cases S with
  |nil=>cases h
  |cons b S=>show VV.bh s v 0 (aA<|a::es)=.bh s v 0 (aA<|b::S);rw[h]
def Vl{h:H}{es:aB}{s v eT sz:Nat}(b:b6 (h.o s) es v eT sz):rZ h (b9 es s v)=.ok (iV<|aA es):=by
 cases es with
 |nil=>rfl
 |cons e es=>have⟨U,B⟩:=b.2 aY;show rZ h (.bh s v 0<|aA<|e::es)=_;rw[jc,kJ,B];simp only[jb,aO]
def aa4(N:List bl)(C0:hU N)(D0:k7 N)(r:VV)(i0:(∀S,nD N->pd N S->r=.bn [nL S,bV aa])/\ (¬nD N->r=.bn [.fz [],bV ab])):aS VP 352 [.agg<|dA N] r:=by
 have H0:aA N<1048576:=C0.1;refine gO Tryz.f352.eq_1 λw y=>?_;cases c:ax<|769<(aA N:Int);have c:aA N<=769:=by rw[cE]at c;omega
 have k0:ax (769<(aA N:Int))=ab:=auI;refine S1 k0 ?_;refine lF 0 (aA N) (λi T h=>T 1=.aR 1 1 0 0/\ T 14=.fz (N.map c8)/\ T 15=iV (aA N)/\ T 16=iV i/\ h.o 1=⟨1,0,.cells aa ab 38 1 [dA N]⟩/\ h.y=y/\ (∀j (u:j<aA N),j<i->(0<j->0<=N[j].dT/\ N[j].dT<j)/\ N[j].dJ=ax (0<=N[j].cc))/\ ∃v,T 4=b9 (((ao i).filter<|gD N).map nC) 47 v/\ b6 (h.o 47) (((ao i).filter<|gD N).map nC) v 3 1) ?_ ?_ ?_;exact avH;rintro i T h G ⟨J,M,F,g,U,z,j0,v,o,b⟩;have P:i<9223372036854775807:=aW;have x:=mw G;have l0:aA (((ao i).filter<|gD N).map nC)<536870912:=by rw[Ai];have:=tF (gD N)<|ao i;rw[nN]at this;omega
 have O:=SI (p:=gD N) (i:=i);have m0:gD N i=N[i].dJ:=by unfold gD;rw[cx G];rfl
 have Z:¬((0<i->0<=N[i].dT/\ N[i].dT<i)/\ N[i].dJ=ax (0<=N[i].cc))->r=.bn [.fz [],bV ab]:=λl0=>i0.2 λh=>l0 ⟨λQ=>h.p i G Q,h.e i G⟩;have Y:(0<i->0<=N[i].dT/\ N[i].dT<i)/\ N[i].dJ=ax (0<=N[i].cc)->∀j (u:j<aA N),j<i+1->(0<j->0<=N[j].dT/\ N[j].dT<j)/\ N[j].dJ=ax (0<=N[j].cc):=λq j u f=>by by_cases o0:j=i;subst o0;exact q;exact j0 j u aW
 rw[m0]at O;generalize N[i]=t at*;cases C:(ax (0<(i:Int))&&(ax (t.dT<0)||ax ((i:Int)<=t.dT)))||(t.dJ !=ax (0<=t.cc));have q:(0<i->0<=t.dT/\ t.dT<i)/\ t.dJ=ax (0<=t.cc):=by
  rw[gz,OH,gz]at C;have⟨h1,l⟩:=C;simp only[cE]at h1;refine⟨λQ=>?_,by simpa[bne]using l⟩
  rcases h1 with h1|h1<;>omega
 have n:=Y q;refine eN J M F g o U (a6 G) x @bd C (iM b l0) ?_;refine⟨λd=>⟨z,n,v+1,?_⟩,λd=>⟨z,n,v,?_⟩⟩;rw[O,d,a8,dg,b.1];exact⟨aM,b6.next⟩;rw[O,d,br,ea];exact⟨aM,b⟩;have p0:=Z λq=>by
  have⟨h1,l⟩:=q;rw[iB,bW,iB]at C;simp only[c_]at C
  rcases C with⟨L,h4⟩|L
  have:=h1 aW;omega;rw[l]at L;simp at L
 rw[p0];refine fm J M F g o U (a6 G) x @bd C ?_;rw[z];rintro T h ⟨J,M,F,g,U,z,j0,v,o,b⟩;have E0:q' N:=λj u Q=>(j0 j u u).1 Q;have A0:∀i (G:i<aA N),N[i].dJ=ax (0<=N[i].cc):=λj u=>(j0 j u u).2;change T 4=b9 ((kX N).map nC) 47 v at o;change b6 (h.o 47) ((kX N).map nC) v 3 1 at b;obtain⟨S1,V,r0,k,a0,b0,P,D⟩:∃S1:aK,S1.Perm (kX N)/\ (∀i j (G:i<j) (u:j<S1.length),kl N S1[i]<=kl N S1[j])/\ ∃k:H,k.y=y/\ k.o 1=⟨1,0,.cells aa ab 38 1 [dA N]⟩/\ b6 (k.o 47) (S1.map nC) v 3 1/\ (vW VP).i 403 52 [b9 ((kX N).map nC) 47 v,.func 404 [] [.aR 1 1 0 0]] w h=.ok (.bn [],k):=by
  by_cases Q:kX N=[];rw[Q]at b|-;exact⟨[],List.Perm.refl _,λi j G u=>absurd u<|gH _,h,z,U,b,nw UG aM⟩;have⟨S1,h1,l,L⟩:=Ze Q (by have:=Df N;omega) (Sc A0) D0;have⟨s0,t0⟩:=b.2 (by simpa using Q);have c:=L h 47 v s0 3 aT U t0;have B:b9 ((kX N).map nC) 47 v=.bh 47 v 0 (aA<|kX N):=by
   cases u0:kX N with
   |nil=>exact absurd u0 Q
   |cons a E=>show VV.bh 47 v 0 (aA<|(a::E).map nC)=_;rw[Ai]
  rw[B];exact⟨S1,h1,l,h.mod 47<|.cells ab ab 3 1<|S1.map nC,z,U,⟨by rw[qL,t0],λ_=>⟨s0+1,by rw[qL,t0]⟩⟩,nw UG c⟩
 have v0:=V.length_eq;have F0:=Df N;have c0:b9 ((kX N).map nC) 47 v=b9 (S1.map nC) 47 v:=abF (by rw[Ai,Ai,v0]);have w0:rZ k (b9 (S1.map nC) 47 v)=.ok (iV S1.length):=by rw[<-Ai S1];exact Vl P
 rw[c0]at o D;refine eN J M F g o U @ee @ahS @b52 D w0 ?_;refine lF 2 S1.length (λi T h=>T 1=.aR 1 1 0 0/\ T 4=b9 (S1.map nC) 47 v/\ T 52=b9 (S1.map nC) 47 v/\ T 53=iV S1.length/\ T 54=iV i/\ h=k/\ ∀j (u:j<S1.length),j<i->kl N S1[j]=(j:Int)) ?_ ?_ ?_;refine S2 J o ?_;exact avd;rintro i T h G ⟨J,o,A,s,m,rfl,d⟩;have G0:i<9223372036854775807:=aW;have⟨s0,d0⟩:=P.2 (by intro e;rw[Jn]at e;rw[e]at G;exact absurd G<|gH _);have B:b9 (S1.map nC) 47 v=.bh 47 v 0 S1.length:=by
  cases x0:S1 with
  |nil=>rw[x0]at G;exact absurd G<|gH _
  |cons a E=>show VV.bh 47 v 0 (aA<|(a::E).map nC)=_;rw[Ai]
 have⟨B0,_⟩:=Dg.1<|V.mem_iff.1<|bD G;have X:(S1.map nC)[i]?=ad [iV (S1[i]:Nat)]:=by rw[hY,cx G];rfl
 have x:=mw B0;have e0:=uo B0;have f0:kl N S1[i]=(i:Int)->∀j (u:j<S1.length),j<i+1->kl N S1[j]=(j:Int):=λh j u f=>by by_cases o0:j=i;subst o0;exact h;exact d j u aW
 rw[B]at o A|-;rw[e0]at f0;have W:N[S1[i]].cc≠(i:Int)->r=.bn [.fz [],bV ab]:=λy0=>i0.2 λz0=>by have⟨_,e⟩:=(WO z0 V r0).a i G;exact y0 e
 generalize S1[i]=a at*;generalize N[a]=t at*;cases g0:t.cc !=(i:Int);have I:t.cc=(i:Int):=by simpa[bne]using g0
 refine bq J o A s m b0 d0 @fg @fk (a6 G) (eB G) (an @c6<|an @bZ<|an X<|an x<|an g0 @bd) ?_;exact λj u f=>f0 I j u f;have I:t.cc≠(i:Int):=by intro e;rw[e]at g0;simp at g0
 rw[W I];exact bq J o A s m b0 d0 @fg @fk (a6 G) (eB G) (an @c6<|an @bZ<|an X<|an x<|an g0<|an @bd a0) tr;rintro T h ⟨J,o,A,s,m,rfl,d⟩;have⟨k1,k2⟩:=ak6 c E0 A0 V λi G=>d i G G;rw[i0.1 S1 k1 k2];exact S8 J o A s m @ee (gf P) a0 tr;have W:¬nD N:=λh=>by rw[c_]at c;have:=h.l;omega
 rw[i0.2 W];exact S2 Tryz.f352.eq_1 c tr
