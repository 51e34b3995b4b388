/- The machine D, first part: a reading of the code on an abstract memory, and that its operations do what those of the model do. (Names are printed short to keep within the bounds of a claim: the readable texts lie in wip/C/src and wip/C/q of this repo, the table of names in wip/C/p/state.json.) No statement of this seat stands here, and no condition. -/
import GoSem.Step
import Derived.KernelRfl
import Derived.Laws.Sem
import Derived.Laws.Entries
import Derived.Laws.StructEq
import Derived.ChangeKeysEq
import Derived.Orders
import Derived.Laws.World
import Derived.Calls
import Derived.Laws.BytesString
import Derived.Laws.Cells
import Derived.IntWalk
import Derived.Sort.Grow
import Derived.ChangeSame
import Derived.RowKit
import Derived.Lib.BitFns
import Derived.Deep.Draws
import Derived.Maps.Own
import Derived.Below
import Derived.Laws.AppendOwn
open Bool renaming true->aa,false->ab
open Option renaming some->ad,none->ae
open And renaming intro->af
open Nat renaming beq->ag,blt->ah,ble->ai,shiftLeft->aj
open List renaming replicate->ak,range->ao,map->aq,take->ar,drop->au,length->aA
open Go.IntKind renaming wrap->av
open BitVec renaming ofInt->aw
open Decidable renaming decide->ax
open Go.Result renaming andThen_ok->ay
open Go.Sem renaming run_pure->az
set_option linter.all false
noncomputable section
namespace Go.Dt
abbrev aE:=Nat->Prop
abbrev aF:=List UInt8
abbrev aG:=Array Oper
abbrev aH:=List Oper
abbrev aK:=List Nat
abbrev aL:=List Int
def AN:=@decide_false
def Aa.{u}:=@Option.some.inj.{u}
def As.{u}:=@beq_eq_false_iff_ne.{u}
def Av.{u}:=@bne_iff_ne.{u}
def Cf:=@Bool.eq_iff_iff
def Ch:=@Iff.rfl
def Ci:=@Int.mul_le_mul
def Cn.{u,v}:=@List.flatMap_append.{u,v}
def Co.{u}:=@List.getElem?_take.{u}
def Cp.{u}:=@List.mem_iff_getElem.{u}
def Cq.{u,v}:=@List.mem_map_of_mem.{u,v}
def Cr.{u}:=@List.nodup_append.{u}
def Cs:=@Nat.le_of_ble_eq_true
def Cu:=@Nat.sub_self
def Cv:=@Nat.zero_lt_succ
def Cw.{u,v}:=@Option.bind_some.{u,v}
def Cx.{u,v}:=@Option.map_none.{u,v}
def FC.{u}:=@Option.getD_some.{u}
def FG:=@Sem.run_ite
def FI:=@Steps.refl
def Ff.{u}:=@Array.ext_getElem?.{u}
def Fg.{u}:=@Array.length_toList.{u}
def Fh:=@Array.size_range
def Fi:=@Bool.and_false
def Fj:=@Bool.eq_false_iff
def Fk:=@Bool.not_not
def Fl:=@Bool.not_or
def Fo:=@Int.toNat_zero
def Fq.{u}:=@List.all_append.{u}
def Fs.{u,v}:=@List.flatMap_nil.{u,v}
def Ft.{u}:=@List.flatten_cons.{u}
def Fu.{u}:=@List.getElem?_append_left.{u}
def Fv:=@List.getElem_range
def Fw.{u,v}:=@List.map_take.{u,v}
def Fx.{u}:=@List.mem_take_iff_getElem.{u}
def Fy.{u}:=@List.replicate_succ.{u}
def I7.{u}:=@Array.getElem?_eq_none.{u}
def I8.{u}:=@Array.getElem?_modify.{u}
def I9.{u}:=@Array.mem_toList_iff.{u}
def JC.{u}:=@Option.isSome_iff_exists.{u}
def Ja:=@Classical.byContradiction
def Jd:=@Int.add_zero
def Je.{u}:=@List.cons.injEq.{u}
def Jf.{u}:=@List.drop_left'.{u}
def Jg.{u}:=@List.drop_take.{u}
def Jh.{u,v}:=@List.filterMap_nil.{u,v}
def Ji.{u}:=@List.getElem?_append.{u}
def Jj.{u}:=@List.getElem?_append_right.{u}
def Jk:=@List.getElem?_range
def Jl.{u}:=@List.getElem_append_left.{u}
def Jm.{u,v}:=@List.map_drop.{u,v}
def Jn.{u,v}:=@List.map_eq_nil_iff.{u,v}
def Jo.{u}:=@List.mergeSort_perm.{u}
def Jp.{u}:=@List.nodup_cons.{u}
def Jq.{u}:=@List.nodup_nil.{u}
def Jr.{u}:=@List.set_cons_succ.{u}
def Js.{u}:=@List.sum_cons.{u}
def Jt.{u}:=@List.take_append_drop.{u}
def Ju.{u}:=@List.take_append_of_le_length.{u}
def Jv:=@Nat.blt_eq
def Jw:=@Nat.le_of_lt
def Jx:=@Nat.lt_or_ge
def Jy:=@Nat.min_eq_left
def Jz:=@Nat.mul_comm
def Mv:=@mem_ready
def ND:=@run_underlying
def O'.{u}:=@List.getElem_set_ne.{u}
def O5.{u}:=@List.getElem_set_self.{u}
def O6.{u,v}:=@List.map_replicate.{u,v}
def O7.{u}:=@List.mem_append_left.{u}
def O8.{u}:=@List.mem_append_right.{u}
def O9.{u,v}:=@List.pairwise_map.{u,v}
def OG.{u}:=@Array.getD_eq_getD_getElem?.{u}
def OH:=@Bool.and_eq_false_iff
def OL:=@DataW.trod_struct
def OP:=@Int.mul_nonneg
def OS.{u}:=@List.cons_ne_nil.{u}
def OT.{u}:=@List.drop_replicate.{u}
def OU.{u}:=@List.drop_succ_cons.{u}
def OV.{u}:=@List.eq_nil_or_concat.{u}
def OW.{u,v}:=@List.filterMap_cons.{u,v}
def OX.{u}:=@List.filter_congr.{u}
def OY.{u}:=@List.filter_cons.{u}
def OZ.{u}:=@List.filter_eq_self.{u}
def O_.{u}:=@List.getElem?_drop.{u}
def Pb.{u}:=@List.pairwise_mergeSort.{u}
def Pc:=@List.range'_succ
def Pd.{u}:=@List.reverse_cons.{u}
def Pe.{u}:=@List.set_cons_zero.{u}
def Pf.{u}:=@List.take_append.{u}
def Pk:=@Nat.le_add_right
def Pl:=@Nat.le_mul_of_pos_right
def Pm:=@Nat.lt_of_le_of_lt
def Pn:=@Nat.one_shiftLeft
def Po:=@Nat.pow_succ
def Pp:=@Nat.succ_pos
def Pq:=@Nat.testBit_or
def Pr.{u,v}:=@Option.bind_eq_some_iff.{u,v}
def a8.{u}:=@cond_true.{u}
def aM.{u}{a:Sort u}{b:a}:b=b:=rfl
def aT{a:Prop}(h:a:=by decide):a:=h
def aU{a:Prop}(h:a:=by grind):a:=h
def aV{a:Prop}(h:a:=by kernel_rfl):a:=h
def aW{a:Prop}(h:a:=by omega):a:=h
def aX{a:Prop}(h:a:=by rfl):a:=h
def aY{a:Prop}(h:a:=by simp):a:=h
def aZ{a:Prop}(h:a:=by simp_all):a:=h
def abq:=@Go.WideShapes.add_plain
def abr:=@Int.mul_le_mul_of_nonneg_left
def abt:=@List.pairwise_lt_range
def abu:=@List.range_eq_range'
def abv:=@Nat.div_lt_of_lt_mul
def abw:=@Nat.pow_le_pow_right
def abx:=@Nat.testBit_lt_two_pow
def at1{a:Prop}(h:a:=by exact⟨aM,aM⟩):a:=h
def at2{a:Prop}(h:a:=by
 simp only[ah,dh]
 omega):a:=h
def at3{a:Prop}(h:a:=by
 refine S9 Tryz.f394.eq_1 @ur o @s1 @s2 @s3 T y F ?_;rw[wK (ver:=v) (eT:=9) (sz:=1) (c:=[sV a.name]) (s:=s) (by refine N0 ?_;exact f) d (by exact S0 tr) FO rfl,<-D];have⟨B,z,V,A,Z,Y⟩:=N;refine bq F B z V A Z (hG B) (hG z) (hG V) (hG A) (hG Z) @KB ?_;refine⟨_,aM,⟨⟨X,?_⟩,⟨W+1,po l a.name aa,?_,λk=>?_⟩,⟨S+1,?_⟩,?_,Y⟩,aM,?_⟩;refine N0 ?_;exact T;refine N0 ?_;rw[y];rw[yS,P,zW];cases Q:k==a.name;have:(a.name==k)=ab:=by rw[yi];exact Q
 simp[this];have:=zU Q;subst this;simp;refine N0 ?_;rw[F,uJ];refine N0 ?_;rw[uJ];exact b6.next
 exact N0 tr):a:=h
def at4{a:Prop}(h:a:=by
 refine⟨C,c2,c3,λF t p0=>?_⟩;have D:(h.o F).k.hV=aa:=by
  rw[A7]at t
  cases d0:(h.o F).k with
  |none=>rw[d0]at t;exact t
  |map _=>rfl
  |cells l0 f e B N=>rw[d0]at t;simp only[VK.hV]at t|-;cases f;rfl;simp only[rm,px]at t;exact t
 have:F=s:=T.inj F s D (by rw[x];rfl) p0;subst this;rw[A7,x]at t;simp only[VK.hV]at t
 simp_all):a:=h
def at5{a:Prop}(h:a:=by simp at h):a:=h
def at6{a:Prop}(h:a:=by simp_all):a:=h
def at7{a:Prop}(h:a:=by
 simp only[RR]at h|-
 exact P _ _ h):a:=h
def at8{a:Prop}(h:a:=by rw[e6,eM (by rw[bj];exact bu _)]):a:=h
def au0{a:Prop}(h:a:=by
 rw[show i+(j+1)=i+1+j by omega]
 exact h):a:=h
def au1{a:Prop}(h:a:=by
 have I:(u9 N m !=0)=aa:=by simp[bne,P]
 rw[P]at d;rw[show mc m 0 u=13 from d]
 exact fm J c E (a6 g) f Z.aP r @vF I O tr):a:=h
def au2{a:Prop}(h:a:=by simp[Op.operands,Call.operands]):a:=h
def au3{a:Prop}(h:a:=by
 rw[B,G]
 simp(disch:=first|decide|omega)only[pf,jL]):a:=h
def au4{a:Prop}(h:a:=by
 rw[d' _ aW aW]
 omega):a:=h
def au5{a:Prop}(h:a:=by cases bR 200 q.bt<;>simp<;>omega):a:=h
def au6{a:Prop}(h:a:=by
 induction l with
 |nil=>rfl
 |cons a l I=>rw[cL,eU,I];rfl):a:=h
def au7{a:Prop}(h:a:=by
 show(match jo P.D (.convert s t x)with|.pure=>_|.je=>_|.alloc=>_|.cB=>_)=_;rw[e]
 cases g<;>rfl):a:=h
def au8{a:Prop}(h:a:=by
 have r:(e !=0)=aa:=by simp[bne,L]
 rw[L]at d;rw[show mc m 0 u=e from d]
 exact S8 J c E (a6 g) f Z.aP r O tr):a:=h
def au9{a:Prop}(h:a:=by
 by_cases C:Y[a].be=[];exact⟨(h'.o 1094).ver,by rw[E1 C,P3]⟩;rw[D1 C,<-w0 C]
 exact i1 C):a:=h
def auA{a:Prop}(h:a:=by
 have C:lD (b*1000+5)=ab:=zn aW;have G:lD (b*1000+7)=ab:=zn aW;have Q:ai 7000 b=aa:=iE e;unfold mJ
 simp only[mO,cq,e8,aO,cp,g,a,C,G,Q,j',iJ,a8]):a:=h
def auB{a:Prop}(h:a:=by
 refine S1 @cm ?_
 exact⟨0,_,aM,aM,λh=>absurd aM h⟩):a:=h
def auC{a:Prop}(h:a:=by
 rw[bj]
 omega):a:=h
def auD{a:Prop}(h:a:=by simp[Op.operands]):a:=h
def auE{a:Prop}(h:a:=by
 have e:=BV (ι:=ι) (P:=P) (b:=aa) w (Fj.2 j) V p X;refine⟨?_,by simp[bB]⟩;simp only[Instr.sliceAt,cQ,fh F w C,ay,Instr.slice,aQ,e,lh F w B]
 simp):a:=h
def auF{a:Prop}(h:a:=by simpa using h):a:=h
def auG{a:Prop}(h:a:=by
 refine S0 ?_
 exact⟨aM,0,aM,aM,λh=>absurd aM h⟩):a:=h
def auH{a:Prop}(h:a:=by
 refine S0 ?_
 first|exact⟨aM,aM,0,aM,aM,λh=>absurd aM h⟩|exact⟨aM,0,aM,aM,λh=>absurd aM h⟩|exact⟨0,aM,aM,λh=>absurd aM h⟩):a:=h
def auI{a:Prop}(h:a:=by
 rw[cE]
 omega):a:=h
def auJ{a:Prop}(h:a:=by
 subst h;refine m k ?_;simp only[RR]at k
 exact s _ k aM):a:=h
def auK{a:Prop}(h:a:=by
 have⟨k,M,F,a,W⟩:=n;rw[mn]
 rfl):a:=h
def auL{a:Prop}(h:a:=by simpa only[RR]using h):a:=h
def auM{a:Prop}(h:a:=by exact⟨aM,aM,aM⟩):a:=h
def auN{a:Prop}(h:a:=by
 intro e;rw[e]at l
 exact absurd l (gH _)):a:=h
def auO{a:Prop}(h:a:=by
 refine gO Tryz.f287.eq_1 λw y=>?_
 exact Z2 ((Cc a).aP) ((Cc b).aP) tr):a:=h
def auP{a:Prop}(h:a:=by
 unfold eQ
 cases bR 200 q.bt<;>rfl):a:=h
def auQ{a:Prop}(h:a:=by
 unfold bk
 omega):a:=h
def auR{a:Prop}(h:a:=by
 rw[c_]
 omega):a:=h
def auS{a:Prop}(h:a:=by exact bu _):a:=h
def auT{a:Prop}(h:a:=by
 simp only[ep,j5]
 omega):a:=h
def auU{a:Prop}(h:a:=by simp[aQ,eg,bf.at]):a:=h
def auV{a:Prop}(h:a:=by
 rintro h ⟨Z,E,v,U,o,b⟩;rw[bj,bP]at*
 exact Z1 (gf b) tr):a:=h
def auW{a:Prop}(h:a:=by
 have h:aA ((l.take i).map λa=>a+1)=i:=by rw[bj,ep];omega
 rw[Ju aW,eM aW,zY,mZ aW,b7,h,OT,ej G,dg,eF]
 grind):a:=h
def auX{a:Prop}(h:a:=by
 simp only[RR]at h
 exact P _ _ h):a:=h
def auY{a:Prop}(h:a:=by
 simp only[de,ah,dh]at h|-
 omega):a:=h
def auZ{a:Prop}(h:a:=by cases s:aQ ι x<;>(first|exact(hn _ _ s).elim|exact(j _ _ s).elim|exact(Q _ _ _ s).elim|exact(B _ s).elim|rfl)):a:=h
def au_{a:Prop}(h:a:=by exact h.run _ _ _):a:=h
def aua{a:Prop}(h:a:=by
 refine S9 Tryz.f394.eq_1 @ur o @s1 @s2 @s3 T y F ?_;refine⟨_,aM,⟨⟨X,?_⟩,⟨W,l,?_,P⟩,⟨S,?_⟩,?_,O⟩,aM,?_⟩;refine N0 ?_;exact T;refine N0 ?_;exact y;refine N0 ?_;exact F;refine N0 ?_;exact f
 exact N0 tr):a:=h
def aub{a:Prop}(h:a:=by
 cases b:N[a]? with
 |none=>rw[b]at D;exact h t D
 |some u=>
  rw[b]at D
  rcases wD D with D|D
  exact h t D
  subst D;exact h u (nO b)):a:=h
def auc{a:Prop}(h:a:=by
 cases r with
 |none=>simp only[bK,eo]at h;obtain⟨z,o,rfl⟩:=h;simp only[Cx,cQ,x6 F (ι:=ι) w o,ay,az];cases ok<;>simp[aQ,bb,cO]
 |some p=>
  obtain⟨j,y⟩:=p;simp at h;subst h;simp only[sE,cQ,az,ay]
  cases ok<;>simp[aQ,bb,cO]):a:=h
def aud{a:Prop}(h:a:=by exact Le.refl _):a:=h
def aue{a:Prop}(h:a:=by simp[stepG,stepG.exec,on]):a:=h
def auf{a:Prop}(h:a:=by
 generalize l[i]=p at*;cases q:F p<;>rw[q]at m;refine Z3 mW.eq_1 m.aP @cm ?_;exact⟨v,U,by rw[ea],by rw[ea];exact b⟩;refine Z4 mW.eq_1 m.aP @cm (iM b j) ?_
 exact⟨v+1,U+1,aM,by rw[b.1];exact b6.next⟩):a:=h
def aug{a:Prop}(h:a:=by exact S0 tr):a:=h
def auh{a:Prop}(h:a:=by exact b6.next):a:=h
def aui{a:Prop}(h:a:=by exact bq O W B n L V t9 i0 @s2 o5 s0 (an @fg (an @fk (an (eB Q) (an @c6 (an @bZ (an b (an ok (an @jc (an (a6 m0) (an (eB m0) (an i1 (an j1 (an (eB g1) (an f0 (an p0 (an J0 (an v0.aP @bd))))))))))))))))) tr):a:=h
def auj{a:Prop}(h:a:=by
 simp only[RR,LC];obtain⟨g,Y⟩:=vV h d (.cells u ab O.1 O.2 (c::C));refine .inr ⟨g.symm,u,ab,O.1,O.2,c::C,Y,aW,.inr ⟨ae,?_,λc W=>by cases W⟩⟩;rw[sr]
 simp):a:=h
def auk{a:Prop}(h:a:=by exact⟨λh=>by rw[x h],o⟩):a:=h
def aul{a:Prop}(h:a:=by
 simp
 omega):a:=h
def aum{a:Prop}(h:a:=by simpa using f):a:=h
def aun{a:Prop}(h:a:=by
 refine Z3 (a6 G) (a6 (l▸G)) @bd ?_;have⟨x,o⟩:=rN (p:=λa b:Int=>a==b) G (l▸G) M (b:=a[i]!=b[i]'(l▸G)) (by simp[bne])
 exact⟨λh=>by rw[gZ,x h],o⟩):a:=h
def auo{a:Prop}(h:a:=by
 have⟨l,o,S,z⟩:=s;obtain⟨k,x,W,a,i,u,v,Z,rfl⟩:=qC q;simp only[bG,bg,ck,b7]at*;refine gO Tryz.f10.eq_1 λw y=>?_
 exact Z6 @ni F.aP U.aP @cC @wQ sg.eq_1 tr):a:=h
def aup{a:Prop}(h:a:=by
 intro F Q;by_cases V:F=s;subst V;rw[jx]at Q;cases Q;rw[ic V]at Q
 exact⟨V,Q⟩):a:=h
def auq{a:Prop}(h:a:=by simp[cT,AV.dN,cU]):a:=h
def aur{a:Prop}(h:a:=by
 refine .inl ⟨?_,Q,tN k.n _ P⟩
 rcases k.st s with B|B
 omega;have:=B.ver
 omega):a:=h
def aus{a:Prop}(h:a:=by
 unfold oN at I;rw[<-I]
 cases ax (r.size<1)<;>cases ax (64<r.size)<;>cases ax (r.first<1)<;>cases ax (1099511627777<r.next)<;>cases ax (r.next<r.first)<;>rfl):a:=h
def aut{a:Prop}(h:a:=by
 have⟨l,o,S,z⟩:=s;obtain⟨k,x,F,a,W,u,v,Z,rfl⟩:=qC q;simp only[bG,bg,ck,b7]at*;refine gO Tryz.f8.eq_1 λw y=>?_
 exact Z4 U.aP @cC @wQ sg.eq_1 tr):a:=h
def auu{a:Prop}(h:a:=by simp at h):a:=h
def auv{a:Prop}(h:a:=by
 rename_i x l Y;simp only[gy,Y];simp only[xA,bF]at p;have⟨a,J,a0,F,b,P,A⟩:=p;refine⟨b,?_,zo A⟩;rw[uA J (U x),HU (vY.1 F) (RL.map U l)]
 exact P):a:=h
def auw{a:Prop}(h:a:=by
 rw[bP,l,bP]at M
 exact Z0 tr):a:=h
def auy{a:Prop}(h:a:=by exact N0 tr):a:=h
def auz{a:Prop}(h:a:=by
 show(0:Nat)<1048576
 omega):a:=h
def av0{a:Prop}(h:a:=by
 unfold indexAddr;simp only[I,G,B,ca,aO];rw[b8 ⟨Q,aW⟩]
 rfl):a:=h
def av1{a:Prop}(h:a:=by exact⟨λh=>by rw[s1 h];rfl,s2⟩):a:=h
def av2{a:Prop}(h:a:=by rcases DT (Jw h)with h|h|h|h|h|h|h<;>subst h<;>first|rfl|omega):a:=h
def av3{a:Prop}(h:a:=by
 simp at h;subst h;have⟨a,c,Q⟩:=AJ ι b o l j;rw[Q]
 simp[aQ]):a:=h
def av4{a:Prop}(h:a:=by
 refine B q.2 ?_;simp only[Op.operands,List.mem_toArray,fv]
 grind):a:=h
def av5{a:Prop}(h:a:=by rcases DT h with h|h|h|h|h|h|h<;>subst h<;>cases q<;>kernel_rfl):a:=h
def av6{a:Prop}(h:a:=by
 refine Hl (n:=1) ?_;unfold o6
 rw[h]):a:=h
def av7{a:Prop}(h:a:=by exact Z4 @bg (a6 G) @bd ((I i G).aP) tr):a:=h
def av8{a:Prop}(h:a:=by
 simp at h;subst h;have⟨c,Q⟩:=vi ι b o L I j;rw[Q]
 simp[aQ]):a:=h
def av9{a:Prop}(h:a:=by
 cases m:x.cB with
 |false=>rfl
 |true=>rw[I.un x ei m]at l;cases l):a:=h
def avA{a:Prop}(h:a:=by
 simp only[dd]at h;cases h
 exact⟨L,S,λk n r x=>⟨n+1,pn (λF=>rfl) x⟩⟩):a:=h
def avB{a:Prop}(h:a:=by exact Z0 tr):a:=h
def avC{a:Prop}(h:a:=by
 right;have Q:b<σ.n:=aW;rw[eP Q]at m|-
 exact⟨b,Q,m,id,(by rw[ez f])⟩):a:=h
def avD{a:Prop}(h:a:=by exact⟨ι,w',⟨_,aM,by simp[resolve,invoke,Go.builtin,V]⟩,p,X,j⟩):a:=h
def avE{a:Prop}(h:a:=by
 simp only[RR]at h|-;have⟨l,V,j,d⟩:=h
 exact⟨l,V,j,RL.mono P O l d⟩):a:=h
def avF{a:Prop}(h:a:=by simpa using e):a:=h
def avG{a:Prop}(h:a:=by
 refine gO Tryz.f13.eq_1 λw y=>?_
 exact S9 @ni N.aP F.aP p r.aP b.aP m.bE Y.aP I.aP tr):a:=h
def avH{a:Prop}(h:a:=by
 refine S0 ?_
 exact⟨aM,λj u h=>absurd h (gH _),0,aM,aM,λh=>absurd aM h⟩):a:=h
def avI{a:Prop}(h:a:=by
 simp only[RR]at h|-;have⟨l,V,j,d⟩:=h
 exact⟨l,V,j,RL.gq P O l d⟩):a:=h
def avJ{a:Prop}(h:a:=by exact S2 (nB l) (oV l) tr):a:=h
def avK{a:Prop}(h:a:=by simp only[NK,kJ,e,jb,aO,b1,b2,b3,b4,Option.getD,gX,j',iJ,a8,bZ,yr]):a:=h
def avL{a:Prop}(h:a:=by
 simp only[RR]at h|-;have⟨l,V,j,d⟩:=h
 exact⟨l,V,j,RL.nT O l d⟩):a:=h
def avM{a:Prop}(h:a:=by
 refine⟨[],?_,by simpa using RE.jd⟩;simp only[pr,Q,ca,aO,kb,B]
 simp):a:=h
def avN{a:Prop}(h:a:=by cases h):a:=h
def avO{a:Prop}(h:a:=by
 rw[this]
 rfl):a:=h
def avP{a:Prop}(h:a:=by
 refine gO Tryz.f13.eq_1 λw y=>?_
 exact S8 @ni N.aP F.aP p r.aP b.aP m.bE Y.aP tr):a:=h
def avQ{a:Prop}(h:a:=by
 apply oH
 simpa using N):a:=h
def avR{a:Prop}(h:a:=by
 rw[cx aW,Pr]at V;have⟨c,p,_⟩:=V
 simpa[Addr.add]using(Nq p h0).1):a:=h
def avS{a:Prop}(h:a:=by
 simp at h;subst h
 simp[Op.equalIn,ND Y]):a:=h
def avT{a:Prop}(h:a:=by exact⟨aM,⟨0,_,aM,aM⟩,1,aM⟩):a:=h
def avU{a:Prop}(h:a:=by
 refine bq P G b E (a6 A) @bd m @Di M g.aP @Dz N ?_
 exact⟨U,s,v,aM,j,B⟩):a:=h
def avV{a:Prop}(h:a:=by
 by_cases f:j<i;exact Y j Q f;have:j=i:=aW;subst this;rw[V]
 exact c0):a:=h
def avW{a:Prop}(h:a:=by
 unfold mJ;simp only[mO,cq,e8,aO,cp,P,p,C,G,Q,j',iJ,a8,br]
 rfl):a:=h
def avX{a:Prop}(h:a:=by
 simp[cU]at h
 simp[h]):a:=h
def avY{a:Prop}(h:a:=by simp[eU]at h):a:=h
def avZ{a:Prop}(h:a:=by simp only[uE,bG,bg,ck,b7]):a:=h
def av_{a:Prop}(h:a:=by
 have⟨G,⟨a,b,Q,h⟩,_⟩:=wk he;rw[b]
 exact(HR G h).2):a:=h
def ava{a:Prop}(h:a:=by
 rw[bF]at O;obtain⟨⟨q0,r0⟩,_,O⟩:=O;cases q0<;>simp only at O<;>cases O
 exact⟨_,aM⟩):a:=h
def avb{a:Prop}(h:a:=by exact⟨_,aM⟩):a:=h
def avc{a:Prop}(h:a:=by cases b<;>rfl):a:=h
def avd{a:Prop}(h:a:=by exact⟨aM,λj u h=>absurd h (gH _)⟩):a:=h
def ave{a:Prop}(h:a:=by
 simp only[fv]at y;obtain⟨x,Z,rfl⟩:=y
 exact z x (by simp[Op.operands,Call.operands,I9.1 Z])):a:=h
def avf{a:Prop}(h:a:=by
 rw[ej G,ry,dg];congr 1
 cases q:F l[i]<;>simp[q]):a:=h
def avg{a:Prop}(h:a:=by
 simp at h;subst h;refine⟨?_,by simp[js,bB]⟩
 simp[Builtin.len_,Y,fh F w C,aQ,js,goInt]):a:=h
def avh{a:Prop}(h:a:=by simp[bne,f]):a:=h
def avi{a:Prop}(h:a:=by exact h.finish _ _ _ _ _ _):a:=h
def avj{a:Prop}(h:a:=by
 split at h
 grind
 cases h):a:=h
def avk{a:Prop}(h:a:=by
 unfold l_;simp only[B,P,D,A,F,N,ca,aO,Q]
 rfl):a:=h
def avl{a:Prop}(h:a:=by
 have h:k=2:=h;subst h;rw[cw]
 rfl):a:=h
def avm{a:Prop}(h:a:=by
 rw[bj];have V:=tF F (l.take i);rw[ep]at V
 omega):a:=h
def avn{a:Prop}(h:a:=by
 simp only[de,ah,dh]
 omega):a:=h
def avo{a:Prop}(h:a:=by
 refine S0 ?_
 rfl):a:=h
def avp{a:Prop}(h:a:=by
 refine⟨a,z,X,W,?_,C,G,q⟩;unfold ml execOp;simp only[d,mG,A,I,O,ca,aO]
 rfl):a:=h
def avq{a:Prop}(h:a:=by exact Z1 @bg tr):a:=h
def avr{a:Prop}(h:a:=by
 rintro T h ⟨g,Q,O,E,v,A,b⟩;rw[bP]at A b;rw[bg]at E
 exact S7 @bg g A Q E (gf b) O tr):a:=h
def avs{a:Prop}(h:a:=by
 rw[k]at d;subst d
 exact bq U c M C x e V @ee (gf b) X n (an @GF (an k (an O.bE (an f.aP z)))) tr):a:=h
def avt{a:Prop}(h:a:=by exact⟨E,v,by rw[ea],by rw[ea];exact J⟩):a:=h
def avu{a:Prop}(h:a:=by simp(disch:=first|decide|omega)only[jL,W]):a:=h
def avv{a:Prop}(h:a:=by simp(disch:=first|decide|omega)only[jL,C]):a:=h
def avw{a:Prop}(h:a:=by
 simp only[fv]at T;obtain⟨x,m,rfl⟩:=T
 exact B x (by simp[Op.operands,I9.1 m])):a:=h
def avx{a:Prop}(h:a:=by
 rw[bZ]
 exact iE (bu _)):a:=h
def avy{a:Prop}(h:a:=by
 refine .inr (q ab ?_);unfold bX;rw[h.un]
 rfl):a:=h
def avz{a:Prop}(h:a:=by
 rename_i w;cases w<;>simp_all;rename_i p n c
 cases p<;>simp_all [cT,AV.dN,cU,kx]):a:=h
def aw0{a:Prop}(h:a:=by exact this):a:=h
def aw1{a:Prop}(h:a:=by
 congr 1
 omega):a:=h
def aw2{a:Prop}(h:a:=by simp[St.push]):a:=h
def aw3{a:Prop}(h:a:=by exact⟨ι,w,⟨_,aM,V⟩,R,cj.refl _ _ _,a⟩):a:=h
def aw4{a:Prop}(h:a:=by
 rw[p]
 exact W.run _ _ _ _ _ _ h X b ι T (B.ext d aM aM) a y):a:=h
def aw5{a:Prop}(h:a:=by
 rw[ep]
 omega):a:=h
def aw6{a:Prop}(h:a:=by simpa only[RL]using h):a:=h
def aw7{a:Prop}(h:a:=by
 refine S0 ?_;refine⟨aM,?_⟩;rw[<-bg]
 exact Q):a:=h
def aw8{a:Prop}(h:a:=by
 have:=AG (bD G)
 omega):a:=h
def aw9{a:Prop}(h:a:=by
 rw[bj,bj,ep]
 omega):a:=h
def awA{a:Prop}(h:a:=by
 rw[show(lA x R).reverse++B=uf x R B from aM,<-W]
 exact V):a:=h
def awB{a:Prop}(h:a:=by exact absurd aM G):a:=h
def awC{a:Prop}(h:a:=by
 simp only[cr,f_]
 omega):a:=h
def awD{a:Prop}(h:a:=by
 induction l with
 |nil=>rfl
 |cons a l I=>simp[kf,cU,kx,I]):a:=h
def awE{a:Prop}(h:a:=by
 have:=Aa this
 rw[this]):a:=h
def awF{a:Prop}(h:a:=by
 simp only[cv]at Y;cases Y
 exact Comes.fN S B p λk F=>rfl):a:=h
def awG{a:Prop}(h:a:=by
 show(match cs[o]? with|ad v=>_|ae=>_)=_;rw[h]
 rfl):a:=h
def awH{a:Prop}(h:a:=by
 refine gO Tryz.f31.eq_1 λw y=>?_
 exact Z3 g.bE @cC @FW tr):a:=h
def awI{a:Prop}(h:a:=by
 refine gO Tryz.f38.eq_1 λw y=>?_
 exact Z3 g.bE @cC @FW tr):a:=h
def awJ{a:Prop}(h:a:=by
 refine gO Tryz.f12.eq_1 λw y=>?_
 exact Z3 @dW @cC U.aP tr):a:=h
def awK{a:Prop}(h:a:=by simp[stepG,stepG.exec,on,h]):a:=h
def awL{a:Prop}(h:a:=by
 simp only[d_]at j;cases j;simp only[RL]at Y|-
 exact Y):a:=h
def awM{a:Prop}(h:a:=by exact⟨λh=>by rw[n h,U];rfl,λh=>⟨U,O h⟩⟩):a:=h
def awN{a:Prop}(h:a:=by
 rw[e];unfold te;rw[s,C]
 rfl):a:=h
def awO{a:Prop}(h:a:=by exact bq O c Q V Z Y @ee W.aP f0 b0 f (an @AM (an D (an m E))) tr):a:=h
def awP{a:Prop}(h:a:=by
 simp[Builtin.len_,Y,fh F w C,Q,js,goInt]
 simp[aQ]):a:=h
def awQ{a:Prop}(h:a:=by simpa[de]using k):a:=h
def awR{a:Prop}(h:a:=by
 rcases Nat.mul_eq_zero.1 Q with h|h
 exact h
 omega):a:=h
def awS{a:Prop}(h:a:=by exact S7 h.aP ((IT s).aP) a.aP @q0 @q2 c7.eq_1 tL.eq_1 tr):a:=h
def awT{a:Prop}(h:a:=by
 refine gO Tryz.f231.eq_1 λw y=>?_
 exact Z2 s.aP x.aP tr):a:=h
def awU{a:Prop}(h:a:=by exact bq O Z Q r @ee @gU @jZ @ue @jy C d0 (an p0 (an u0 E)) tr):a:=h
def awV{a:Prop}(h:a:=by exact⟨v,Ad.aN aM aM (by simp[cT,cU,AV.dN,kx])⟩):a:=h
def awW{a:Prop}(h:a:=by exact⟨ι',w',⟨_,aM,by simp[V]⟩,p,X,j⟩):a:=h
def awX{a:Prop}(h:a:=by
 obtain⟨k,M,F,a,W⟩:=n;rw[mn,bg]
 kernel_rfl):a:=h
def awY{a:Prop}(h:a:=by
 rw[cr]at o;rw[cr,bj]
 omega):a:=h
def awZ{a:Prop}(h:a:=by
 refine gO Tryz.f213.eq_1 λw y=>?_
 exact S2 @bg @zq tr):a:=h
def aw_{a:Prop}(h:a:=by
 rw[dh]
 omega):a:=h
def awa{a:Prop}(h:a:=by
 intro e;rw[e]at m
 simp[AO.fG]at m):a:=h
def awb{a:Prop}(h:a:=by exact⟨λh=>⟨h.nd,h.call⟩,λh=>⟨h.nd,h.call⟩⟩):a:=h
def awc{a:Prop}(h:a:=by
 have⟨h',C,G,j⟩:=m
 exact⟨h',t,_,pW GI IC aX C,G,j⟩):a:=h
def awd{a:Prop}(h:a:=by
 have⟨h',C,G,j⟩:=m
 exact⟨h',s,v,pW GI IC aX C,G,j⟩):a:=h
def awe{a:Prop}(h:a:=by
 unfold dM;simp only
 omega):a:=h
def awf{a:Prop}(h:a:=by exact bq @gU @jZ @ue @jy v g.aP X t V l.aP z (an Z (an c (an C.aP S))) tr):a:=h
def awg{a:Prop}(h:a:=by
 simp only[bK,eo]at h;obtain⟨b,e,rfl⟩:=h
 simp[cO,bB]):a:=h
def awh{a:Prop}(h:a:=by
 rintro T h ⟨Y,A,E,v,N,b⟩;rw[bP]at N b
 exact Z1 (gf b) tr):a:=h
def awi{a:Prop}(h:a:=by exact⟨O,a0,⟨f0,b0⟩,U,i0,h0,J,C,c0,I,Q,d,j0⟩):a:=h
def awj{a:Prop}(h:a:=by exact Le.dI (Le.refl _) λP=>Le.dI (h.run _ _ _) λe=>Le.refl _):a:=h
def awk{a:Prop}(h:a:=by
 show aO (aO (lK P h T rs) λvs=>.ok (pc vs,h)) _=_;rw[kg]
 rfl):a:=h
def awl{a:Prop}(h:a:=by exact JS G s (by simp only[sm,c_];simp only[cE]at X;omega)):a:=h
def awm{a:Prop}(h:a:=by exact⟨_,aM,aM⟩):a:=h
def awn{a:Prop}(h:a:=by cases u:o.op<;>rw[u]at Q<;>first|rfl|(simp[jo,AF]at Q)):a:=h
def awo{a:Prop}(h:a:=by
 simp only[RR]at h|-
 exact⟨h.1,dc h.2.1 hn,P _ _ h.2.2⟩):a:=h
def awp{a:Prop}(h:a:=by
 rw[<-D7 P h (bS T) _ B]
 exact bL aM):a:=h
def awq{a:Prop}(h:a:=by
 refine S0 ?_
 exact⟨aM,E,aM⟩):a:=h
def awr{a:Prop}(h:a:=by exact⟨ι,w',⟨_,aM,by simp[V]⟩,p,X,trivial⟩):a:=h
def aws{a:Prop}(h:a:=by exact Ix B (by rw[L.wanted,l]) (D l) (by rw[L.ev];exact j)):a:=h
def awt{a:Prop}(h:a:=by
 have⟨o,C,w⟩:=zD (T:=T) l I h0 s e;rw[Yd j y C]
 exact w):a:=h
def awu{a:Prop}(h:a:=by
 have⟨o,C,w⟩:=zD (T:=T) l I h0 s e;rw[Ye j y C]
 exact w):a:=h
def awv{a:Prop}(h:a:=by
 refine dC y Z r J L ?_;rw[<-q]
 exact Steps.trans (.one h) f0):a:=h
def aww{a:Prop}(h:a:=by
 simp only[c_]at*
 omega):a:=h
def awx{a:Prop}(h:a:=by cases cs[o]?<;>rfl):a:=h
def awy{a:Prop}(h:a:=by exact S3 (nB l) gZ.eq_1 (oV l) tr):a:=h
def awz{a:Prop}(h:a:=by exact .inl ⟨trivial,aM,aM⟩):a:=h
def axa{a:Prop}(h:a:=by exact Z1 g.aP tr):a:=h
def b7.{u}:=@List.nil_append.{u}
def b8.{u}:=@if_pos.{u}
def bD.{u}:=@List.getElem_mem.{u}
def bP.{u}:=@List.take_length.{u}
def bW:=@Bool.and_eq_true
def bZ:=@Nat.zero_add
def bj.{u,v}:=@List.length_map.{u,v}
def br.{u}:=@cond_false.{u}
def bu:=@Nat.le_refl
def c6:=@Int.toNat_natCast
def cE:=@decide_eq_false_iff_not
def cG.{u}:=@if_neg.{u}
def cL.{u,v}:=@List.map_cons.{u,v}
def cN.{u}:=@List.length_append.{u}
def cQ:=@Sem.run_bind
def c_:=@decide_eq_true_eq
def ck.{u}:=@List.cons_append.{u}
def cr.{u}:=@List.length_cons.{u}
def cx.{u}:=@List.getElem?_eq_getElem.{u}
def dB:=@Nat.eq_of_beq_eq_true
def dR.{u}:=@List.mem_cons_of_mem.{u}
def dc:=@Nat.lt_of_lt_of_le
def dg.{u,v}:=@List.map_append.{u,v}
def dh:=@Nat.ble_eq
def dj.{u}:=@if_true.{u}
def dz.{u}:=@List.mem_cons.{u}
def e6.{u}:=@List.drop_zero.{u}
def eF.{u}:=@List.append_assoc.{u}
def eM.{u}:=@List.take_of_length_le.{u}
def ea.{u}:=@List.append_nil.{u}
def ei.{u}:=@List.mem_cons_self.{u}
def ej.{u}:=@List.take_succ_eq_append_getElem.{u}
def ep.{u}:=@List.length_take.{u}
def f'.{u,v}:=@Prod.mk.injEq.{u,v}
def fD.{u}:=@List.drop_eq_getElem_cons.{u}
def fK.{u,v}:=@List.getElem_map.{u,v}
def fR:=@Bool.false_eq_true
def fS.{u}:=@List.drop_length.{u}
def f_.{u}:=@List.length_nil.{u}
def ff.{u}:=@if_false.{u}
def fv.{u,v}:=@List.mem_map.{u,v}
def gH:=@Nat.not_lt_zero
def gX:=@Nat.beq_refl
def gn.{u,v}:=@List.foldl_cons.{u,v}
def gu:=@decide_eq_true
def gz:=@Bool.or_eq_false_iff
def hG.{u}:=@Ne.symm.{u}
def hY.{u,v}:=@List.getElem?_map.{u,v}
def i'.{u}:=@List.take_zero.{u}
def iB:=@Bool.or_eq_true
def iE:=@Nat.ble_eq_true_of_le
def iJ:=@Bool.and_self
def i_.{u,v}:=@List.map_nil.{u,v}
def j':=@Bool.not_false
def j5.{u}:=@List.length_drop.{u}
def j6.{u}:=@List.sizeOf_lt_of_mem.{u}
def j7.{u}:=@List.take_succ_cons.{u}
def j8:=@Nat.le_max_left
def j9:=@Nat.le_max_right
def jP:=@Bool.false_or
def jQ.{u,v}:=@List.foldl_append.{u,v}
def jR.{u}:=@List.length_replicate.{u}
def jS:=@Nat.le_trans
def kP.{u,v}:=@List.flatMap_cons.{u,v}
def kQ:=@Nat.zero_le
def kV:=@decide_eq_false
def ka:=@Nat.lt_of_succ_lt_succ
def kb:=@Nat.zero_mul
def kt.{u}:=@List.all_eq_true.{u}
def ku.{u}:=@List.mem_singleton.{u}
def lQ.{u}:=@List.getElem?_eq_some_iff.{u}
def lR.{u}:=@List.length_set.{u}
def lS:=@List.mem_range
def lT.{u}:=@List.pairwise_cons.{u}
def lU:=@Nat.succ_mul
def mB:=@Bool.false_and
def mD.{u}:=@List.any_eq_true.{u}
def mE.{u}:=@List.getElem?_eq_none.{u}
def mF.{u}:=@List.mem_append.{u}
def mZ.{u}:=@List.drop_of_length_le.{u}
def m_.{u}:=@List.getElem_cons_zero.{u}
def nM:=@Bool.not_eq_true'
def nN:=@List.length_range
def nO.{u}:=@List.mem_of_getElem?.{u}
def nQ:=@Nat.add_comm
def nR:=@Nat.lt_succ_self
def nj.{u}:=@beq_iff_eq.{u}
def np.{u,v}:=@congrArg.{u,v}
def oH.{u}:=@Array.ext'.{u}
def oI:=@Bool.true_and
def oK.{u}:=@List.getElem?_cons_succ.{u}
def oL.{u,v}:=@List.mem_flatMap.{u,v}
def pA.{u}:=@List.getElem?_toArray.{u}
def pB.{u,v,w}:=@List.map_map.{u,v,w}
def pD.{u}:=@Option.some.injEq.{u}
def px:=@Bool.not_true
def py.{u}:=@List.any_eq_false.{u}
def pz.{u}:=@List.getD_eq_getElem?_getD.{u}
def qm.{u}:=@Array.getElem?_eq_some_iff.{u}
def qs.{u}:=@List.length_reverse.{u}
def rm:=@Bool.true_or
def rq:=@Int.le_refl
def ru.{u}:=@List.drop_drop.{u}
def ry.{u}:=@List.filter_append.{u}
def rz.{u}:=@List.getElem?_set.{u}
def sA.{u}:=@List.length_singleton.{u}
def sB.{u,v}:=@List.map_congr_left.{u,v}
def sC.{u,v}:=@List.map_set.{u,v}
def sE.{u,v}:=@Option.map_some.{u,v}
def sy.{u}:=@List.eq_nil_of_length_eq_zero.{u}
def tD:=@Bool.or_false
def tF.{u}:=@List.length_filter_le.{u}
def tG.{u}:=@List.singleton_append.{u}
def tm:=@of_decide_eq_true
def uO:=@Bool.and_true
def uS.{u}:=@List.all_cons.{u}
def uT.{u}:=@List.ext_getElem?.{u}
def uU.{u}:=@List.length_pos_iff.{u}
def uX:=@Nat.lt_succ_of_lt
def uY:=@Nat.mul_le_mul_right
def ve.{u}:=@beq_self_eq_true.{u}
def vl:=@decide_true
def vx.{u,v,w}:=@getElem!_pos.{u,v,w}
def wB.{u,v}:=@Except.ok.injEq.{u,v}
def wC.{u}:=@List.mem_of_mem_drop.{u}
def wD.{u}:=@List.mem_or_eq_of_mem_set.{u}
def wE:=@List.range_succ
def wF:=@Nat.add_mul
def wG:=@Nat.add_zero
def wH:=@Nat.le_succ
def w_.{u}:=@dif_pos.{u}
def wx.{u}:=@Array.getElem?_toList.{u}
def yi.{u}:=@BEq.comm.{u}
def yj:=@Bool.or_true
def yn:=@Nat.add_assoc
def yo:=@Nat.le_succ_of_le
def yp:=@Nat.mul_one
def yq:=@Nat.ne_of_lt
def yr:=@Nat.sub_zero
def z'.{u}:=@List.take_take.{u}
def z6:=@Nat.le_of_not_lt
def z7:=@Nat.mod_lt
def z8:=@Nat.succ_lt_succ
def zR.{u}:=@Array.getElem?_eq_getElem.{u}
def zU.{u}:=@LawfulBEq.eq_of_beq.{u}
def zW.{u}:=@List.any_append.{u}
def zX.{u}:=@List.any_cons.{u}
def zY.{u}:=@List.drop_append.{u}
def zZ.{u}:=@List.getElem_of_mem.{u}
def z_.{u}:=@List.mem_of_mem_take.{u}
inductive AV where
 |aN (v:Value)
 |aR (b o:Nat)
 |slice (b o len:Nat) (cap:Option Nat) (sz:Nat)
 |ik (b o0 l sz:Nat)
 |cz (b:Nat)
 |func (fn:Fn) (first captured:List AV)
 |yield (l:Nat)
 |iface (t:TypeId) (v:AV)
 |agg (cs:List AV)
 |tuple (vs:List AV)
 deriving Inhabited
abbrev R(α:Type):=Except String α
def kx:Value->Value->Bool
 |.bool a,.bool b=>a==b
 |.int k a,.int e b=>k==e&&a==b
 |.string ⟨⟨a⟩⟩,.string ⟨⟨b⟩⟩=>a==b
 |.pointer ae,.pointer ae=>aa
 |.slice ae a b,.slice ae c d=>a==c&&b==d
 |.slice (ad x) a b,.slice (ad y) c d=>x==y&&(a==c&&b==d)
 |.map ae,.map ae=>aa
 |.nilFunc,.nilFunc=>aa
 |.nilIface,.nilIface=>aa
 |_,_=>ab
def CR:Fn->Fn->Bool
 |.func f,.func g=>f==g
 |_,_=>ab
mutual
def cU:AV->AV->Bool
 |.aN a,.aN b=>kx a b
 |.aR b o,.aR W j=>b==W&&o==j
 |.slice b o l c s,.slice W j N T F=>b==W&&o==j&&l==N&&c==T&&s==F
 |.ik b o l s,.ik W j N F=>b==W&&o==j&&l==N&&s==F
 |.cz b,.cz W=>b==W
 |.func f a b,.func g B W=>CR f g&&kf a B&&kf b W
 |.yield l,.yield N=>l==N
 |.iface t v,.iface t' i=>t==t'&&cU v i
 |.agg l,.agg N=>kf l N
 |.tuple l,.tuple N=>kf l N
 |_,_=>ab
def kf:List AV->List AV->Bool
 |[],[]=>aa
 |x::xs,y::ys=>cU x y&&kf xs ys
 |_,_=>ab
end
def AV.undef:AV:=.tuple []
def uy:Value->AV
 |.agg cs=>.agg<|cs.toList.map .aN
 |.tuple q=>.tuple<|q.toList.map .aN
 |v=>.aN v
def tl:Value->AV
 |.agg cs=>.agg<|cs.toList.map .aN
 |.tuple q=>.tuple<|q.toList.map uy
 |v=>.aN v
structure jB where
 state:LoopState
 pending:Option Code
 fn:FuncId
 T:List AV
 params:List Tmp
 assign:Code
 body:Code
 defers:Nat
inductive bT where
 |fn (fn:Fn) (captured args:List AV)
 |collected (r:Nat)
abbrev aD:=List AV
abbrev aJ:=List bT
inductive AO where
 |cells (cs:List AV) (elem:TypeId) (bh:Bool) (sz:Nat)
 |map (es:List<|AV×AV×Nat) (clock:Nat)
 |r6 (m:Option Nat) (since:Nat) (seen:List Nat) (stepped:Nat)
 |loop (l:jB)
 |deferred (calls:Option<|List bT)
 |c5
structure hZ where
 f:FuncId
 args:List AV
 heap:List AO
 val:AV
 lJ:List AO
inductive wI where
 |z
 |l (p:wI)
 |r (p:wI)
def M9:Nat->Nat->wI
 |0,_=>.z
 |n+1,k=>bif ag k 0 then .z else bif ag (Nat.mod k 2) 1 then .l (M9 n<|Nat.div k 2)else .r<|M9 n<|Nat.sub (Nat.div k 2) 1
def Et(k:Nat):wI:=M9 k k
inductive eb where
 |e
 |n (l:List hZ) (a b:eb)
def eb.get:wI->eb->List hZ
 |_,.e=>[]
 |.z,.n l _ _=>l
 |.l p,.n _ a _=>eb.get p a
 |.r p,.n _ _ b=>eb.get p b
def eb.add(m:hZ):wI->eb->eb
 |.z,.e=>.n [m] .e .e
 |.l p,.e=>.n [] (eb.add m p .e) .e
 |.r p,.e=>.n [] .e<|eb.add m p .e
 |.z,.n l a b=>.n (m::l) a b
 |.l p,.n l a b=>.n l (eb.add m p a) b
 |.r p,.n l a b=>.n l a<|eb.add m p b
def eb.mem(m:hZ):eb->Prop
 |.e=>False
 |.n l a b=>m∈l\/ eb.mem m a\/ eb.mem m b
def eb.Mu{m:hZ}:∀(p:wI) (t:eb),m∈t.get p->t.mem m
 |_,.e,h=>by simp[eb.get]at h
 |.z,.n l a b,h=>.inl h
 |.l p,.n l a b,h=>.inr<|.inl<|eb.Mu p a h
 |.r p,.n l a b,h=>.inr<|.inr<|eb.Mu p b h
def eb.D'{m x:hZ}:∀(p:wI) (t:eb),(t.add x p).mem m->m=x\/ t.mem m
 |.z,.e,h=>by simpa[eb.add,eb.mem]using h
 |.l p,.e,h=>by
  simp only[eb.add,eb.mem]at h
  rcases h with h|h|h
  exact auu
  rcases eb.D' p .e h with h|h
  exact .inl h;exact h.elim;exact h.elim
 |.r p,.e,h=>by
  simp only[eb.add,eb.mem]at h
  rcases h with h|h|h
  exact auu;exact h.elim
  rcases eb.D' p .e h with h|h
  exact .inl h;exact h.elim
 |.z,.n l a b,h=>by
  simp only[eb.add,eb.mem,dz]at h|-
  grind
 |.l p,.n l a b,h=>by
  simp only[eb.add,eb.mem]at h|-
  rcases h with h|h|h
  exact at6
  rcases eb.D' p a h with h|h
  exact .inl h;exact at6;exact at6
 |.r p,.n l a b,h=>by
  simp only[eb.add,eb.mem]at h|-
  rcases h with h|h|h
  exact at6;exact at6
  rcases eb.D' p b h with h|h
  exact .inl h;exact at6
structure St where
 n:Nat
 l:List AO
 M:eb
def St.a7(σ:St)(b:Nat):AO:=if b<σ.n then(σ.l[σ.n-1-b]?).getD .c5 else .c5
def St.get(σ:St)(b:Nat):R AO:=if b<σ.n then .ok (σ.a7 b)else .error ""
def St.set(σ:St)(b:Nat)(o:AO):St:={σ with l:=σ.l.set (σ.n-1-b) o}
def St.push(σ:St)(o:AO):St:={σ with n:=σ.n+1,l:=o::σ.l}
structure a_ where
 func:Nat->Option Func
 lz:Nat->Option TypeInfo
 gx:Nat
 pure:Nat->Bool
 ma:Nat->Bool
 cut:Array Oper->Nat
 jY:hZ->Prop
 tn:Nat->Option (List AV->St->R (AV×St)):=λ_=>ae
 vy:List (List UInt8):=[]
def rW(D:a_)(t:Nat):R TypeInfo:=match D.lz t with|ad i=>.ok i|ae=>.error ""
def cP(D:a_)(t:Nat):R TypeDesc:=
 match D.lz t with
 |ad i=>match i.desc with
  |.named _ u=>match D.lz u with
   |ad j=>.ok j.desc
   |ae=>.error ""
  |d=>.ok d
 |ae=>.error ""
def size(D:a_)(t:Nat):R Nat:=match D.lz t with|ad i=>.ok i.size|ae=>.error ""
def zero(D:a_)(t:Nat):R AV:=
 match D.lz t with
 |ad i=>match i.zero with
  |ad v=>.ok<|tl v
  |ae=>.error ""
 |ae=>.error ""
def rX:TypeDesc->Bool
 |.struct _|.array _ _=>aa
 |_=>ab
def vH:TypeDesc->Bool
 |.int _=>aa
 |_=>ab
def dV(D:a_)(T:List AV):Operand->AV
 |.tmp t=>T.getD t .undef
 |.const v=>tl v
 |.global g=>if g<D.gx then .aR g 0 else .aN<|.pointer<|ad ⟨g,0,ae⟩
 |.func f=>.func (.func f) [] []
def AV.cells:AV->List AV
 |.agg cs=>cs
 |.aN (.agg cs)=>cs.toList.map .aN
 |v=>[v]
def AV.dN:AV->Bool
 |.aN (.agg _)|.aN (.tuple _)|.agg _|.tuple _=>ab
 |_=>aa
def cellsOf(σ:St)(b:Nat):R (List AV):=
 if b<σ.n then
  match σ.a7 b with
  |.cells cs _ _ _=>.ok cs
  |_=>.error ""
 else .error ""
def fO(cs:List AV)(o n:Nat):R (List AV):=if aA ((cs.drop o).take n)=n then .ok ((cs.drop o).take n)else .error ""
def jw(D:a_)(σ:St)(t:Nat)(a:AV):R AV:=
 match a with
 |.aR b o=>do
  let cs<-cellsOf σ b
  let d<-cP D t
  if rX d then do
   let n<-size D t
   let l<-fO cs o n
   return .agg l
  else match cs[o]? with
   |ad v=>return v
   |ae=>.error ""
 |_=>.error ""
def q_:List AV->List AV->List AV
 |_::cs,x::l=>x::q_ cs l
 |cs,[]=>cs
 |[],_=>[]
def iY:List AV->Nat->List AV->List AV
 |c::cs,o+1,l=>c::iY cs o l
 |cs,_,l=>q_ cs l
def storeCells(σ:St)(b o:Nat)(l:List AV):R St:=
 match l with
 |[]=>.ok σ
 |_=>
 if b<σ.n then
  match σ.a7 b with
  |.cells cs W U sz=>
   if U&&ax (o+aA l<=aA cs)&&l.all AV.dN then .ok (σ.set b<|.cells (iY cs o l) W U sz)
   else .error ""
  |_=>.error ""
 else .error ""
def wt(D:a_)(σ:St)(t:Nat)(a x:AV):R St:=
 match a with
 |.aR b o=>do
  let n<-size D t
  if aA x.cells=n then storeCells σ b o x.cells else .error ""
 |_=>.error ""
def part(D:a_)(t:Nat)(cs:List AV)(off:Nat):R AV:=do
 let d<-cP D t
 if rX d then do
  let n<-size D t
  return .agg ((cs.drop off).take n)
 else match cs[off]? with
  |ad v=>return v
  |ae=>.error ""
def pI:AV->R (IntKind×Int)
 |.aN (.int k n)=>.ok (k,n)
 |_=>.error ""
def NR(l:List UInt8):AV:=.aN<|.string ⟨⟨l⟩⟩
def Ap:AV->R Bool
 |.aN (.bool b)=>.ok b
 |_=>.error ""
def bY(k:IntKind)(n:Int):AV:=.aN<|.int k n
def js(n:Nat):AV:=.aN<|.int .i64 n
def cO(b:Bool):AV:=.aN<|.bool b
def eqFields(D:a_)(F:Nat->AV->AV->R Bool)(xs ys:List AV):List Field->R Bool
 |[]=>.ok aa
 |f::u=>
  if f.name= "_" then eqFields D F xs ys u else do
  let a<-part D f.type xs f.offset
  let b<-part D f.type ys f.offset
  let r<-F f.type a b
  if r then eqFields D F xs ys u else return ab
def mM(D:a_)(F:Nat->AV->AV->R Bool)(W n:Nat)(xs ys:List AV):Nat->Nat->R Bool
 |0,_=>.ok aa
 |m+1,i=>do
  let a<-part D W xs (i*n)
  let b<-part D W ys (i*n)
  let r<-F W a b
  if r then mM D F W n xs ys m (i+1)else return ab
def vu:TypeDesc->AV->AV->R Bool
 |.bool,.aN<|.bool a,.aN (.bool b)=>.ok<|a==b
 |.int _,.aN<|.int k a,.aN (.int e b)=>if k=e then .ok (a==b)else .error ""
 |.string,.aN<|.string ⟨⟨a⟩⟩,.aN (.string ⟨⟨b⟩⟩)=>.ok<|a==b
 |.slice _,.aN<|.slice ae _ _,.aN (.slice ae _ _)=>.ok aa
 |.slice _,.aN<|.slice (ad _) _ _,.aN (.slice ae _ _)=>.ok ab
 |.slice _,.aN<|.slice ae _ _,.slice _ _ _ _ _=>.ok ab
 |.slice _,.aN<|.slice ae _ _,.ik _ _ _ _=>.ok ab
 |.slice _,.slice _ _ _ _ _,.aN (.slice ae _ _)=>.ok ab
 |.slice _,.ik _ _ _ _,.aN (.slice ae _ _)=>.ok ab
 |_,_,_=>.error ""
def bX(D:a_):Nat->Nat->AV->AV->R Bool
 |0,_,_,_=>.error ""
 |d+1,t,x,y=>do
  let ty<-cP D t
  match ty,x,y with
  |.struct Z,.agg xs,.agg ys=>if D.ma t then eqFields D (bX D d) xs ys Z.toList else .error ""
  |.array L W,.agg xs,.agg ys=>do
   let n<-size D W
   mM D (bX D d) W n xs ys L 0
  |ty,x,y=>vu ty x y
def LI(F:Nat->Bool):List Field->Bool
 |[]=>aa
 |f::D=>(f.name== "_"||F f.type)&&LI F D
def o_(D:a_):Nat->Nat->Bool
 |0,_=>ab
 |d+1,t=>
  match cP D t with
  |.ok (.interface O)=>O.isEmpty
  |.ok (.struct u)=>LI (o_ D d) u.toList
  |.ok (.array _ e)=>o_ D d e
  |.ok _=>aa
  |.error _=>ab
def hP(op:BinOp)(k e:IntKind)(a b:Int):R AV:=
 match op with
 |.shr=>if b<0 then .error "" else .ok<|bY k<|a.fdiv<|2^(min b.toNat k.bits)
 |op=>
 if k=e then
  match op with
  |.add=>.ok<|bY k<|k.wrap<|a+b
  |.sub=>.ok<|bY k<|k.wrap<|a-b
  |.mul=>.ok<|bY k<|k.wrap<|a*b
  |.rem=>if b=0 then .error "" else .ok<|bY k<|a.tmod b
  |.and=>.ok<|bY k<|k.wrap (aw k.bits a&&&aw k.bits b).toNat
  |.or=>.ok<|bY k<|k.wrap (aw k.bits a|||aw k.bits b).toNat
  |.andNot=>.ok<|bY k<|k.wrap (aw k.bits a&&&~~~(aw k.bits b)).toNat
  |.eql=>.ok<|cO<|a==b
  |.neq=>.ok<|cO<|a !=b
  |.lss=>.ok<|cO<|ax<|a<b
  |.leq=>.ok<|cO<|ax<|a<=b
  |.gtr=>.ok<|cO<|ax<|a>b
  |.geq=>.ok<|cO<|ax<|a>=b
  |_=>.error ""
 else .error ""
def zK(l:BinOp)(a b:List UInt8):R AV:=
 match l with
 |.eql=>.ok<|cO<|a==b
 |.neq=>.ok<|cO<|!(a==b)
 |_=>.error ""
def mb(D:a_)(l:BinOp)(t:Nat)(x y:AV):R AV:=
 match l with
 |.eql=>do return cO (<-bX D 10 t x y)
 |.neq=>do return cO (!(<-bX D 10 t x y))
 |_=>.error ""
def binOp(D:a_)(A:BinOp)(t:Nat)(x y:AV)(c:Bool):R AV:=
 match x,y with
 |.aN (.int k a),.aN (.int e b)=>hP A k e a b
 |.aN (.string ⟨⟨a⟩⟩),.aN (.string ⟨⟨b⟩⟩)=>zK A a b
 |.agg xs,.agg ys=>if o_ D 10 t then mb D A t (.agg xs) (.agg ys)else .error ""
 |.aN (.bool a),.aN (.bool b)=>mb D A t (.aN<|.bool a)<|.aN<|.bool b
 |.aN (.slice ae l c),y=>mb D A t (.aN<|.slice ae l c) y
 |.aN (.slice (ad a) l c),.aN (.slice ae N T)=>mb D A t (.aN<|.slice (ad a) l c)<|.aN<|.slice ae N T
 |.slice b o n k s,.aN (.slice ae l c)=>mb D A t (.slice b o n k s)<|.aN<|.slice ae l c
 |.ik b o n s,.aN (.slice ae l c)=>mb D A t (.ik b o n s)<|.aN<|.slice ae l c
 |_,_=>.error ""
def unOp(l:UnOp)(x:AV):R AV:=
 match l,x with
 |.not,.aN (.bool b)=>.ok<|cO<|!b
 |_,_=>.error ""
def nZ(D:a_)(v Z:Nat)(x:AV):R AV:=do
 let s<-cP D v
 let d<-cP D Z
 match s,d,x with
 |.int _,.int k,.aN (.int _ n)=>return bY k (k.wrap n)
 |_,_,_=>.error ""
def fill(place:Nat->Option (Nat×Nat))(s:List AV):List (Nat×AV)->R (List AV)
 |[]=>.ok s
 |(i,v)::rest=>
  match place i with
  |ae=>.error ""
  |ad (off,sz)=>
   if aA v.cells=sz/\ off+aA v.cells<=aA s then fill place (iY s off v.cells) rest
   else .error ""
def lI(z:List AV):Nat->List AV
 |0=>[]
 |n+1=>z++lI z n
def B5(D:a_):List Field->R (List<|Nat×Nat)
 |[]=>.ok []
 |f::u=>do
  let n<-size D f.type
  let l<-B5 D u
  return(f.offset,n)::l
def build(D:a_)(t:Nat)(M:List<|Nat×AV):R AV:=do
 let z<-zero D t
 let d<-cP D t
 match d with
 |.struct Z=>do
  let O<-B5 D Z.toList
  let cs<-fill (λi=>O[i]?) z.cells M
  return .agg cs
 |_=>.error ""
def q9(D:a_)(t:Nat):R Nat:=do
 let d<-cP D t
 match d with
 |.slice e=>return e
 |_=>.error ""
def sw(D:a_)(W n:Nat):R (List AV):=do
 let s<-size D W
 if n*s=0 then return[]else do
 let z<-zero D W
 if aA z.cells=s then return lI z.cells n else .error ""
def fe(x:AV)(y:Nat):R Nat:=do
 let(_,i)<-pI x
 if 0<=i/\ i<=y then return i.toNat else .error ""
def dU(x:Option AV)(y d:Nat):R Nat:=match x with|ad v=>fe v y|ae=>.ok d
def pq(D:a_)(t:Nat)(x:AV)(P i mx:Option AV):R AV:=do
 let d<-cP D t
 match d,x with
 |.slice W,.aN (.slice ae L cap)=>
  if mx.isSome&&i.isNone then .error "" else do
  let _<-size D W
  let m<-dU mx cap cap
  let h<-dU i m L
  let l<-dU P h 0
  return .aN (.slice ae (h-l)<|m-l)
 |.slice W,.aN (.slice (ad a) 0 0)=>
  if mx.isSome&&i.isNone then .error "" else do
  let _<-size D W
  let m<-dU mx 0 0
  let h<-dU i m 0
  let l<-dU P h 0
  if m=l&&h=0 then return .aN (.slice (ad a) 0 0)else .error ""
 |.slice W,.slice b o L (ad cap) sz=>
  if mx.isSome&&i.isNone then .error "" else do
  let m<-dU mx cap cap
  let h<-dU i m L
  let l<-dU P h 0
  let s<-size D W
  if s=sz then return .slice b (if m=l then o else o+l*s) (h-l) (ad<|m-l) sz else .error ""
 |.slice W,.slice b o L ae sz=>do
  let s<-size D W
  if s=sz/\ 0<sz then
   match mx with
   |ad e=>
    if i.isNone then .error "" else do
    let m<-fe e L
    let h<-dU i m L
    let l<-dU P h 0
    return .slice b (if m=l then o else o+l*s) (h-l) (ad<|m-l) sz
   |ae=>do
    let h<-dU i L L
    let l<-dU P h 0
    if l=0 then return .slice b o h ae sz
    else if l<L then return .slice b (o+l*s) (h-l) ae sz
    else return .ik b o l sz
  else .error ""
 |.array n W,.aR b o=>
  if mx.isSome&&i.isNone then .error "" else do
  let m<-dU mx n n
  let h<-dU i m n
  let l<-dU P h 0
  let s<-size D W
  return .slice b (if m=l then o else o+l*s) (h-l) (ad<|m-l) s
 |_,_=>.error ""
def indexAddr(D:a_)(t:Nat)(x T:AV):R AV:=do
 let(_,i)<-pI T
 let d<-cP D t
 match d,x with
 |.array L W,.aR b o=>do
  let s<-size D W
  if 0<=i/\ i<L then return .aR b (o+i.toNat*s)else .error ""
 |.slice W,.slice b o L _ _=>do
  let s<-size D W
  if 0<=i/\ i<L then return .aR b (o+i.toNat*s)else .error ""
 |_,_=>.error ""
def vE(D:a_)(t:Nat)(x T:AV):R AV:=do
 let(_,i)<-pI T
 let d<-cP D t
 match d,x with
 |.array L W,.agg cs=>do
  let s<-size D W
  if 0<=i/\ i<L then part D W cs (i.toNat*s)else .error ""
 |.string,.aN (.string ⟨⟨s⟩⟩)=>
  if 0<=i then match s[i.toNat]? with
   |ad b=>return bY .u8 b.toNat
   |ae=>.error ""
  else .error ""
 |_,_=>.error ""
def A_(D:a_)(t f:Nat):R Field:=do
 let d<-cP D t
 match d with
 |.struct Z=>match Z.toList[f]? with
  |ad j=>return j
  |ae=>.error ""
 |_=>.error ""
def fieldAddr(D:a_)(t:Nat)(x:AV)(f:Nat):R AV:=do
 let j<-A_ D t f
 let s<-size D j.type
 match x with
 |.aR b o=>if s=0 then .error "" else return .aR b (o+j.offset)
 |_=>.error ""
def zi(mx:Bool):AV->List AV->R AV
 |x,[]=>.ok x
 |.aN (.int k a),.aN (.int _ b)::l=>zi mx (bY k<|if mx then(if b>a then b else a)else(if b<a then b else a)) l
 |_,_=>.error ""
def nz(D:a_)(t:Nat)(x:AV):R AV:=do
 let d<-cP D t
 match d,x with
 |.string,.aN (.string ⟨⟨l⟩⟩)=>return js (aA l)
 |.array n _,_=>return js n
 |.slice _,.slice _ _ n _ _=>return js n
 |.slice _,.ik _ _ _ _=>return js 0
 |.slice _,.aN (.slice _ n _)=>return js n
 |_,_=>.error ""
inductive OI where
 |pure|je|alloc|cB
 deriving DecidableEq
def AF:Op->OI
 |.move _|.assign _|.pick ..|.build ..|.nilCheck _|.binOp ..|.unOp ..
 |.makeFunc ..|.slice ..|.fieldAddr ..|.indexAddr ..|.index ..|.extract ..=>.pure
 |.call {callee:=.builtin .len, ..}|.call {callee:=.builtin .min, ..}|.call {callee:=.builtin .max, ..}=>.pure
 |.load ..|.lookup ..|.convert ..=>.je
 |.alloc _|.box ..|.buildSlice ..|.makeMap ..|.makeSlice ..=>.alloc
 |_=>.cB
def tw(D:a_)(s d:Nat):Bool:=
 match cP D s,cP D d with
 |.ok .string,.ok (.slice V)=>match cP D V with
  |.ok (.int .u8)=>aa
  |_=>ab
 |_,_=>ab
def jo(D:a_):Op->OI
 |.convert s d _=>bif tw D s d then .cB else .je
 |op=>AF op
def pX:Operand->Bool
 |.const _=>aa
 |_=>ab
def gy(D:a_)(e:Operand->AV)(A:Op):R AV:=
 match A with
 |.move x|.assign x=>.ok<|e x
 |.pick c a b=>do
  let t<-Ap (e c)
  return if t then e a else e b
 |.build t M=>build D t<|M.toList.map λp=>(p.1,e p.2)
 |.nilCheck x=>
  match e x with
  |.aR b o=>.ok<|.aR b o
  |.func (.func f) a b=>.ok<|.func (.func f) a b
  |.yield l=>.ok<|.yield l
  |.iface t v=>.ok<|.iface t v
  |_=>.error ""
 |.binOp A t x y _=>binOp D A t (e x) (e y)<|pX x||pX y
 |.unOp A _ x=>unOp A<|e x
 |.convert s d x=>nZ D s d<|e x
 |.makeFunc fn first U=>.ok<|.func fn (first.toList.map e)<|U.toList.map e
 |.slice t x n i mx=>pq D t (e x) (n.map e) (i.map e)<|mx.map e
 |.fieldAddr t x f=>fieldAddr D t (e x) f
 |.indexAddr t x T=>indexAddr D t (e x)<|e T
 |.index t x T=>vE D t (e x)<|e T
 |.extract t T=>
  match e t with
  |.tuple q=>match q[T]? with
   |ad x=>.ok x
   |ae=>.error ""
  |_=>.error ""
 |.call {callee:=.builtin b,args,argTypes}=>
  match b,argTypes.toList,args.toList with
  |.len,t::_,[x]=>nz D t<|e x
  |.min,_,x::l=>zi ab (e x)<|l.map e
  |.max,_,x::l=>zi aa (e x)<|l.map e
  |_,_,_=>.error ""
 |_=>.error ""
def HT(F:Nat->Bool):List Field->Bool
 |[]=>aa
 |f::D=>f.name != "_"&&F f.type&&HT F D
def mS(D:a_):Nat->Nat->Bool
 |0,_=>ab
 |d+1,t=>
  match cP D t with
  |.ok .bool|.ok (.int _)|.ok .string=>aa
  |.ok (.struct u)=>HT (mS D d) u.toList
  |.ok (.array _ e)=>mS D d e
  |_=>ab
def findKey(D:a_)(t:Nat)(k:AV):List (AV×AV×Nat)->Nat->R (Option<|Nat×AV)
 |[],_=>.ok ae
 |(e,v,_)::es,i=>do
  let r<-bX D 10 t k e
  if r then return ad (i,v)else findKey D t k es<|i+1
def p'(σ:St)(x:AV):R (List (AV×AV×Nat)×Nat):=
 match x with
 |.aN (.map ae)=>.ok ([],0)
 |.cz b=>
  if b<σ.n then
   match σ.a7 b with
   |.map es d=>.ok (es,d)
   |_=>.error ""
  else .error ""
 |_=>.error ""
def DX(D:a_)(σ:St)(t:Nat)(x T:AV)(f:Bool):R AV:=do
 let d<-cP D t
 match d with
 |.map l W=>
  if mS D 10 l then do
   let(es,_)<-p' σ x
   let r<-bX D 10 l T T
   if !r then .error "" else do
   let r<-findKey D l T es 0
   match r with
   |ad (_,v)=>return(if f then .tuple [v,cO aa]else v)
   |ae=>do
    let z<-zero D W
    return(if f then .tuple [z,cO ab]else z)
  else .error ""
 |_=>.error ""
def kM(D:a_)(σ:St)(e:Operand->AV)(l:Op):R AV:=
 match l with
 |.load t a=>jw D σ t<|e a
 |.lookup t x T f=>DX D σ t (e x) (e T) f
 |.convert s d x=>nZ D s d<|e x
 |_=>.error ""
def jT(D:a_)(e:Operand->AV)(A:Op)(b:Nat):R (AV×AO):=
 match A with
 |.alloc W=>do
  let z<-zero D W
  let s<-size D W
  return(.aR b 0,.cells z.cells W aa s)
 |.box W x=>do
  let s<-size D W
  return(.aR b 0,.cells (e x).cells W aa s)
 |.buildSlice t L M=>do
  let W<-q9 D t
  let s<-size D W
  if L*s>2^24 then .error "" else do
  let z<-sw D W L
  let cells<-fill (λi=>ad (i*s,s)) z (M.toList.map λp=>(p.1,e p.2))
  return(.slice b 0 L (ad L) s,.cells cells W aa s)
 |.makeMap t r=>
  match r with
  |ae=>.ok (.cz b,.map [] 0)
  |ad h=>do
   let d<-cP D t
   let _<-pI (e h)
   match d with
   |.map _ _=>return(.cz b,.map [] 0)
   |_=>.error ""
 |.makeSlice t l c=>do
  let W<-q9 D t
  let(_,l)<-pI (e l)
  let(_,c)<-pI (e c)
  let i<-rW D W
  if 0<=l/\ l<=c/\ c<2^30/\ i.bytes<2^16 then do
   let s<-size D W
   let z<-sw D W c.toNat
   return(.slice b 0 l.toNat (ad c.toNat) s,.cells z W aa s)
  else .error ""
 |_=>.error ""
inductive jj where
 |value (v:AV)
 |skip
 |enter (f:FuncId) (args:List AV)
 |round (l:Nat) (args:List AV)
 |defer (d:bT)
 |panic (v:AV)
def xO:AV->Bool
 |.aN (.bool _)|.aN (.int _ _)|.aN (.string _)=>aa
 |_=>ab
def tq:AV->Bool
 |.agg cs=>cs.all xO
 |v=>xO v
def mV(v:AV):Nat->List (AV×AV×Nat)->List (AV×AV×Nat)
 |_,[]=>[]
 |0,(k,_,b)::es=>(k,v,b)::es
 |i+1,e::es=>e::mV v i es
def mapUpdate(D:a_)(σ:St)(t:Nat)(m k v:AV):R St:=do
 let d<-cP D t
 match d,m with
 |.map l _,.cz b=>
  if mS D 10 l then do
   let(es,Y)<-p' σ m
   let r<-bX D 10 l k k
   if !r then .error "" else do
   let r<-findKey D l k es 0
   match r with
   |ad (i,_)=>if tq k&&(match es[i]? with|ad e=>cU e.1 k|ae=>ab)then return σ.set b (.map (mV v i es) Y)else .error ""
   |ae=>return σ.set b (.map (es++[(k,v,Y)])<|Y+1)
  else .error ""
 |_,_=>.error ""
def lH(D:a_)(σ:St)(t:Nat)(x:AV):R (AV×St):=do
 let d<-cP D t
 match d,x with
 |.map _ _,.aN (.map ae)=>return(.aR σ.n 0,σ.push<|.r6 ae 0 [] 0)
 |.map _ _,.cz m=>do
  let(_,Y)<-p' σ (.cz m)
  return(.aR σ.n 0,σ.push<|.r6 (ad m) Y [] Y)
 |_,_=>.error ""
def MD(σ:St)(O:AV)(c:Bool):R (AV×St):=
 match O with
 |.aR r 0=>do
  let o<-σ.get r
  match o,c with
  |.r6 ae _ _ _,ab=>return(.tuple [cO ab],σ)
  |.r6 (ad m) G seen last,ab=>do
   let(es,d)<-p' σ (.cz m)
   if !seen.isEmpty&&!es.isEmpty&&es.all (λe=>decide (e.2.2>=last))then .error "" else
   match(es.filter λe=>!seen.contains e.2.2).filter (λe=>decide (e.2.2<G)),(es.filter λe=>!seen.contains e.2.2).filter (λe=>decide (e.2.2>=G))with
   |[],[]=>return(.tuple [cO ab],σ)
   |[e],[]=>return(.tuple [cO aa,e.1,e.2.1],σ.set r<|.r6 (ad m) G (seen++[e.2.2]) d)
   |_,_=>.error ""
  |_,_=>.error ""
 |_=>.error ""
def KL(σ:St)(O:AV):R AV:=
 match O with
 |.aR r 0=>do
  let o<-σ.get r
  match o with
  |.r6 (ad m) _ seen T=>do
   let(es,d)<-p' σ (.cz m)
   if d=T then
    match seen.getLast? with
    |ad P=>match es.find? (λx=>x.2.2==P)with
     |ad x=>return .tuple [x.1,x.2.1]
     |ae=>.error ""
    |ae=>.error ""
   else .error ""
  |_=>.error ""
 |_=>.error ""
def pr(σ:St)(sz:Nat)(x:AV):R (List AV×Nat):=
 match x with
 |.aN (.slice _ 0 _)=>.ok ([],0)
 |.ik _ _ _ _=>.ok ([],0)
 |.aN (.string ⟨⟨l⟩⟩)=>if sz=1 then .ok (l.map λc=>bY .u8 c.toNat,aA l)else .error ""
 |.slice b o L _ _=>do
  let cs<-cellsOf σ b
  let l<-fO cs o (L*sz)
  return(l,L)
 |_=>.error ""
def l_(D:a_)(σ:St)(B v:Nat)(s x:AV):R (AV×St):=do
 let W<-q9 D B
 let sz<-size D W
 let i<-rW D W
 let Y<-cP D v
 let z<-zero D W
 let(new,n)<-pr σ sz x
 if !(ax (n<2^30)&&ax (0<i.bytes/\ i.bytes<2^14/\ 0<sz)&&!vH Y&&aA z.cells==sz)then .error "" else
 match s with
 |.aN (.slice _ 0 0)=>
  if n=0 then return(s,σ)
  else return(.slice σ.n 0 n ae sz,σ.push<|.cells new W aa sz)
 |.slice b o L cap A=>
  if !(ax (L+n<2^30)&&A==sz)then .error "" else do
  let cs<-cellsOf σ b
  let old<-fO cs o (L*sz)
  match cap with
  |ad c=>
   if L+n<=c then do
    let σ'<-storeCells σ b (o+L*sz) new
    return(.slice b o (L+n) cap sz,σ')
   else return(.slice σ.n 0 (L+n) ae sz,σ.push<|.cells (old++new) W aa sz)
  |ae=>
   match σ.a7 b with
   |.cells _ F U N=>
    if !(F==W&&U&&N==sz&&o==0)then .error "" else
    if !(new.all AV.dN)then .error ""
    else return(.slice σ.n 0 (L+n) ae sz,(σ.set b .c5).push<|.cells (old++new) W aa sz)
   |_=>.error ""
 |_=>.error ""
def C6(D:a_)(σ:St)(T:Nat)(Z v:AV):R (AV×St):=do
 let W<-q9 D T
 let sz<-size D W
 match Z with
 |.slice b o c _ _=>do
  let(new,n)<-pr σ sz v
  let σ'<-storeCells σ b o (new.take<|min n c*sz)
  return(js<|min n c,σ')
 |_=>.error ""
def Ko(D:a_)(σ:St)(t:Nat)(x:AV):R (AV×St):=do
 let W<-q9 D t
 match x with
 |.aN (.slice ae _ _)=>return(.undef,σ)
 |.slice b o n _ _=>do
  let z<-zero D W
  let σ'<-storeCells σ b o (lI z.cells n)
  return(.undef,σ')
 |_=>.error ""
def sM(D:a_)(f:FuncId)(args:List AV):R jj:=
 match D.func f with
 |ad fn=>
  if fn.name== "runtime.NumGoroutine" then .error "" else
  if fn.body.isSome then .ok (.enter f args)else .error ""
 |ae=>.error ""
def vG(D:a_)(fn:Fn)(U args:List AV):R jj:=
 match fn with
 |.func f=>sM D f<|args++U
 |_=>.error ""
def pL(D:a_)(f:AV)(args:List AV):R jj:=
 match f with
 |.yield l=>.ok<|.round l args
 |.func fn first U=>vG D fn U<|first++args
 |_=>.error ""
def EO(D:a_)(σ:St)(v Z:Nat)(x:AV):R (AV×St):=do
 let _<-cP D v
 let d<-cP D Z
 match d,x with
 |.slice V,.aN (.string ⟨⟨l⟩⟩)=>do
  let O<-cP D V
  match O with
  |.int .u8=>return(.slice σ.n 0 (aA l) ae 1,σ.push<|.cells (l.map λc=>bY .u8 c.toNat) V ab 1)
  |_=>.error ""
 |_,_=>.error ""
def mG(D:a_)(σ:St)(e:Operand->AV)(l:Op):R (jj×St):=
 match l with
 |.store t a x=>do
  let σ'<-wt D σ t (e a) (e x)
  return(.skip,σ')
 |.mapUpdate t m k x=>do
  let σ'<-mapUpdate D σ t (e m) (e k) (e x)
  return(.skip,σ')
 |.range t x=>do
  let(v,σ')<-lH D σ t (e x)
  return(.value v,σ')
 |.next O i=>do
  let(v,σ')<-MD σ (e O) i
  return(.value v,σ')
 |.entry O=>do
  let v<-KL σ (e O)
  return(.value v,σ)
 |.convert s d x=>do
  let(v,σ')<-EO D σ s d (e x)
  return(.value v,σ')
 |.call c=>
  match c.callee with
  |.builtin b=>
   match b,c.argTypes.toList,c.args.toList with
   |.append,[t,u],[s,x]=>do
    let(v,σ')<-l_ D σ t u (e s) (e x)
    return(.value v,σ')
   |.copy,t::_,[d,s]=>do
    let(v,σ')<-C6 D σ t (e d) (e s)
    return(.value v,σ')
   |.clear,t::_,[x]=>do
    let(v,σ')<-Ko D σ t (e x)
    return(.value v,σ')
   |_,_,_=>.error ""
  |.value f=>do
   let h<-pL D (e f) (c.args.toList.map e)
   return(h,σ)
  |_=>.error ""
 |.defer c=>
  match c.callee with
  |.value f=>match e f with
   |.func fn first U=>.ok (.defer<|.fn fn U<|first++c.args.toList.map e,σ)
   |_=>.error ""
  |_=>.error ""
 |_=>.error ""
def execOp(D:a_)(e:Operand->AV)(σ:St)(l:Op):R (jj×St):=
 match jo D l with
 |.pure=>do
  let v<-gy D e l
  return(.value v,σ)
 |.je=>do
  let v<-kM D σ e l
  return(.value v,σ)
 |.alloc=>do
  let(v,o)<-jT D e l σ.n
  return(.value v,σ.push o)
 |.cB=>mG D σ e l
def Kb:AO->AO->Bool
 |.cells cs e o s,.cells C B N F=>e==B&&o==N&&s==F&&kf cs C
 |.c5,.c5=>aa
 |_,_=>ab
def tK:List AO->List AO->Bool
 |[],[]=>aa
 |x::xs,y::ys=>Kb x y&&tK xs ys
 |_,_=>ab
def wS(U:Bool)(cap:Option Nat)(o L sz k:Nat):Bool:=
 match cap with
 |ae=>!U||ag o 0
 |ad c=>ah 0 sz&&ai L c&&(!U||(ai (o+c*sz) k&&ag o 0))
def qz(f:AV->St->R (AV×St)):List AV->St->R (List AV×St)
 |[],Z=>.ok ([],Z)
 |x::l,Z=>do
  let(x,Z)<-f x Z
  let(l,Z)<-qz f l Z
  return(x::l,Z)
def iQ(U:Bool)(T:St):Nat->AV->St->R (AV×St)
 |0,_,_=>.error ""
 |n+1,v,Z=>
  match v with
  |.aN v=>.ok (.aN v,Z)
  |.slice b o L cap sz=>
   match T.a7 b with
   |.cells cs W C A=>
    if(!U||(C&&A==sz))&&wS U cap o L sz (aA cs)then do
     let l<-fO cs o (L*sz)
     let(l,Z)<-qz (iQ U T n) l Z
     return(.slice Z.n 0 L ae sz,Z.push<|.cells l W U sz)
    else .error ""
   |_=>.error ""
  |.iface t v=>do
   let(v,Z)<-iQ U T n v Z
   return(.iface t v,Z)
  |.agg l=>do
   let(l,Z)<-qz (iQ U T n) l Z
   return(.agg l,Z)
  |.tuple l=>do
   let(l,Z)<-qz (iQ U T n) l Z
   return(.tuple l,Z)
  |.func (.func f) [] []=>.ok (.func (.func f) [] [],Z)
  |_=>.error ""
def kN(f:AV->List Nat):List AV->List Nat
 |[]=>[]
 |x::l=>f x++kN f l
def fY(T:St):Nat->AV->List Nat
 |0,_=>[]
 |n+1,v=>
  match v with
  |.slice b o L _ sz=>
   match T.a7 b with
   |.cells cs _ _ _=>b::kN (fY T n) ((cs.drop o).take<|L*sz)
   |_=>[]
  |.iface _ v=>fY T n v
  |.agg l=>kN (fY T n) l
  |.tuple l=>kN (fY T n) l
  |_=>[]
def ti:List Nat->Bool
 |[]=>aa
 |x::l=>!l.contains x&&ti l
def kh:Nat:=30
def uF:Nat->List AO
 |0=>[]
 |n+1=>.c5::uF n
def qJ(D:a_)(M:eb):St:={n:=D.gx,l:=uF D.gx,M}
def yO(f:FuncId)(args:List AV)(h:List AO):List hZ->Option hZ
 |[]=>ae
 |m::O=>if m.f==f&&kf m.args args&&tK m.heap h then ad m else yO f args h O
mutual
def de(n:Nat):AV->Bool
 |.aN _=>aa
 |.aR b _=>ah b n
 |.slice b _ _ _ _=>ah b n
 |.ik b _ _ _=>ah b n
 |.cz b=>ah b n
 |.func _ a c=>cD n a&&cD n c
 |.yield l=>ah l n
 |.iface _ v=>de n v
 |.agg cs=>cD n cs
 |.tuple q=>cD n q
def cD(n:Nat):List AV->Bool
 |[]=>aa
 |v::l=>de n v&&cD n l
end
def dM(n:Nat):AO->Bool
 |.cells cs _ _ _=>cD n cs
 |.map [] _=>aa
 |_=>ab
structure cM where
 i:Nat
 lo:Nat
 cB:Bool
def aiv(ops:Array Oper)(i:Nat):Bool:=AF (ops.getD i default).op==.cB
def xi(ops:Array Oper):List Nat:=ao ops.size
def u6(ops:Array Oper):List Nat:=(xi ops).filter<|aiv ops
def k5(b:Array Nat)(i j:Nat):Bool:=(b.getD j 0).testBit i
def nV(m i:Nat):Bool:=ag (Nat.land (Nat.shiftRight m i) 1) 1
def mR:List Nat->Nat->Nat
 |[],_=>0
 |x::l,i=>bif ag i 0 then x else mR l<|Nat.sub i 1
def qB(G:List Nat)(k:Nat):List Edge->Nat
 |[]=>0
 |e::l=>
  bif Region.binds .any e then Nat.lor (Nat.lor (aj 1 e.on)<|bif ah e.on k then mR G (Nat.sub (Nat.sub k 1) e.on)else 0) (qB G k l)
  else qB G k l
def iG:List Oper->List Nat->Nat->List Nat
 |[],_,_=>[]
 |o::l,G,k=>qB G k o.after.toList::iG l (qB G k o.after.toList::G) (Nat.succ k)
def UJ(o:Oper):Bool:=
 match AF o.op with
 |.cB=>aa
 |_=>ab
def FK:List Oper->Nat->List Nat
 |[],_=>[]
 |o::l,i=>bif UJ o then i::FK l (Nat.succ i)else FK l<|Nat.succ i
def LV:List Oper->Nat->List Nat
 |[],_=>[]
 |o::l,i=>bif UJ o then LV l (Nat.succ i)else i::LV l (Nat.succ i)
def Ga(m:Nat):List Nat->Nat
 |[]=>0
 |a::l=>bif nV m a then Nat.succ (Ga m l)else Ga m l
def LW(bs I:List Nat)(m:Nat)(t:List cM):List Nat->List cM
 |[]=>t
 |i::l=>bif nV m i then⟨i,Ga (mR bs i) I,ab⟩::LW bs I m t l else LW bs I m t l
def Nk(m:Nat):List Nat->List Nat
 |[]=>[]
 |i::l=>bif nV m i then Nk m l else i::Nk m l
def Uu(bs I:List Nat):List Nat->List cM
 |[]=>[]
 |i::l=>⟨i,Ga (mR bs i) I,ab⟩::Uu bs I l
def Xa(bs I:List Nat):List Nat->List Nat->List cM
 |[],M=>Uu bs I M
 |a::rest,M=>LW bs I (mR bs a) (⟨a,0,aa⟩::Xa bs I rest (Nk (mR bs a) M)) M
def Er(ops:Array Oper):List cM:=Xa (iG ops.toList [] 0) (FK ops.toList 0) (FK ops.toList 0)<|LV ops.toList 0
def n_(ops:Array Oper)(i:Nat):Option Tmp:=(ops[i]?).bind (·.dst)
def oG(ops:Array Oper)(p:List cM)(t:Tmp):Bool:=p.any λO=>n_ ops O.i==ad t
def oX:List cM->Option Nat
 |[]=>ae
 |it::rest=>if it.cB then ad it.i else oX rest
def r_(ops:Array Oper)(o:Oper):List Tmp:=
 (o.op.operands.toList.filterMap λ|.tmp t=>ad t|_=>ae)++
 (match o.guard with
  |ad (g,_)=>((ops[g]?).bind (·.dst)).toList
  |ae=>[])
def DH:Op->Bool
 |.select ..=>aa
 |_=>ab
def r7(ops:Array Oper)(b:Array Nat):Bool:=
 (xi ops).all λj=>(xi ops).all λi=>!k5 b i j||
   match ops[j]? with
   |ad o=>o.after.toList.any λe=>Region.binds .any e&&(e.on==i||k5 b i e.on)
   |ae=>ab
def sa(ops:Array Oper)(m:Nat)(b:Array Nat)(I:List Nat):List Nat->List cM->Bool
 |_,[]=>aa
 |seen,O::rest=>
  (match ops[O.i]? with
  |ae=>ab
  |ad o=>
   ah O.i m&&!DH o.op&&!seen.contains O.i&&
   (o.after.toList.all λe=>!Region.binds .any e||seen.contains e.on)&&
   (match oX rest with
     |ad a=>k5 b O.i a
     |ae=>aa)&&
   (O.lo==0||match I[O.lo-1]? with
     |ad a=>k5 b a O.i
     |ae=>ab)&&
   ((r_ ops o).all λt=>!oG ops (O::rest) t&&(ao m).all λj=>n_ ops j !=ad t||k5 b j O.i)&&
   (match o.dst with
     |ad d=>!oG ops rest d
     |ae=>aa))&&
  sa ops m b I (O.i::seen) rest
def l5(ops:Array Oper):Array Nat:=(iG ops.toList [] 0).toArray
def JO(ops:Array Oper)(m:Nat):Bool:=(ao m).all λi=>(xi ops).all λj=>ah j m||k5 (l5 ops) i j
def sd(ops:Array Oper)(m:Nat):List cM:=(Er ops).filter λO=>ah O.i m
def Gn(ops:Array Oper)(m:Nat):Bool:=
 ai m ops.size&&JO ops m&&sa ops m (l5 ops) (((sd ops m).filter (·.cB)).map (·.i)) [] (sd ops m)&&
 (ao m).all λi=>(sd ops m).any λO=>O.i==i
def cu(T:List AV)(Z:Option Tmp)(v:AV):List AV:=
 match Z with
 |ad d=>T.set d v
 |ae=>T
def zO(ops:Array Oper)(T:List AV)(j:Nat):Option Bool:=
 match((ops[j]?).bind (·.dst)).bind (T[·]?)with
 |ad (.aN<|.bool b)=>ad b
 |_=>ae
def ji(ops:Array Oper)(o:Oper)(T:List AV):Bool:=
 match o.guard with
 |ae=>aa
 |ad (j,k)=>zO ops T j==ad k
inductive cY where
 |ret (v:AV)
 |panic (v:AV)
abbrev bM:=Option<|AV×Bool
abbrev iZ:=FuncId->List AV->St->R (cY×St)
abbrev i6:=Nat->List AV->St->R (cY×St)
inductive nb where
 |go (T:List AV) (defers:List bT) (bp:bM) (σ:St)
 |panic (v:AV) (T:List AV) (defers:List bT) (bp:bM) (σ:St)
def mr(D:a_)(g:iZ)(round:i6)(isRound:Bool)(o:Oper)(T:List AV)(ds:List bT)(c:bM)(σ:St):R nb:=do
 let(h,σ)<-execOp D (dV D T) σ o.op
 match h with
 |.value v=>return .go (cu T o.dst v) ds c σ
 |.skip=>return .go (cu T o.dst .undef) ds c σ
 |.defer d=>if isRound then .error "" else return .go (cu T o.dst .undef) (d::ds) c σ
 |.panic v=>return .panic v T ds c σ
 |.enter f args=>do
  let(e,σ)<-g f args σ
  match e with
  |.ret v=>return .go (cu T o.dst v) ds c σ
  |.panic v=>return .panic v T ds c σ
 |.round l args=>do
  let(e,σ)<-round l args σ
  match e with
  |.ret v=>return .go (cu T o.dst v) ds c σ
  |.panic v=>return .panic v T ds c σ
def lg(D:a_)(g:iZ)(G:i6)(isRound:Bool)(ops:Array Oper):List Oper->List AV->List bT->bM->St->R nb
 |[],T,ds,c,σ=>.ok<|.go T ds c σ
 |o::rest,T,ds,c,σ=>
  if ji ops o T then do
   let r<-mr D g G isRound o T ds c σ
   match r with
   |.go T ds c σ=>lg D g G isRound ops rest T ds c σ
   |.panic v T ds c σ=>return .panic v T ds c σ
  else lg D g G isRound ops rest (cu T o.dst .undef) ds c σ
def si(D:a_)(T:List AV)(l:Op)(v:AV)(U:St):Bool:=
 match kM D U (dV D T) l with
 |.ok g=>cU g v
 |.error _=>ab
def nH(D:a_)(g:iZ)(G:i6)(isRound:Bool)(ops:Array Oper):List cM->List St->List AV->List bT->bM->St->R nb
 |[],_,T,ds,c,σ=>.ok<|.go T ds c σ
 |it::rest,k,T,ds,c,σ=>
  match ops[it.i]? with
  |ae=>.error ""
  |ad o=>
  if ji ops o T then
   if it.cB then do
    if o.op.operands.toList.all λx=>de σ.n (dV D T x)then do
     let r<-mr D g G isRound o T ds c σ
     match r with
     |.go T ds c σ'=>if σ.n<=σ'.n then nH D g G isRound ops rest (σ'::k) T ds c σ' else .error ""
     |.panic ..=>.error ""
    else .error ""
   else
    match jo D o.op with
    |.pure=>do
     let v<-gy D (dV D T) o.op
     nH D g G isRound ops rest k (cu T o.dst v) ds c σ
    |.je=>do
     let v<-kM D σ (dV D T) o.op
     if it.lo<aA k&&(k.take<|aA k-it.lo).all (si D T o.op v)then
      nH D g G isRound ops rest k (cu T o.dst v) ds c σ
     else .error ""
    |.alloc=>do
     let(v,ob)<-jT D (dV D T) o.op σ.n
     if dM (σ.n+1) ob then nH D g G isRound ops rest k (cu T o.dst v) ds c (σ.push ob)else .error ""
    |.cB=>.error ""
  else
   nH D g G isRound ops rest (if it.cB then σ::k else k) (cu T o.dst .undef) ds c σ
def zA(m a:Nat):List Edge->Bool
 |[]=>aa
 |e::l=>bif Region.binds .any e then bif ah e.on m then zA m a l else bif nV a e.on then zA m a l else ab else zA m a l
def rG(ops:Array Oper)(m a i:Nat):Bool:=
 bif nV a i then ab else
 match ops[i]? with
 |ad o=>zA m a o.after.toList
 |ae=>ab
def q7(D:a_)(g:iZ)(G:i6)(isRound:Bool)(ops:Array Oper)(E:Bool)(T:List AV)(ds:List bT)(c:bM)(σ:St):R nb:=
 if E then
  if Gn ops (D.cut ops)then do
   let r<-nH D g G isRound ops (sd ops<|D.cut ops) [σ] T ds c σ
   match r with
   |.go T ds c σ=>
    if ops.size=D.cut ops+1 then
     if rG ops (D.cut ops) 0 (D.cut ops)then lg D g G isRound ops (ops.toList.drop<|D.cut ops) T ds c σ else .error ""
    else if ops.size<=D.cut ops then return .go T ds c σ else .error ""
   |.panic ..=>.error ""
  else .error ("plan "++(ops[0]?.map (·.pos)).getD "")
 else lg D g G isRound ops ops.toList T ds c σ
def RY:Option Tmp->Nat
 |ae=>0
 |ad d=>Nat.succ d
def U8:List Oper->Nat
 |[]=>0
 |o::l=>
  match l with
  |[]=>RY o.dst
  |_=>U8 l
def Ve:List Oper->Nat
 |[]=>0
 |_::l=>Nat.succ<|Ve l
def Gf(n a b:Nat):List (Nat×Nat×Nat×Nat)->Nat
 |[]=>n
 |(y,B,W,m)::l=>bif ag n y then bif ag a B then bif ag b W then m else Gf n a b l else Gf n a b l else Gf n a b l
def aeh(F:List<|Nat×Nat×Nat×Nat)(ops:Array Oper):Nat:=
 match ops.toList with
 |[]=>0
 |o::l=>Gf (Ve<|o::l) (RY o.dst) (U8<|o::l) F
structure bf where
 block:Nat
 shift:Nat
 ls:Nat
 sz:Nat
 deriving Inhabited
abbrev aI:=Nat->bf
def bf.at(L:bf)(o:Nat):Addr:=⟨L.block,L.shift+o,ae⟩
mutual
def aQ(ι:Nat->bf):AV->Value
 |.aN v=>v
 |.aR b o=>.pointer<|ad<|(ι b).at o
 |.slice b o L (ad c) _=>.slice (ad<|(ι b).at o) L c
 |.slice b o L ae _=>.slice (ad<|(ι b).at o) L<|(ι b).ls-o/(ι b).sz
 |.ik b o l _=>
  if(ι b).ls-o/(ι b).sz=l then .slice (ad<|(ι b).at o) 0 0
  else .slice (ad<|(ι b).at<|o+l*(ι b).sz) 0<|(ι b).ls-o/(ι b).sz-l
 |.cz b=>.map<|ad (ι b).block
 |.func fn a c=>.func fn (bb ι a).toArray (bb ι c).toArray
 |.yield l=>.func (.yield (ι l).block) #[] #[]
 |.iface t v=>.iface t<|aQ ι v
 |.agg cs=>.agg (bb ι cs).toArray
 |.tuple q=>.tuple (bb ι q).toArray
def bb(ι:Nat->bf):List AV->List Value
 |[]=>[]
 |v::l=>aQ ι v::bb ι l
end
def mK(ι:aI)(l:aD):bb ι l=l.map (aQ ι):=by
 induction l with
 |nil=>simp[bb]
 |cons v l I=>simp[bb,I]
mutual
def bB(ι:Nat->bf)(A:Nat->Prop):AV->Prop
 |.aN _=>True
 |.aR b _=>A b
 |.slice b _ _ (ad _) _=>A b
 |.slice b o L ae sz=>A b/\ (ι b).sz=sz/\ 0<sz/\ o/sz+L<=(ι b).ls
 |.ik b o l sz=>A b/\ (ι b).sz=sz/\ 0<sz/\ o/sz+l<=(ι b).ls
 |.cz b=>A b
 |.func _ a c=>b5 ι A a/\ b5 ι A c
 |.yield l=>A l
 |.iface _ v=>bB ι A v
 |.agg cs=>b5 ι A cs
 |.tuple q=>b5 ι A q
def b5(ι:Nat->bf)(A:Nat->Prop):List AV->Prop
 |[]=>True
 |v::l=>bB ι A v/\ b5 ι A l
end
def jF{ι:aI}{A:aE}{l:aD}:b5 ι A l↔∀v,v∈l->bB ι A v:=by
 induction l with
 |nil=>simp[b5]
 |cons v l I=>simp[b5,I]
mutual
def sY{ι ι':aI}{A B:aE}(h:∀b,A b->B b/\ ι' b=ι b):∀(v:AV),bB ι A v->bB ι' B v
 |.aN _,_=>trivial
 |.aR b _,k=>(h b k).1
 |.slice b _ _ (ad _) _,k=>(h b k).1
 |.slice b _ _ ae _,k=>⟨(h b k.1).1,by rw[(h b k.1).2];exact k.2⟩
 |.ik b _ _ _,k=>⟨(h b k.1).1,by rw[(h b k.1).2];exact k.2⟩
 |.cz b,k=>(h b k).1
 |.func _ a c,k=>⟨ju h a k.1,ju h c k.2⟩
 |.yield l,k=>(h l k).1
 |.iface _ v,k=>sY h v k
 |.agg V,k=>ju h V k
 |.tuple q,k=>ju h q k
def ju{ι ι':aI}{A B:aE}(h:∀b,A b->B b/\ ι' b=ι b):∀(l:aD),b5 ι A l->b5 ι' B l
 |[],_=>trivial
 |v::l,k=>⟨sY h v k.1,ju h l k.2⟩
end
mutual
def nY{ι ι':aI}{A:aE}(h:∀b,A b->ι' b=ι b):∀(v:AV),bB ι A v->aQ ι' v=aQ ι v
 |.aN _,_=>by simp[aQ]
 |.aR b _,k=>by simp[aQ,h b k]
 |.slice b _ _ (ad _) _,k=>by simp[aQ,h b k]
 |.slice b _ _ ae _,k=>by simp[aQ,h b k.1]
 |.ik b _ _ _,k=>by simp[aQ,h b k.1]
 |.cz b,k=>by simp[aQ,h b k]
 |.func _ a c,k=>by simp[aQ,lx h a k.1,lx h c k.2]
 |.yield l,k=>by simp[aQ,h l k]
 |.iface _ v,k=>by simp[aQ,nY h v k]
 |.agg V,k=>by simp[aQ,lx h V k]
 |.tuple q,k=>by simp[aQ,lx h q k]
def lx{ι ι':aI}{A:aE}(h:∀b,A b->ι' b=ι b):∀(l:aD),b5 ι A l->bb ι' l=bb ι l
 |[],_=>by simp[bb]
 |v::l,k=>by simp[bb,nY h v k.1,lx h l k.2]
end
def Ms(ι:aI)(l:List Value):bb ι (l.map .aN)=l:=by
 induction l with
 |nil=>simp[bb]
 |cons v l I=>simp[bb,aQ,I]
def ad7(ι:aI)(v:Value):aQ ι (uy v)=v:=by cases v<;>simp[uy,aQ,Ms]
def ad6(ι:aI)(l:List Value):bb ι (l.map uy)=l:=by
 induction l with
 |nil=>simp[bb]
 |cons v l I=>simp[bb,ad7,I]
@[simp] def atP(ι:aI)(v:Value):aQ ι (tl v)=v:=by cases v<;>simp[tl,aQ,Ms,ad6]
def LM(ι:aI)(A:aE)(l:List Value):b5 ι A (l.map .aN):=by
 induction l with
 |nil=>trivial
 |cons v l I=>exact⟨trivial,I⟩
def ahW(ι:aI)(A:aE)(v:Value):bB ι A (uy v):=by cases v<;>simp[uy,bB,LM]
def ahV(ι:aI)(A:aE)(l:List Value):b5 ι A (l.map uy):=by
 induction l with
 |nil=>trivial
 |cons v l I=>exact⟨ahW ι A v,I⟩
def LQ(ι:aI)(A:aE)(v:Value):bB ι A (tl v):=by cases v<;>simp[tl,bB,LM,ahV]
@[simp] def C'(ι:aI):aQ ι .undef=undef:=by simp[AV.undef,aQ,bb,undef]
def ud(ι:aI)(A:aE):bB ι A .undef:=by simp[AV.undef,bB,b5]
@[simp] def bK{α β:Type}{x:R α}{f:α->R β}{b:β}:(x>>=f)=.ok b↔∃a,x=.ok a/\ f a=.ok b:=by
  cases x with
  |error e=>simp[bind,Except.bind]
  |ok a=>simp[bind,Except.bind]
@[simp] def eo{α:Type}{a b:α}:(pure a:R α)=.ok b↔a=b:=by simp[pure,Except.pure]
def ad8{ι:aI}{v:AV}(h:v.dN=aa):∀V,aQ ι v≠.agg V/\ aQ ι v≠.tuple V:=by
 intro V
 cases v with
 |aN v=>cases v<;>simp_all [AV.dN,aQ]
 |slice b o L I j=>cases I<;>simp[aQ]
 |ik b o l s=>simp only[aQ];split<;>simp
 |_=>simp_all [AV.dN,aQ]
def vi(ι:aI)(b o L:Nat)(cap:Option Nat)(sz:Nat):
 ∃c,aQ ι (.slice b o L cap sz)=.slice (ad<|(ι b).at o) L c:=by
 cases cap with
 |none=>exact⟨(ι b).ls-o/(ι b).sz,by simp only[aQ]⟩
 |some c=>exact⟨c,by simp only[aQ]⟩
def AJ(ι:aI)(b o l sz:Nat):∃a c,aQ ι (.ik b o l sz)=.slice (ad a) 0 c:=by simp only[aQ];split;exact at6;exact at6
def wW{ι:aI}(v:AV):(aQ ι v).cells=(bb ι v.cells).toArray:=by
 cases v with
 |aN v=>cases v<;>simp_all [aQ,AV.cells,Value.cells,bb,Ms]
 |slice b o L I j=>cases I<;>simp[aQ,Value.cells,AV.cells,bb]
 |ik b o l s=>simp only[aQ,AV.cells,bb];split<;>simp[Value.cells]
 |_=>simp[aQ,AV.cells,Value.cells,bb]
def yZ{ι:aI}{A:aE}{v:AV}(h:bB ι A v):b5 ι A v.cells:=by
 cases v with
 |aN v=>cases v<;>simp[AV.cells,b5,bB,LM]
 |agg V=>simpa[AV.cells,bB]using h
 |_=>simpa[AV.cells,b5]using h
@[simp] def sN(ι:aI)(l:aD):aA (bb ι l)=aA l:=by simp[mK]
@[simp] def Gc(ι:aI)(l m:aD):bb ι (l++m)=bb ι l++bb ι m:=by simp[mK]
@[simp] def rJ(ι:aI)(l:aD)(i:Nat):(bb ι l)[i]?=(l[i]?).map (aQ ι):=by simp[mK]
@[simp] def atN(ι:aI)(l:aD)(i:Nat):bb ι (l.drop i)=(bb ι l).drop i:=by simp[mK]
@[simp] def atO(ι:aI)(l:aD)(i:Nat):bb ι (l.take i)=(bb ι l).take i:=by simp[mK]
def rT{ι:aI}{A:aE}{l:aD}{i:Nat}{v:AV}(h:b5 ι A l)(Y:l[i]?=ad v):bB ι A v:=jF.1 h v<|nO Y
def LN{ι:aI}{A:aE}{l:aD}(h:b5 ι A l)(i:Nat):b5 ι A (l.drop i):=jF.2 λv Y=>jF.1 h v<|wC Y
def GZ{ι:aI}{A:aE}{l:aD}(h:b5 ι A l)(i:Nat):b5 ι A (l.take i):=jF.2 λv Y=>jF.1 h v<|z_ Y
def rS{ι:aI}{A:aE}{l m:aD}:b5 ι A (l++m)↔b5 ι A l/\ b5 ι A m:=by simp[jF,or_imp,forall_and]
def Uk{ι:aI}{A:aE}{l:aD}{v:AV}(h:b5 ι A l)(Y:bB ι A v)(i:Nat):b5 ι A (l.set i v):=
 jF.2 λx s=>by
  rcases wD s with h1|h1
  exact jF.1 h x h1;exact h1▸Y
structure fu(D:a_)(P:Program):Prop where
 func:∀i f,D.func i=ad f->P.funcs[i]?=ad f
 lz:∀t i,D.lz t=ad i->P.info? t=ad i
 ma:∀t,D.ma t=aa->P.stoodInHeld t=ab
 depth:10<=P.depth
 mixed:P.follows .mixedOrders=aa
section
variable{D:a_}{P:Program}(F:fu D P){ι:Nat->bf}(w:World)
include F
theorem ah7{t:Nat}{i:TypeInfo}(h:rW D t=.ok i):P.info? t=ad i:=by unfold rW at h;split at h<;>simp at h;rename_i j u;exact F.lz _ _<|h▸u
theorem ye{t:Nat}{d:TypeDesc}(h:cP D t=.ok d):P.underlying t=ad d:=by
 unfold cP at h;unfold Program.underlying;split at h;rename_i i G;rw[F.lz _ _ G]
 rcases i with⟨n,B,z,x,A,Z,s,q,Q,J⟩
 cases n with
 |named Y u=>simp only at h|-;split at h;rename_i j p;simp at h;rw[F.lz _ _ p];simp[h];exact auu
 |_=>simpa using h
 exact at5
theorem fh{t:Nat}{d:TypeDesc}(h:cP D t=.ok d):(underlying t).run P w=.ok d w:=ND (ye F h) w
theorem YZ{t n:Nat}(h:size D t=.ok n):∃i,P.info? t=ad i/\ i.size=n:=by unfold size at h;split at h<;>simp at h;rename_i i G;exact⟨i,F.lz _ _ G,h⟩
omit F in
theorem NA{t:Nat}{i:TypeInfo}(h:P.info? t=ad i):(typeInfo t).run P w=.ok i w:=by simp[typeInfo,h]
theorem Ib{t:Nat}{i:TypeInfo}(h:rW D t=.ok i):(typeInfo t).run P w=.ok i w:=NA w<|ah7 F h
theorem lh{t n:Nat}(h:size D t=.ok n):(sizeOf t).run P w=.ok n w:=by obtain⟨i,G,rfl⟩:=YZ F h;simp[sizeOf,NA w G]
theorem x6{t:Nat}{z:AV}(h:zero D t=.ok z):(zeroValue t).run P w=.ok (aQ ι z) w:=by unfold zero at h;split at h;rename_i i G;split at h;rename_i v Y;simp at h;subst h;simp[zeroValue,NA w<|F.lz _ _ G,Y];exact at5;exact at5
omit F in
theorem Fe{t:Nat}{z:AV}(h:zero D t=.ok z)(A:aE):bB ι A z:=by unfold zero at h;split at h;split at h;simp at h;subst h;exact LQ ι A _;exact at5;exact at5
theorem Yz{t:Nat}{d:TypeDesc}(h:cP D t=.ok d):(isAgg t).run P w=.ok (rX d) w:=by simp only[isAgg,cQ,fh F w h,ay];cases d<;>simp[rX]
theorem zE{t off:Nat}{cs:aD}{v:AV}(h:part D t cs off=.ok v):
 (Go.part t (bb ι cs).toArray off).run P w=.ok (aQ ι v) w:=by
 simp only[part,bK]at h;have⟨d,C,h⟩:=h;simp only[Go.part,cQ,Yz F w C,ay];split at h;rename_i l;simp only[bK,eo]at h;obtain⟨n,r,rfl⟩:=h;simp only[l,dj,cQ,lh F w r,ay,az,aQ];exact at6;rename_i l;have Q:rX d=ab:=by simpa using l
 simp only[Q,fR,ff];split at h;exact at6;exact at5
omit F in
theorem alC{A:aE}{t off:Nat}{cs:aD}{v:AV}(h:part D t cs off=.ok v)(i:b5 ι A cs):bB ι A v:=by simp only[part,bK]at h;have⟨d,C,h⟩:=h;split at h;simp only[bK,eo]at h;obtain⟨n,r,rfl⟩:=h;exact GZ (LN i _) _;split at h;rename_i x s;simp at h;exact h▸rT i s;exact at5
end
section
variable{D:a_}{P:Program}(F:fu D P){ι:Nat->bf}(w:World)
include F
theorem anz{d:Nat}{i:Nat->AV->AV->R Bool}
 (a:∀t x y b,i t x y=.ok b->(Op.equalIn d t (aQ ι x)<|aQ ι y).run P w=.ok b w){xs ys:aD}:
 ∀(u:List Field) (b:Bool),eqFields D i xs ys u=.ok b->(Op.eqFields d (bb ι xs).toArray (bb ι ys).toArray u).run P w=.ok b w:=by
 intro u
 induction u with
 |nil=>intro b h;simp[eqFields]at h;subst h;simp[Op.eqFields]
 |cons f u I=>
  intro b h;simp only[eqFields]at h;simp only[Op.eqFields];split at h;exact at6;rename_i n;simp only[bK]at h;have⟨x,s,y,Q,r,A,h⟩:=h;simp only[n,ne_eq,not_false_eq_true,dj,cQ,zE F w s,zE F w Q,ay,a _ _ _ _ A,FG,az]
  cases r with
  |true=>simpa using I b auF
  |false=>simp at h;subst h;simp
theorem anx{d:Nat}{T:Nat->AV->AV->R Bool}
 (a:∀t x y b,T t x y=.ok b->(Op.equalIn d t (aQ ι x)<|aQ ι y).run P w=.ok b w){W n:Nat}{xs ys:aD}:
 ∀(m i:Nat) (b:Bool),mM D T W n xs ys m i=.ok b->
  (Op.eqItems d W n (bb ι xs).toArray (bb ι ys).toArray<|List.range' i m).run P w=.ok b w:=by
 intro m
 induction m with
 |zero=>intro i b h;simp[mM]at h;subst h;simp[Op.eqItems]
 |succ m I=>
  intro i b h;simp only[mM,bK]at h;have⟨x,s,y,Q,r,A,h⟩:=h;simp only[Pc,Op.eqItems,cQ,zE F w s,zE F w Q,ay,a _ _ _ _ A,FG,az]
  cases r with
  |true=>simpa using I (i+1) b auF
  |false=>simp at h;subst h;simp
theorem anA{d t:Nat}{ty:TypeDesc}{x y:AV}{b:Bool}(Y:cP D t=.ok ty)(h:vu ty x y=.ok b):
 (Op.equalIn (d+1) t (aQ ι x)<|aQ ι y).run P w=.ok b w:=by
 simp only[Op.equalIn,cQ,fh F w Y,ay];unfold vu at h;split at h<;>(try(simp at h;done))<;>(try(simp at h;subst h;simp[aQ];done))
 ·
  split at h;rename_i k e f;simp at h;subst h;simp[aQ,f];exact at5
 ·
  simp at h;subst h;rename_i a b;simp only[aQ];simp only[az,Result.ok.injEq,and_true];show((⟨⟨a⟩⟩:ByteArray)==⟨⟨b⟩⟩)=(a==b);rw[Go.beq_toListBytes,ByteArray.toList_eq,ByteArray.toList_eq]
 rename_i b o L I j;exact av8;rename_i b o l j;exact av3;rename_i b o L I j _ _;exact av8;rename_i b o l j _ _;exact av3
theorem Nz:∀(d t:Nat) (x y:AV) (b:Bool),bX D d t x y=.ok b->∀k,d<=k->(Op.equalIn k t (aQ ι x)<|aQ ι y).run P w=.ok b w:=by
 intro d
 induction d with
 |zero=>intro t x y b h;simp[bX]at h
 |succ d I=>
  intro t x y b h k f;obtain⟨k,rfl⟩:∃j,k=j+1:=⟨k-1,aW⟩;have s:∀t x y b,bX D d t x y=.ok b->(Op.equalIn k t (aQ ι x)<|aQ ι y).run P w=.ok b w:=λt x y b h=>I t x y b h k aW;simp only[bX,bK]at h;obtain⟨a,p,h⟩:=h;split at h;rename_i Z S V;split at h;rename_i q;have X:=ye F p;have M:P.fieldsOf t=Z:=by simp[Program.fieldsOf,X]
  simp only[aQ];rw[run_equalIn_struct w k t _ _ (by rw[M];exact X)<|F.ma _ q,M];exact anz F w s _ _ h;exact at5;rename_i L W S V;simp only[bK]at h;obtain⟨n,r,h⟩:=h;have l:=anx F w s _ _ _ h;obtain⟨i,G,rfl⟩:=YZ F r;have c:P.cellsOf W=i.size:=by simp[Program.cellsOf,G]
  simp only[aQ];rw[Go.run_equalIn_array w k _ _ (ye F p) G,c,abu];exact l;exact anA F w p h
theorem ahp:∀(d t:Nat),o_ D d t=aa->∀k,d<=k->P.eqGuardType k t=ab:=by
 intro d
 induction d with
 |zero=>intro t h;simp[o_]at h
 |succ d I=>
  intro t h k B;obtain⟨k,rfl⟩:∃j,k=j+1:=⟨k-1,aW⟩;unfold o_ at h;unfold Program.eqGuardType;split at h;rename_i O X;rw[ye F X];exact auF;rename_i u X;rw[ye F X];simp only[<-Array.any_toList];clear X;generalize u.toList=l at h|-
  induction l with
  |nil=>simp
  |cons f l v=>
   simp only[LI,bW,iB,nj]at h;simp only[zX,gz,OH,bne_eq_false_iff_eq];refine⟨?_,v h.2⟩
   rcases h.1 with h1|h1
   exact .inl h1;exact at6
  rename_i n e X;rw[ye F X];exact at6;rename_i a h1 p W X;rw[ye F X];exact at6;exact auu
end
section
variable{D:a_}{P:Program}(F:fu D P){ι:Nat->bf}(w:World)
theorem anF{l:BinOp}{t:TypeId}{k A:IntKind}{a b:Int}{v:AV}(h:hP l k A a b=.ok v):
 (Go.binOp l t (.int k a)<|.int A b).run P w=.ok (aQ ι v) w:=by
 unfold hP at h;split at h;split at h;exact auu;rename_i e;simp at h;subst h;simp[Go.binOp,Op.shift,e,bY,aQ]
 ·split at h
  ·rename_i f;subst f;split at h<;>(try(simp at h;done))<;>(try(simp at h;subst h;simp[Go.binOp,Op.intArith,Op.intBits,Op.intCmp,bY,cO,aQ];done));split at h;exact auu;rename_i e;simp at h;subst h;simp[Go.binOp,Op.intDiv,e,bY,aQ]
  exact at5
theorem anS{l:BinOp}{t:TypeId}{a b:aF}{v:AV}(h:zK l a b=.ok v):
 (Go.binOp l t (.string ⟨⟨a⟩⟩)<|.string ⟨⟨b⟩⟩).run P w=.ok (aQ ι v) w:=by
 unfold zK at h;split at h<;>(try(simp at h;done))<;>(try(simp at h;subst h;simp[Go.binOp,Op.stringOp,cO,aQ];done))
include F
theorem Yw{A:BinOp}{t:TypeId}{x y v:AV}(h:mb D A t x y=.ok v)
 (hn:∀a b,aQ ι x=.int a b->False)(j:∀a b,aQ ι x=.float a b->False)(Q:∀a b c,aQ ι x=.complex a b c->False)
 (B:∀a,aQ ι x=.string a->False):
 (Go.binOp A t (aQ ι x)<|aQ ι y).run P w=.ok (aQ ι v) w:=by
 unfold mb at h;split at h;simp only[bK,eo]at h;obtain⟨b,e,rfl⟩:=h;have:=Nz F (ι:=ι) w 10 t x y b e 10000 aW;have l:(Go.binOp .eql t (aQ ι x)<|aQ ι y)=(do pure (.bool<|<-Op.equal t (aQ ι x) (aQ ι y))):=auZ;rw[l];simp[Op.equal,Op.maxDepth,this,cO,aQ];simp only[bK,eo]at h;obtain⟨b,e,rfl⟩:=h;have:=Nz F (ι:=ι) w 10 t x y b e 10000 aW;have l:(Go.binOp .neq t (aQ ι x)<|aQ ι y)=(do pure (.bool<|!(<-Op.equal t (aQ ι x) (aQ ι y)))):=auZ;rw[l];simp[Op.equal,Op.maxDepth,this,cO,aQ];exact at5
omit F in
theorem Ny(A:BinOp)(t:TypeId)(x y:Operand)(a b:Value)(h1:¬(a=.nilIface/\ b=.nilIface))(p:∀l,a≠.agg l):
 (eqGuard A t x y a b).run P w=.ok () w:=by
 cases A<;>simp[eqGuard]<;>split<;>simp_all
theorem anm{A:BinOp}{t:TypeId}{x y v:AV}{ox oy:Operand}(h:binOp D A t x y (pX ox||pX oy)=.ok v):
 ((do eqGuard A t ox oy (aQ ι x) (aQ ι y);Go.binOp A t (aQ ι x) (aQ ι y):Sem Value)).run P w=.ok (aQ ι v) w:=by
 simp only[cQ];have M:∀(x y:AV),mb D A t x y=.ok v->¬(aQ ι x=.nilIface/\ aQ ι y=.nilIface)->(∀l,aQ ι x≠.agg l)->
  (∀a b,aQ ι x=.int a b->False)->(∀a b,aQ ι x=.float a b->False)->(∀a b c,aQ ι x=.complex a b c->False)->(∀a,aQ ι x=.string a->False)->
  ((eqGuard A t ox oy (aQ ι x)<|aQ ι y).run P w).andThen (λ_ w=>(Go.binOp A t (aQ ι x)<|aQ ι y).run P w)=.ok (aQ ι v) w:=by
  intro x y h V p d j Z Y;rw[Ny w A t ox oy _ _ V p];exact Yw F w h d j Z Y
 unfold binOp at h;split at h;simp only[aQ];rw[Ny w A t ox oy _ _ aY aY];exact anF w h;simp only[aQ];rw[Ny w A t ox oy _ _ aY aY];exact anS w h;split at h;rename_i G;have q:=ahp F 10 t G _ F.depth;have:=Yw F (ι:=ι) w h (by simp[aQ]) (by simp[aQ]) (by simp[aQ]) (by simp[aQ]);simp only[aQ]at this|-;rw[run_eqGuard_agg w A t ox oy _ _ q];exact aw0;exact at5
 all_goals first
  |(refine M _ _ h ?_ ?_ ?_ ?_ ?_ ?_<;>(simp[aQ];done))
  |(rename_i b o n k s l c
    obtain⟨T,Q⟩:=vi ι b o n k s
    refine M _ _ h ?_ ?_ ?_ ?_ ?_ ?_<;>(simp[Q];done))
  |(rename_i b o n s l c
    obtain⟨a,T,Q⟩:=AJ ι b o n s
    refine M _ _ h ?_ ?_ ?_ ?_ ?_ ?_<;>(simp[Q];done))
  |(simp at h;done)
end
theorem alu:∀(cs l:aD) (i:Nat),aA l<=aA cs->(q_ cs l)[i]?=if i<aA l then l[i]? else cs[i]?:=by
 intro cs
 induction cs with
 |nil=>intro l i h;cases l with
  |nil=>simp[q_]
  |cons x l=>simp at h
 |cons c cs I=>
  intro l i h
  cases l with
  |nil=>simp[q_]
  |cons x l=>
   simp only[q_]
   cases i with
   |zero=>simp
   |succ i=>simpa using I l i auF
theorem Is:∀(cs:aD) (o:Nat) (l:aD) (i:Nat),o+aA l<=aA cs->
 (iY cs o l)[i]?=if o<=i/\ i<o+aA l then l[i-o]? else cs[i]?:=by
 intro cs
 induction cs with
 |nil=>intro o l i h;have V:l=[]:=sy (by have Y:=h;simp only[f_]at Y;omega);subst V;cases o<;>simp[iY,q_]
 |cons c cs I=>
  intro o l i h
  cases o with
  |zero=>simp only[iY];rw[alu _ _ _ auF];simp
  |succ o=>
   simp only[iY]
   cases i with
   |zero=>simp
   |succ i=>
    have:=I o l i (by simp at h;omega);simp only[oK,this];by_cases Q:o<=i/\ i<o+aA l;rw[b8 Q,b8 aW];exact aw1
    grind
theorem LO{ι:aI}{A:aE}{cs l:aD}{o:Nat}(h:o+aA l<=aA cs)(c:b5 ι A cs)(M:b5 ι A l):b5 ι A (iY cs o l):=by refine jF.2 λv Y=>?_;have⟨i,G⟩:=List.getElem?_of_mem Y;rw[Is _ _ _ _ h]at G;split at G;exact rT M G;exact rT c G
theorem agE(off:Nat)(l:List Value):∀(k:Nat) (cs:Array Value) (i:Nat),off+k+aA l<=cs.size->
 ((l.zipIdx k).foldl (λ(cs:Array Value) (p:Value×Nat)=>cs.setIfInBounds (off+p.2) p.1) cs)[i]?=
   if off+k<=i/\ i<off+k+aA l then l[i-(off+k)]? else cs[i]?:=by
 induction l with
 |nil=>intro k cs i h;simp;intro V a;omega
 |cons v l I=>
  intro k cs i h;simp only[List.zipIdx_cons,gn];rw[I (k+1) _ i<|by simp at h|-;omega];simp only[cr]at h|-;by_cases V:off+(k+1)<=i/\ i<off+(k+1)+aA l
  grind
  grind
theorem aoK(ι:aI)(cs l:aD)(off:Nat)(h:off+aA l<=aA cs):
 ((bb ι l).toArray.zipIdx.foldl (λ(cs:Array Value) (p:Value×Nat)=>cs.setIfInBounds (off+p.2) p.1) (bb ι cs).toArray)=(bb ι<|iY cs off l).toArray:=by
 rw[<-Array.foldl_toList];apply Ff;intro i;have e:(bb ι l).toArray.zipIdx.toList=(bb ι l).zipIdx 0:=aY;rw[e,agE off (bb ι l) 0 _ i aul];simp only[wG,sN,pA,rJ];rw[Is _ _ _ _ h];split<;>rfl
theorem Yx{ι:aI}{place:Nat->Option (Nat×Nat)}:∀(M:List<|Nat×AV) (cells x:aD),fill place cells M=.ok x->
 Instr.fill place (bb ι cells).toArray (M.map λp=>(p.1,aQ ι p.2))=ad (bb ι x).toArray:=by
 intro M
 induction M with
 |nil=>intro cells x h;simp[fill]at h;subst h;simp[Instr.fill]
 |cons p M I=>
  have⟨i,v⟩:=p;intro cells x h;simp only[fill]at h;simp only[cL,Instr.fill]
  cases s:place i with
  |none=>rw[s]at h;simp at h
  |some q=>
   have⟨W,j⟩:=q;rw[s]at h;simp only at h|-;split at h;rename_i c;have g:(aQ ι v).cells=(bb ι v.cells).toArray:=wW v;have Z:((aQ ι v).cells.size≠j||ax (W+(aQ ι v).cells.size>(bb ι cells).toArray.size))=ab:=by rw[g];exact aul
   have:=I _ _ h;simp only[g]at Z|-;rw[aoK ι cells v.cells W c.2];exact at6;exact auu
theorem SG{ι:aI}{A:aE}{place:Nat->Option (Nat×Nat)}:∀(M:List<|Nat×AV) (s x:aD),fill place s M=.ok x->
 b5 ι A s->(∀p,p∈M->bB ι A p.2)->b5 ι A x:=by
 intro M
 induction M with
 |nil=>intro s x h c _;simp[fill]at h;exact h▸c
 |cons p M I=>have⟨i,v⟩:=p;intro s x h c O;simp only[fill]at h;split at h;exact auu;split at h;rename_i J;exact I _ _ h (LO J.2 c<|yZ<|O (i,v) aY) λp m=>O p (by simp[m]);exact at5
section
variable{D:a_}{P:Program}(F:fu D P){ι:Nat->bf}(w:World)
theorem anV{l:UnOp}{x v:AV}(h:unOp l x=.ok v):(Op.unary l<|aQ ι x).run P w=.ok (aQ ι v) w:=by unfold unOp at h;split at h;simp at h;subst h;simp[Op.unary,aQ,cO];exact at5
include F
theorem Yv{s d:Nat}{x v:AV}(h:nZ D s d x=.ok v):(Go.convert s d<|aQ ι x).run P w=.ok (aQ ι v) w:=by simp only[nZ,bK]at h;have⟨a,J,b,e,h⟩:=h;simp only[Go.convert,cQ,fh F w J,fh F w e,ay];split at h;simp at h;subst h;simp[aQ,Conv.intToInt,bY];exact at5
theorem anT:∀(u:List Field) (O:List<|Nat×Nat),B5 D u=.ok O->
 (u.mapM (m:=Sem) λf=>do pure (f.offset,<-sizeOf f.type)).run P w=.ok O w:=by
 intro u
 induction u with
 |nil=>intro O h;simp[B5]at h;subst h;simp
 |cons f u I=>intro O h;simp only[B5,bK,eo]at h;obtain⟨n,r,l,G,rfl⟩:=h;have:=I _ G;simp at this;simp[List.mapM_cons,lh F w r,this]
theorem ann{t:Nat}{M:List (Nat×AV)}{v:AV}(h:build D t M=.ok v):
 (Instr.build t (M.map λp=>(p.1,aQ ι p.2)).toArray).run P w=.ok (aQ ι v) w:=by
 simp only[build,bK]at h;have⟨z,o,d,C,h⟩:=h;simp only[Instr.build,cQ,x6 F (ι:=ι) w o,fh F w C,ay];have g:(aQ ι z).cells=(bb ι z.cells).toArray:=wW z;split at h;rename_i Z;simp only[bK,eo]at h;obtain⟨U,O,T,W,rfl⟩:=h;have V:=anT F w _ _ O;have a:=Yx (ι:=ι) _ _ _ W;have Y:(Z.mapM (m:=Sem) λf=>do pure (f.offset,<-sizeOf f.type))=Functor.map List.toArray (Z.toList.mapM λf=>do pure (f.offset,<-sizeOf f.type)):=by rw[Array.mapM_eq_mapM_toList]
 simp only[cQ];rw[Y];simp only[Sem.run_map,V,ay,g];have X:(λx:Nat=>U.toArray[x]?)=λi=>U[i]?:=by funext i;simp
 rw[X,a];simp[aQ];exact at5
end
section
variable{D:a_}{P:Program}(F:fu D P){ι:Nat->bf}{A:Nat->Prop}(w:World)
theorem x'{x:AV}{k:IntKind}{i:Int}(h:pI x=.ok (k,i)):aQ ι x=.int k i:=by unfold pI at h;split at h<;>simp at h;simp[aQ,h]
theorem uH{x:AV}{y n:Nat}{code:BoundsCode}(h:fe x y=.ok n):
 (Instr.sliceBound (aQ ι x) y code).run P w=.ok n w/\ n<=y:=by
 simp only[fe,bK]at h;have⟨⟨k,i⟩,G,h⟩:=h;split at h;rename_i c;simp at h;simp only[Instr.sliceBound,x' (ι:=ι) G,asIntOf,cQ,az,ay,FG]
 grind
 exact at5
theorem QX{x:Option AV}{y d n:Nat}(h:dU x y d=.ok n)(t:d<=y):n<=y:=by
 cases x with
 |none=>simp[dU]at h;omega
 |some v=>exact(uH (P:=default) (ι:=λ_=>default) (code:=.index) default h).2
theorem BV{b:Bool}{L cap m h l:Nat}{n i mx:Option AV}
 (j:(mx.isSome&&i.isNone)=ab)
 (h1:dU mx cap cap=.ok m)(a:dU i m L=.ok h)(d:dU n h 0=.ok l):
 (Instr.sliceBounds b L cap (n.map<|aQ ι) (i.map<|aQ ι)<|mx.map<|aQ ι).run P w=.ok (l,h,m) w:=by
 cases mx with
 |none=>
  simp[dU]at h1;subst h1
  cases i with
  |none=>
   simp[dU]at a;subst a
   cases n with
   |none=>simp[dU]at d;subst d;simp[Instr.sliceBounds]
   |some t=>simp only[dU]at d;simp[Instr.sliceBounds,(uH (ι:=ι) w d).1]
  |some v=>
   simp only[dU]at a
   cases n with
   |none=>simp[dU]at d;subst d;simp[Instr.sliceBounds,(uH (ι:=ι) w a).1]
   |some t=>simp only[dU]at d;simp[Instr.sliceBounds,(uH (ι:=ι) w a).1,(uH (ι:=ι) w d).1]
 |some e=>
  simp only[dU]at h1
  cases i with
  |none=>simp at j
  |some v=>
   simp only[dU]at a
   cases n with
   |none=>simp[dU]at d;subst d;simp[Instr.sliceBounds,(uH (ι:=ι) w h1).1,(uH (ι:=ι) w a).1]
   |some t=>simp only[dU]at d;simp[Instr.sliceBounds,(uH (ι:=ι) w h1).1,(uH (ι:=ι) w a).1,(uH (ι:=ι) w d).1]
theorem anO{b:Bool}{L cap h l:Nat}{n G:Option AV}(c:L<=cap)
 (a:dU G L L=.ok h)(d:dU n h 0=.ok l):
 (Instr.sliceBounds b L cap (n.map<|aQ ι) (G.map<|aQ ι) ae).run P w=.ok (l,h,cap) w:=by
 have o:dU G cap L=.ok h:=by
  cases G with
  |none=>simpa[dU]using a
  |some v=>
   simp only[dU,fe,bK]at a|-;have⟨⟨k,i⟩,G,a⟩:=a;refine⟨(k,i),G,?_⟩;split at a
   grind
   simp at a
 exact BV (mx:=ae) w aY (by simp[dU]) o d
theorem anP{b:Bool}{L cap m h l:Nat}{n i:Option AV}{e:AV}(c:L<=cap)(Q:i.isNone=ab)
 (h1:fe e L=.ok m)(a:dU i m L=.ok h)(d:dU n h 0=.ok l):
 (Instr.sliceBounds b L cap (n.map<|aQ ι) (i.map<|aQ ι)<|ad<|aQ ι e).run P w=.ok (l,h,m) w:=by
 have J:dU (ad e) cap cap=.ok m:=by
  simp only[dU,fe,bK]at h1|-
  grind
 exact BV (mx:=ad e) w (by simp[Q]) J a d
theorem sI(L:bf)(o n:Nat):(L.at o).add n=L.at (o+n):=by
 unfold Addr.add bf.at
 grind
theorem afG(s:aF)(l h:Nat):(⟨⟨s⟩⟩:ByteArray).extract l h=⟨⟨(s.drop l).take<|h-l⟩⟩:=by apply ByteArray.ext;exact at6
include F
theorem anQ{t:Nat}{x v:AV}{Y G mx:Option AV}(h:pq D t x Y G mx=.ok v)(Z:bB ι A x):
 (Instr.sliceAt t (aQ ι x) (Y.map<|aQ ι) (G.map<|aQ ι)<|mx.map<|aQ ι).run P w=.ok (aQ ι v) w/\ bB ι A v:=by
 simp only[pq,bK]at h;obtain⟨d,C,h⟩:=h;split at h
 ·
  rename_i W L q;split at h;exact auu;rename_i j;simp only[bK,eo]at h;obtain⟨sz,B,m,V,u,p,l,X,rfl⟩:=h;exact auE
 ·
  rename_i W a;split at h;exact auu;rename_i j;simp only[bK]at h;obtain⟨sz,B,m,V,u,p,l,X,h⟩:=h;split at h;rename_i S;simp at h;subst h;simp only[bW,c_,nj]at S;obtain⟨rfl,rfl⟩:=S;have T:m=0:=by
   cases Y with
   |none=>simp[dU]at X;omega
   |some v=>simp only[dU,fe,bK]at X;obtain⟨⟨k,i⟩,_,X⟩:=X;split at X;simp at X;omega;simp at X
  subst T;exact auE;exact at5
 ·
  rename_i W b o L q sz;split at h;exact auu;rename_i j;simp only[bK]at h;obtain⟨m,V,u,p,l,X,s,B,h⟩:=h;split at h;rename_i c;simp at h;subst h;have e:=BV (ι:=ι) (P:=P) (b:=aa) w (Fj.2 j) V p X;refine⟨?_,by simpa[bB]using Z⟩;simp only[Instr.sliceAt,cQ,fh F w C,ay,Instr.slice,aQ,e,lh F w B,az];split;rfl;simp[sI];exact at5
 ·
  rename_i W b o L sz;simp only[bK]at h;obtain⟨s,B,h⟩:=h;split at h;rename_i c;obtain⟨rfl,U⟩:=c;obtain⟨I,Q,_,f⟩:=Z;have g:L<=(ι b).ls-o/(ι b).sz:=by rw[Q];omega
  split at h;rename_i a0;split at h;exact auu;rename_i r;simp only[bK,eo]at h;obtain⟨m,V,u,p,l,X,rfl⟩:=h;have e:=anP (ι:=ι) (P:=P) (b:=aa) w g (Fj.2 r) V p X;refine⟨?_,by simpa[bB]using I⟩;simp only[sE,Instr.sliceAt,cQ,fh F w C,ay,Instr.slice,aQ,e,lh F w B,az];split;rfl;simp[sI];simp only[bK]at h;obtain⟨u,p,l,X,h⟩:=h;have e:=anO (ι:=ι) (P:=P) (b:=aa) w g p X;have N:=QX p<|bu _;have z:=QX X<|kQ _;simp only[Cx,Instr.sliceAt,cQ,fh F w C,ay,Instr.slice,aQ,e,lh F w B,az];have E:(o+l*s)/s=o/s+l:=by rw[Nat.add_mul_div_right _ _ U]
  split at h;rename_i J;simp at h;subst h;subst J;refine⟨?_,⟨I,Q,U,aW⟩⟩;simp only[aQ,kb];split;rename_i y;simp[y];simp[sI];split at h;rename_i J O;simp at h;subst h;refine⟨?_,⟨I,Q,U,by rw[E];omega⟩⟩;simp only[aQ];rw[cG aW];simp[sI,Q,E,Nat.sub_sub];rename_i J O;simp at h;subst h;have:l=L:=aW;have:u=L:=aW
  subst_vars
  refine⟨?_,⟨I,aM,U,aW⟩⟩;simp only[aQ,Cu];split;rename_i M;simp[M];simp[sI];exact at5
 ·
  rename_i n W b o;split at h;exact auu;rename_i j;simp only[bK,eo]at h;obtain⟨m,V,u,p,l,X,s,B,rfl⟩:=h;have e:=BV (ι:=ι) (P:=P) (b:=ab) w (Fj.2 j) V p X;refine⟨?_,by simpa[bB]using Z⟩;simp only[Instr.sliceAt,cQ,fh F w C,ay,aQ,Instr.sureAddr,e,lh F w B,az];split;rfl;simp[sI]
 exact at5
theorem anD{t:Nat}{x T v:AV}(h:indexAddr D t x T=.ok v)(m:bB ι A x):
 (Instr.indexAt t (aQ ι x)<|aQ ι T).run P w=.ok (aQ ι v) w/\ bB ι A v:=by
 simp only[indexAddr,bK]at h;obtain⟨⟨k,i⟩,G,d,C,h⟩:=h;split at h;rename_i L W b o;simp only[bK]at h;obtain⟨s,B,h⟩:=h;split at h;rename_i Q;simp at h;subst h;refine⟨?_,by simpa[bB]using m⟩;simp[Instr.indexAt,x' (ι:=ι) G,asIntOf,fh F w C,aQ,Instr.sureAddr,Q,lh F w B,sI];exact at5;rename_i W b o L I j;simp only[bK]at h;obtain⟨s,B,h⟩:=h;split at h;rename_i Q;simp at h;subst h;obtain⟨c,S⟩:=vi ι b o L I j;refine⟨?_,by cases I<;>simp[bB]at m|- <;>first|exact m|exact m.1⟩;simp[Instr.indexAt,x' (ι:=ι) G,asIntOf,fh F w C,S,Q,lh F w B,sI,aQ];exact at5;exact at5
theorem anE{t:Nat}{x T v:AV}(h:vE D t x T=.ok v)(m:bB ι A x):
 (Instr.index t (aQ ι x)<|aQ ι T).run P w=.ok (aQ ι v) w/\ bB ι A v:=by
 simp only[vE,bK]at h;obtain⟨⟨k,i⟩,G,d,C,h⟩:=h;split at h;rename_i L W V;simp only[bK]at h;obtain⟨s,B,h⟩:=h;split at h;rename_i c;refine⟨?_,alC h<|by simpa[bB]using m⟩;simp[Instr.index,x' (ι:=ι) G,asIntOf,fh F w C,aQ,c,lh F w B,zE F (ι:=ι) w h];exact at5;rename_i s;split at h;rename_i c;split at h;rename_i b X;simp at h;subst h;refine⟨?_,by simp[bY,bB]⟩;have O:i.toNat<aA s:=(lQ.1 X).1;have e:(⟨⟨s⟩⟩:ByteArray)[i.toNat]?=ad b:=by rw[getElem?_pos _ _<|by exact O];exact np ad (lQ.1 X).2
 simp[Instr.index,x' (ι:=ι) G,asIntOf,fh F w C,aQ,c,e,bY];exact at5;exact at5;exact at5
omit F in
theorem afU{t f:Nat}{j:Field}(h:A_ D t f=.ok j):∃Z,cP D t=.ok (.struct Z)/\ Z[f]?=ad j:=by simp only[A_,bK]at h;have⟨d,C,h⟩:=h;split at h;rename_i Z;split at h;exact at6;exact at5;exact at5
theorem anB{t f:Nat}{x v:AV}(h:fieldAddr D t x f=.ok v)(m:bB ι A x):
 (Instr.fieldAt t (aQ ι x) f).run P w=.ok (aQ ι v) w/\ bB ι A v:=by
 simp only[fieldAddr,bK]at h;have⟨E,j,s,B,h⟩:=h;have⟨Z,X,G⟩:=afU j;split at h;split at h;exact auu;rename_i b o U;simp at h;subst h;refine⟨?_,by simpa[bB]using m⟩;simp[Instr.fieldAt,fh F w X,G,aQ,Instr.sureAddr,fieldPlace,lh F w B,U,sI];exact at5
omit F in
theorem YB{mx:Bool}:∀(l:aD) (x v:AV),zi mx x l=.ok v->
 ((bb ι l).foldlM (if mx then Builtin.max2 else Builtin.min2)<|aQ ι x).run P w=.ok (aQ ι v) w/\ (bB ι A x->bB ι A v):=by
 intro l
 induction l with
 |nil=>intro x v h;simp[zi]at h;subst h;simp[bb]
 |cons y l I=>
  intro x v h;unfold zi at h;split at h;exact at6;rename_i k a e b N r;simp at r;obtain⟨rfl,rfl⟩:=r;have⟨V,p⟩:=I _ _ h;refine⟨?_,λ_=>p<|by simp[bY,bB]⟩;simp only[bb,List.foldlM_cons,cQ,aQ]
  cases mx with
  |true=>simpa[Builtin.max2,bY,aQ]using V
  |false=>simpa[Builtin.min2,bY,aQ]using V
  exact auu
theorem anH{t:Nat}{x v:AV}{W:Array TypeId}{ty:TypeId}(h:nz D t x=.ok v)(Y:W[0]?=ad t):
 (Builtin.len_ W ty #[aQ ι x]).run P w=.ok (aQ ι v) w/\ bB ι A v:=by
 simp only[nz,bK]at h;obtain⟨d,C,h⟩:=h;split at h;simp at h;subst h;refine⟨?_,by simp[js,bB]⟩;rename_i l;have e:(⟨⟨l⟩⟩:ByteArray).size=aA l:=rfl;simp only[Builtin.len_,Y,aQ,js,goInt];simp[fh F w C,e];exact avg;rename_i b o n I j;simp at h;subst h;refine⟨?_,by simp[js,bB]⟩;obtain⟨c,Q⟩:=vi ι b o n I j;exact awP;rename_i b o l j;simp at h;subst h;refine⟨?_,by simp[js,bB]⟩;obtain⟨a,c,Q⟩:=AJ ι b o l j;exact awP;exact avg;exact at5
end
section
variable{D:a_}{P:Program}(F:fu D P){ι:Nat->bf}{A:Nat->Prop}(w:World)
theorem Mt(ι:aI)(e:Operand->AV)(l:List Operand):l.map (λx=>aQ ι<|e x)=bb ι (l.map e):=by simp[mK]
theorem J_(ι:aI)(e:Operand->AV)(l:Array Operand):l.map (λx=>aQ ι<|e x)=(bb ι<|l.toList.map e).toArray:=by rw[<-Mt];apply oH;simp
theorem Sk{l:BinOp}{t:TypeId}{x y v:AV}(h:mb D l t x y=.ok v):bB ι A v:=by unfold mb at h;split at h;exact awg;exact awg;exact at5
theorem acQ{l:BinOp}{t:TypeId}{x y v:AV}{c:Bool}(h:binOp D l t x y c=.ok v):bB ι A v:=by
 unfold binOp at h;split at h;unfold hP at h;split at h<;>(try split at h)<;>(try split at h)<;>(try split at h)<;>simp at h<;>subst h<;>simp[bY,cO,bB];unfold zK at h;split at h<;>(try split at h)<;>simp at h<;>subst h<;>simp[NR,cO,bB];split at h;exact Sk h;exact at5
 all_goals first
  |exact Sk h
  |(simp at h;done)
include F
theorem Xm{e:Operand->AV}{o:Oper}{v:AV}(h:gy D e o.op=.ok v)(B:∀x,x∈o.op.operands->bB ι A (e x)):
 (Go.execOp (λx=>aQ ι<|e x) o).run P w=.ok (.value<|aQ ι v) w/\ bB ι A v:=by
 unfold Go.execOp;generalize o.op=Z at h B;unfold gy at h;split at h;simp at h;subst h;exact⟨aY,B _ auD⟩;simp at h;subst h;exact⟨aY,B _ auD⟩;rename_i c a b;simp only[bK,eo]at h;obtain⟨t,Y,rfl⟩:=h;have k:aQ ι (e c)=.bool t:=by unfold Ap at Y;split at Y;rename_i u;simp at Y;simp[u,aQ,Y];simp at Y
 have J:=B a auD;have X:=B b auD;cases t<;>simp[k,asBool,J,X];rename_i t S;have:=ann F (ι:=ι) w h;have g:(S.map λp=>(p.1,aQ ι<|e p.2))=((S.toList.map λp=>(p.1,e p.2)).map λp=>(p.1,aQ ι p.2)).toArray:=by apply oH;simp
 refine⟨?_,?_⟩;exact at6;simp only[build,bK]at h;obtain⟨z,E,d,L,h⟩:=h;have O:∀p,p∈(S.toList.map λp=>(p.1,e p.2))->bB ι A p.2:=by intro p O;simp only[fv]at O;obtain⟨q,G,rfl⟩:=O;exact av4
 split at h;simp only[bK,eo]at h;obtain⟨j,I,a0,W,rfl⟩:=h;exact SG _ _ _ W (yZ<|Fe E A) O;exact at5;rename_i x;have m:=B x auD;split at h<;>simp at h<;>subst h<;>rename_i r<;>rw[r]at m<;>exact⟨by simp[r,aQ],m⟩;rename_i Z t x y b0;have:=anm F (ι:=ι) w (ox:=x) (oy:=y) h;refine⟨?_,?_⟩;simp only[cQ]at this|-;rw[this];simp;exact acQ h;rename_i Z t x;refine⟨by simp[anV (ι:=ι) w h],?_⟩;unfold unOp at h;split at h<;>simp at h<;>subst h<;>simp[bY,cO,bB];rename_i s d x;refine⟨by simp[Yv F (ι:=ι) w h],?_⟩;simp only[nZ,bK]at h;obtain⟨a,J,b,X,h⟩:=h;split at h<;>simp at h<;>subst h<;>simp[bY,NR,bB]
 rename_i c0 first U
 simp at h;subst h;refine⟨by simp[Instr.makeFunc,aQ,J_],?_⟩;simp only[bB];refine⟨jF.2 λv T=>?_,jF.2 λv T=>?_⟩;exact avw;exact avw;rename_i t x d0 e0 f0;have:=anQ F (A:=A) (ι:=ι) w h<|B x auD;have g0:∀(a:Option Operand),(a.map e).map (aQ ι)=a.map λx=>aQ ι (e x):=by intro a;cases a<;>rfl
 exact at6;rename_i t x f;have:=anB F (A:=A) (ι:=ι) w h<|B x auD;exact at6;rename_i t x C;have:=anD F (A:=A) (ι:=ι) w h<|B x auD;exact at6;rename_i t x C;have:=anE F (A:=A) (ι:=ι) w h<|B x auD;exact at6;rename_i t C;have m:=B t auD;split at h;rename_i h0 r;rw[r]at m;split at h;rename_i y Q;simp at h;subst h;refine⟨by simp[Instr.extract,r,aQ,Q],rT (by simpa[bB]using m) Q⟩;exact at5;exact at5;rename_i b args n;split at h;rename_i t i0 x i N;have Y:n[0]?=ad t:=by rw[<-wx,i];rfl
 have M:args=#[x]:=avQ;subst M;have:=anH F (A:=A) (ι:=ι) (ty:=o.type) w h Y;refine⟨?_,this.2⟩;simp[resolve,invoke,Go.builtin,this.1];rename_i x l N;have M:args=(x::l).toArray:=avQ;subst M;have:=YB (P:=P) (A:=A) (ι:=ι) w _ _ _ h;refine⟨?_,this.2<|B x au2⟩;have V:=this.1;rw[<-Mt]at V;simp only[fR,ff]at V;simp[resolve,invoke,Go.builtin,Builtin.min_,V];rename_i x l N;have M:args=(x::l).toArray:=avQ;subst M;have:=YB (P:=P) (A:=A) (ι:=ι) w _ _ _ h;refine⟨?_,this.2<|B x au2⟩;have V:=this.1;rw[<-Mt]at V;simp only[dj]at V;simp[resolve,invoke,Go.builtin,Builtin.max_,V];exact at5;exact at5
end
section
def el(ι:Nat->bf):bT->Deferred
 |.fn fn cap args=>{target:=.fn fn (bb ι cap).toArray,args:=(bb ι args).toArray}
 |.collected r=>{target:=.collected (ι r).block,args:=#[]}
def yX(ι:Nat->bf)(A:Nat->Prop):bT->Prop
 |.fn _ cap args=>b5 ι A cap/\ b5 ι A args
 |.collected r=>A r
def fU(ι:Nat->bf)(e:AV×AV×Nat):MapEntry:={key:=aQ ι e.1,val:=aQ ι e.2.1,born:=e.2.2}
def iP(ι:Nat->bf)(l:jB):Loop:={state:=l.state,pending:=l.pending,fn:=l.fn,tmps:=(bb ι l.T).toArray,params:=l.params.toArray,assign:=l.assign,body:=l.body,defers:=(ι l.defers).block}
def AO.fG:AO->Bool
 |.cells _ _ U _=>U
 |.c5=>ab
 |_=>aa
def jk(ι:Nat->bf)(A:Nat->Prop)(o:AO)(L:bf)(w:World):Prop:=
 match o with
 |.cells cs W U sz=>b5 ι A cs/\ L.sz=sz/\ ∃B O,w.heap[L.block]?=ad (.cells B W O)/\
   (∀i v,cs[i]?=ad v->B[L.shift+i]?=ad (aQ ι v))/\ (U=aa->O=(0,0)/\ L.shift+L.ls*sz<=B.size/\ L.shift=0)
 |.map es Y=>L.shift=0/\ w.heap[L.block]?=ad (.map (es.map<|fU ι).toArray Y)/\ ∀e,e∈es->bB ι A e.1/\ bB ι A e.2.1
 |.r6 m G seen T=>L.shift=0/\ w.heap[L.block]?=ad (.mapIter (m.map λb=>(ι b).block) G seen.toArray T)/\ ∀b,m=ad b->A b
 |.loop l=>L.shift=0/\ w.heap[L.block]?=ad (.loop<|iP ι l)/\ b5 ι A l.T/\ A l.defers
 |.deferred p=>L.shift=0/\ w.heap[L.block]?=ad (.deferred<|p.map λl=>l.map<|el ι)/\ ∀l,p=ad l->∀d,d∈l->yX ι A d
 |.c5=>True
def Rv{ι ι':aI}{A:aE}(h:∀b,A b->ι' b=ι b)(d:bT)(t:yX ι A d):el ι' d=el ι d:=by
 cases d with
 |fn f c a=>simp[el,lx h c t.1,lx h a t.2]
 |collected r=>simp[el,h r t]
def LL{ι ι':aI}{A B:aE}(h:∀b,A b->B b/\ ι' b=ι b)(d:bT)(t:yX ι A d):yX ι' B d:=by
 cases d with
 |fn f c a=>exact⟨ju h c t.1,ju h a t.2⟩
 |collected r=>exact(h r t).1
def jk.congr{ι:aI}{A:aE}{o:AO}{L:bf}{w w':World}(h:jk ι A o L w)(P:w'.heap[L.block]?=w.heap[L.block]?):jk ι A o L w':=by cases o<;>simp only[jk,P]at h|- <;>exact h
def jk.mono{ι ι':aI}{A B:aE}{o:AO}{L:bf}{w:World}(h:jk ι A o L w)(k:∀b,A b->B b/\ ι' b=ι b):jk ι' B o L w:=by
 have N:∀b,A b->ι' b=ι b:=λb P=>(k b P).2
 cases o with
 |cells O W U r=>have⟨V,a,M,s,X,j,Z⟩:=h;refine⟨ju k O V,a,M,s,X,λi v y=>?_,Z⟩;rw[nY N v<|rT V y];exact j i v y
 |map x Y=>
  have⟨V,a,X⟩:=h;refine⟨V,?_,λe f=>⟨sY k _ (X e f).1,sY k _ (X e f).2⟩⟩;rw[a];have:x.map (fU ι')=x.map (fU ι):=by apply sB;intro e f;simp[fU,nY N _ (X e f).1,nY N _ (X e f).2]
  rw[this]
 |r6 m G seen T=>
  have⟨V,a,X⟩:=h;refine⟨V,?_,λb P=>(k b<|X b P).1⟩;rw[a]
  cases m with
  |none=>rfl
  |some b=>simp[N b<|X b rfl]
 |loop l=>have⟨V,a,X,j⟩:=h;refine⟨V,?_,ju k _ X,(k _ j).1⟩;rw[a];simp[iP,lx N _ X,N _ j]
 |deferred p=>
  have⟨V,a,X⟩:=h;refine⟨V,?_,λl z d t=>LL k d<|X l z d t⟩;rw[a]
  cases p with
  |none=>rfl
  |some l=>have:l.map (el ι')=l.map (el ι):=sB λd t=>Rv N d<|X l aM d t;simp[this]
 |c5=>trivial
def jk.lt{ι:aI}{A:aE}{o:AO}{L:bf}{w:World}(h:jk ι A o L w)(B:o≠.c5):L.block<w.heap.size:=by
 have c:∀x,w.heap[L.block]?=ad x->L.block<w.heap.size:=λx s=>(qm.1 s).1
 cases o with
 |cells V W U j=>have⟨_,_,M,O,X,_⟩:=h;exact c _ X
 |map t d=>exact c _ h.2.1
 |r6 m G seen T=>exact c _ h.2.1
 |loop l=>exact c _ h.2.1
 |deferred p=>exact c _ h.2.1
 |c5=>exact(B aM).elim
structure bz(D:a_)(ι:Nat->bf)(σ:St)(w:World):Prop where
 len:aA σ.l=σ.n
 ja:D.gx<=σ.n
 jW:∀g,g<D.gx->(ι g).block=g/\ (ι g).shift=0
 eS:∀b,b<σ.n->jk ι (·<σ.n) (σ.a7 b) (ι b) w
 fJ:∀b b',b<σ.n->b'<σ.n->b≠b'->(σ.a7 b).fG=aa->σ.a7 b'≠.c5->(ι b).block≠(ι b').block
 mem:∀m,σ.M.mem m->D.jY m
class Lo where
 xv:Prop
variable[Lo]
structure cj(ι:Nat->bf)(σ:St)(w:World)(ι':Nat->bf)(σ':St)(w':World):Prop where
 os:w'.os=w.os
 tape:w'.tape=w.tape/\ (Lo.xv\/ w.drawn<=w'.drawn)
 output:w'.output=w.output
 size:w.heap.size<=w'.heap.size
 n:σ.n<=σ'.n
 er:∀b,b<σ.n->ι' b=ι b
 frame:∀r,r<w.heap.size->(∀b,b<σ.n->(σ.a7 b).fG=aa->(ι b).block≠r)->w'.heap[r]?=w.heap[r]?
 bh:∀b,b<σ'.n->σ'.a7 b≠.c5->w.heap.size<=(ι' b).block\/
  ∃b0,b0<σ.n/\ σ.a7 b0≠.c5/\ ((σ'.a7 b).fG=aa->(σ.a7 b0).fG=aa)/\ (ι b0).block=(ι' b).block
omit [Lo]in
def AO.ug{o:AO}(h:o.fG=aa):o≠.c5:=by intro e;rw[e]at h;simp[AO.fG]at h
def cj.alv{ι ι':aI}{σ σ':St}{w w':World}(h:cj ι σ w ι' σ' w'):∀b,b<σ'.n->(σ'.a7 b).fG=aa->
 w.heap.size<=(ι' b).block\/ ∃g,g<σ.n/\ (σ.a7 g).fG=aa/\ (ι g).block=(ι' b).block:=λb e m=>by
 rcases h.bh b e (AO.ug m)with V|⟨g,V,_,d,A⟩
 exact .inl V
 grind
omit [Lo]in
def Vq{q:Prop}{a b c:Nat}(h:q\/ a<=b)(k:q\/ b<=c):q\/ a<=c:=h.elim .inl λh=>k.elim .inl λk=>.inr<|jS h k
def cj.refl(ι:aI)(σ:St)(w:World):cj ι σ w ι σ w:=⟨aM,⟨aM,.inr<|bu _⟩,aM,bu _,bu _,λ_ _=>rfl,λ_ _ _=>rfl,λb e m=>.inr ⟨b,e,m,id,aM⟩⟩
def cj.trans{ι ι' a:aI}{σ σ' A:St}{w w' P:World}(h:cj ι σ w ι' σ' w')(k:cj ι' σ' w' a A P):cj ι σ w a A P where
 os:=k.os.trans h.os
 tape:=⟨k.tape.1.trans h.tape.1,Vq h.tape.2 k.tape.2⟩
 output:=k.output.trans h.output
 size:=jS h.size k.size
 n:=jS h.n k.n
 er:=λb e=>(k.er b<|dc e h.n).trans (h.er b e)
 frame:=λr x o=>by
  rw[k.frame r (dc x h.size) λb e m f=>?_];exact h.frame r x o
  rcases h.alv b e m with V|⟨g,V,p,d⟩
  omega;exact at6
 bh:=λb e m=>by
  rcases k.bh b e m with V|⟨g,V,p,Z,d⟩
  exact .inl<|jS h.size V
  rcases h.bh g V p with j|⟨L,j,M,E,Y⟩
  omega
  grind
def cj.aQ{ι ι':aI}{σ σ':St}{w w':World}(h:cj ι σ w ι' σ' w'){v:AV}(Y:bB ι (·<σ.n) v):aQ ι' v=aQ ι v:=nY h.er v Y
def cj.k{ι ι':aI}{σ σ':St}{w w':World}(h:cj ι σ w ι' σ' w'):∀b,b<σ.n->b<σ'.n/\ ι' b=ι b:=λb e=>⟨dc e h.n,h.er b e⟩
omit [Lo]in
def eP{σ:St}{o:AO}{b:Nat}(e:b<σ.n):(σ.push o).a7 b=σ.a7 b:=by
 show(if b<σ.n+1 then((o::σ.l)[σ.n+1-1-b]?).getD .c5 else .c5)=(if b<σ.n then(σ.l[σ.n-1-b]?).getD .c5 else .c5)
 grind
omit [Lo]in
def kk{σ:St}{o:AO}:(σ.push o).a7 σ.n=o:=by show(if σ.n<σ.n+1 then((o::σ.l)[σ.n+1-1-σ.n]?).getD .c5 else .c5)=o;simp
omit [Lo]in
def pS{σ:St}{o:AO}{b:Nat}(l:aA σ.l=σ.n)(e:b<σ.n):(σ.set b o).a7 b=o:=by
 show(if b<σ.n then((σ.l.set (σ.n-1-b) o)[σ.n-1-b]?).getD .c5 else .c5)=o
 grind
omit [Lo]in
def kZ{σ:St}{o:AO}{b W:Nat}(e:b<σ.n)(C:b≠W):(σ.set b o).a7 W=σ.a7 W:=by
 show(if W<σ.n then((σ.l.set (σ.n-1-b) o)[σ.n-1-W]?).getD .c5 else .c5)=(if W<σ.n then(σ.l[σ.n-1-W]?).getD .c5 else .c5)
 grind
def fc(ι:Nat->bf)(n:Nat)(L:bf):Nat->bf:=λb=>if b=n then L else ι b
omit [Lo]in
def eg(ι:aI)(n:Nat)(L:bf):fc ι n L n=L:=by simp[fc]
omit [Lo]in
def ez{ι:aI}{n b:Nat}{L:bf}(h:b≠n):fc ι n L b=ι b:=by simp[fc,h]
section
variable{D:a_}{ι:Nat->bf}{σ:St}{w:World}
omit [Lo]in
def bz.Wt{w':World}(h:bz D ι σ w)(P:w'.heap=w.heap):bz D ι σ w':=⟨h.len,h.ja,h.jW,λb e=>(h.eS b e).congr<|by rw[P],h.fJ,h.mem⟩
omit [Lo]in
def bz.drew(h:bz D ι σ w):bz D ι σ w.drew:=h.Wt aM
def cj.drew(ι:aI)(σ:St)(w:World):cj ι σ w ι σ w.drew:=⟨aM,⟨aM,.inr<|wH _⟩,aM,bu _,bu _,λ_ _=>rfl,λ_ _ _=>rfl,λb e m=>.inr ⟨b,e,m,id,aM⟩⟩
omit [Lo]in
def ta{n:Nat}{L:bf}:∀b,b<n->b<n+1/\ fc ι n L b=ι b:=λb e=>⟨aW,ez aW⟩
def bz.push(h:bz D ι σ w){o:AO}{ob:Obj}{L:bf}(j:L.block=w.heap.size)
 (B:jk (fc ι σ.n L) (·<σ.n+1) o L<|w.alloc ob):
 bz D (fc ι σ.n L) (σ.push o) (w.alloc ob)/\ cj ι σ w (fc ι σ.n L) (σ.push o) (w.alloc ob):=by
 have v:∀r,r<w.heap.size->(w.alloc ob).heap[r]?=w.heap[r]?:=λr x=>by
  show(w.heap.push ob)[r]?=_
  grind
 have P:∀b,b<σ.n->jk (fc ι σ.n L) (·<σ.n+1) (σ.a7 b) (ι b) (w.alloc ob):=λb X=>by by_cases G:σ.a7 b=.c5;rw[G];trivial;exact((h.eS b X).mono ta).congr<|v _<|(h.eS b X).lt G
 refine⟨⟨by simp[St.push,h.len],yo h.ja,λg G=>?_,λb X=>?_,λb W X I C m G=>?_,h.mem⟩,?_⟩;rw[ez (by have:=h.ja;omega)];exact h.jW g G;by_cases f:b=σ.n;subst f;rw[kk,eg];exact B;have Q:b<σ.n:=by simp only[St.push]at X;omega
 rw[eP Q,ez f];exact P b Q;simp only[St.push]at X I;by_cases f:b=σ.n;subst f;have Q:W<σ.n:=aW;rw[eP Q]at G;rw[eg,ez aW,j];have:=(h.eS W Q).lt G;omega;have Q:b<σ.n:=aW;rw[eP Q]at m;have T:σ.a7 b≠.c5:=awa;have O:=(h.eS b Q).lt T;by_cases y:W=σ.n;subst y;rw[eg,ez f,j];omega;have l:W<σ.n:=aW;rw[eP l]at G;rw[ez f,ez y];exact h.fJ b W Q l C m G;refine⟨aM,⟨aM,.inr<|bu _⟩,aM,aY,aw2,λb X=>ez aW,λr x _=>v r x,λb X m=>?_⟩;simp only[St.push]at X;by_cases f:b=σ.n;subst f;left;rw[eg,j];exact auS;exact avC
def bz.set(h:bz D ι σ w){b:Nat}{o:AO}{w':World}(X:b<σ.n)(m:(σ.a7 b).fG=aa)
 (s:w'.heap.size=w.heap.size)(P:∀r,r≠(ι b).block->w'.heap[r]?=w.heap[r]?)
 (V:w'.os=w.os/\ (w'.tape=w.tape/\ (Lo.xv\/ w.drawn<=w'.drawn))/\ w'.output=w.output)
 (y:jk ι (·<σ.n) o (ι b) w'):bz D ι (σ.set b o) w'/\ cj ι σ w ι (σ.set b o) w':=by
 refine⟨⟨by simp[St.set,h.len],h.ja,h.jW,λW I=>?_,λL J Q v C E T=>?_,h.mem⟩,?_⟩;change W<σ.n at I;by_cases f:b=W;subst f;rw[pS h.len X];exact y;rw[kZ X f];by_cases G:σ.a7 W=.c5;rw[G];trivial;exact(h.eS W I).congr<|P _ λe=>h.fJ b W X I f m G e.symm;change L<σ.n at Q;change J<σ.n at v;by_cases Y:b=L;subst Y;rw[kZ X C]at T;exact h.fJ b J X v C m T;rw[kZ X Y]at E;by_cases O:b=J;subst O;exact h.fJ L b Q X C E awa;rw[kZ X O]at T;exact h.fJ L J Q v C E T;refine⟨V.1,V.2.1,V.2.2,aW,bu _,λ_ _=>rfl,λr x B=>P r λe=>B b X m e.symm,λW I S=>?_⟩;change W<σ.n at I;right;by_cases f:b=W;subst f;exact⟨b,X,AO.ug m,λ_=>m,aM⟩;rw[kZ X f]at S|-
 grind
omit [Lo]in
def bz.agG(h:bz D ι σ w){b:Nat}(e:b<σ.n):bz D ι (σ.set b .c5) w:=by refine⟨by simp[St.set,h.len],h.ja,h.jW,λW I=>?_,λL o Q v C E T=>?_,h.mem⟩;change W<σ.n at I;by_cases f:b=W;subst f;rw[pS h.len e];trivial;rw[kZ e f];exact h.eS W I;change L<σ.n at Q;change o<σ.n at v;by_cases Y:b=L;subst Y;rw[pS h.len e]at E;simp[AO.fG]at E;rw[kZ e Y]at E;by_cases O:b=o;subst O;rw[pS h.len e]at T;exact(T aM).elim;rw[kZ e O]at T;exact h.fJ L o Q v C E T
end
end
section
variable{D:a_}{P:Program}(F:fu D P){ι:Nat->bf}{σ:St}{w:World}
theorem Km{b:Nat}{cs:aD}(h:cellsOf σ b=.ok cs):b<σ.n/\ ∃W U sz,σ.a7 b=.cells cs W U sz:=by
 unfold cellsOf at h
 grind
theorem bz.cell(R:bz D ι σ w){b i:Nat}{cs:aD}{W:TypeId}{U:Bool}{sz:Nat}{v:AV}(e:b<σ.n)
 (B:σ.a7 b=.cells cs W U sz)(Y:cs[i]?=ad v):w.cell? ((ι b).at i)=ad (aQ ι v)/\ bB ι (·<σ.n) v:=by
 have:=R.eS b e;rw[B]at this;have⟨h,a,d,O,X,A,Z⟩:=this;refine⟨?_,rT h Y⟩;simp only[World.cell?,bf.at,X];exact at6
theorem nI{cs l:aD}{o n:Nat}(h:fO cs o n=.ok l):l=(cs.drop o).take n/\ aA l=n:=by
 unfold fO at h
 grind
theorem bz.loadCells(R:bz D ι σ w){b o n:Nat}{cs l:aD}{W:TypeId}{U:Bool}{sz:Nat}(e:b<σ.n)
 (B:σ.a7 b=.cells cs W U sz)(G:fO cs o n=.ok l):
 (Go.loadCells ((ι b).at o) n).run P w=.ok (bb ι l).toArray w/\ b5 ι (·<σ.n) l:=by
 have⟨h,a⟩:=nI G;have r:b5 ι (·<σ.n) cs:=by have:=R.eS b e;rw[B]at this;exact this.1
 refine⟨?_,by rw[h];exact GZ (LN r _) _⟩
 have:=run_loadCells_list (P:=P) w ((ι b).at o) (bb ι l) (λj v u=>by
  rw[sI];simp only[rJ,Option.map_eq_some_iff]at u;obtain⟨x,s,rfl⟩:=u;refine(R.cell e B ?_).1
  grind)
 exact at6
include F
theorem YA(R:bz D ι σ w){t:Nat}{a v:AV}(h:jw D σ t a=.ok v):
 (Instr.loadAt t<|aQ ι a).run P w=.ok (aQ ι v) w/\ bB ι (·<σ.n) v:=by
 unfold jw at h;split at h;rename_i b o;simp only[bK]at h;have⟨V,f,d,C,h⟩:=h;have⟨e,W,U,j,B⟩:=Km f;simp only[Instr.loadAt,aQ,Instr.sureAddr,cQ,az,ay,loadVar,Yz F w C,FG];split at h;rename_i E;simp only[bK,eo]at h;obtain⟨n,r,l,G,rfl⟩:=h;have:=R.loadCells (P:=P) e B G;rw[b8 E];simp only[lh F w r,ay,this.1,aQ];exact⟨trivial,this.2⟩;rename_i E;rw[cG E];split at h;rename_i x s;simp at h;subst h;have:=R.cell e B s;exact at6;exact at5;exact at5
omit F in
theorem DZ(R:bz D ι σ w){x:AV}{es:List (AV×AV×Nat)}{d:Nat}(h:p' σ x=.ok (es,d)):
 (∀e,e∈es->bB ι (·<σ.n) e.1/\ bB ι (·<σ.n) e.2.1)/\
 ((x=.aN (.map ae)/\ es=[])\/ ∃b,x=.cz b/\ b<σ.n/\ σ.a7 b=.map es d/\ (ι b).shift=0/\ w.heap[(ι b).block]?=ad (.map (es.map<|fU ι).toArray d)):=by
 unfold p' at h;split at h;simp at h;obtain⟨rfl,rfl⟩:=h;simp;rename_i b;split at h;rename_i X;split at h;rename_i v Y r;simp at h;obtain⟨rfl,rfl⟩:=h;have:=R.eS b X;rw[r]at this;exact⟨this.2.2,.inr ⟨b,aM,X,r,this.1,this.2.1⟩⟩;exact at5;exact at5;exact at5
theorem anp{d n:Nat}{emp:Bool}{i:Nat->AV->AV->R Bool}
 (E:∀t x,mS D d t=aa->i t x x=.ok aa->(Instr.checkKey emp n t<|aQ ι x).run P w=.ok () w){xs:aD}:
 ∀(u:List Field),HT (mS D d) u=aa->eqFields D i xs xs u=.ok aa->
  ((forIn u PUnit.unit λf _=>
     if f.name≠ "_" then do
      let a<-Go.part f.type (bb ι xs).toArray f.offset
      Instr.checkKey emp n f.type a
      pure (ForInStep.yield PUnit.unit)
     else pure (ForInStep.yield PUnit.unit)):Sem PUnit).run P w=.ok PUnit.unit w:=by
 intro u
 induction u with
 |nil=>intro _ _;simp
 |cons f u I=>
  intro p h;simp only[HT,bW,Av]at p;have⟨⟨X,j⟩,M⟩:=p;simp only[eqFields]at h;rw[cG X]at h;simp only[bK]at h;have⟨x,s,y,Q,r,A,h⟩:=h;have q:x=y:=by rw[s]at Q;simpa using Q
  subst q
  cases r with
  |false=>simp at h
  |true=>have Y:eqFields D i xs xs u=.ok aa:=auF;have:=E _ _ j A;simp only[List.forIn_cons,cQ,X,ne_eq,not_false_eq_true,dj,zE F w s,ay,this,az];exact I M Y
theorem ano{d n:Nat}{emp:Bool}{T:Nat->AV->AV->R Bool}{W sz:Nat}(p:mS D d W=aa)(c:size D W=.ok sz)
 (E:∀t x,mS D d t=aa->T t x x=.ok aa->(Instr.checkKey emp n t<|aQ ι x).run P w=.ok () w){xs:aD}:
 ∀(m i:Nat),mM D T W sz xs xs m i=.ok aa->
  ((forIn (List.range' i m) PUnit.unit λi _=>do
     let s<-sizeOf W
     let a<-Go.part W (bb ι xs).toArray (i*s)
     Instr.checkKey emp n W a
     pure (ForInStep.yield PUnit.unit)):Sem PUnit).run P w=.ok PUnit.unit w:=by
 intro m
 induction m with
 |zero=>intro i _;simp
 |succ m I=>
  intro i h;simp only[mM,bK]at h;have⟨x,U,y,Q,r,A,h⟩:=h;have q:x=y:=by rw[U]at Q;simpa using Q
  subst q
  cases r with
  |false=>simp at h
  |true=>have Y:mM D T W sz xs xs m (i+1)=.ok aa:=auF;have:=E _ _ p A;simp only[Pc,List.forIn_cons,cQ,lh F w c,zE F w U,ay,this,az];exact I _ Y
theorem Yu{emp:Bool}:∀(d n t:Nat) (x:AV) (k:Nat),mS D d t=aa->bX D k t x x=.ok aa->d<=n->
 (Instr.checkKey emp n t<|aQ ι x).run P w=.ok () w:=by
 intro d
 induction d with
 |zero=>intro n t x k h;simp[mS]at h
 |succ d I=>
  intro n t x k h f X;obtain⟨n,rfl⟩:∃j,n=j+1:=⟨n-1,aW⟩;obtain⟨k,rfl⟩:∃j,k=j+1:=⟨k-1,by cases k with|zero=>simp[bX]at f|succ k=>simp⟩;unfold mS at h;simp only[bX,bK]at f;have⟨a,p,f⟩:=f;rw[p]at h;simp only[Instr.checkKey,cQ,fh F w p,ay];split at h;rename_i r;cases r;simp;rename_i r;cases r;simp;rename_i r;cases r;simp;rename_i u r;cases r
  cases x with
  |agg y=>simp only at f;split at f;simp only[aQ];have:=anp F (emp:=emp) (n:=n) (w:=w) (ι:=ι) (λt x M e=>I n t x k M e aW) _ h f;exact at6;simp at f
  |_=>simp[vu]at f
  rename_i L W r;cases r
  cases x with
  |agg y=>simp only[bK]at f;have⟨l,c,f⟩:=f;simp only[aQ];have:=ano F (emp:=emp) (n:=n) (w:=w) (ι:=ι) h c (λt x M e=>I n t x k M e aW) _ _ f;simp only[Std.Legacy.Range.forIn_eq_forIn_range',Std.Legacy.Range.size,yr,Nat.add_one_sub_one,Nat.div_one];simp only[cQ,this,ay,az]
  |_=>simp[vu]at f
  exact auu
omit F in
theorem anN{d t:Nat}{W:TypeDesc}{x y:Value}{b:Bool}(Y:P.underlying t=ad W)(h:Instr.sameNow W x y=ad b):
 (Op.equalIn (d+1) t x y).run P w=.ok b w:=by
 unfold Instr.sameNow at h;split at h;split at h;rename_i f;subst f;exact avS;exact at5;exact avS;exact avS;exact at5
theorem anC{t:Nat}{k:AV}{W:TypeDesc}(Y:cP D t=.ok W):∀(es:List<|AV×AV×Nat) (i:Nat) (r:Option<|Nat×AV),findKey D t k es i=.ok r->
 (∀C,Instr.findNow W (aQ ι k) (es.map<|fU ι) i=ad C->C=r.map λp=>(p.1,aQ ι p.2))/\
 (Instr.findAsking t (aQ ι k) (es.map<|fU ι) i).run P w=.ok (r.map λp=>(p.1,aQ ι p.2)) w:=by
 intro es
 induction es with
 |nil=>intro i r h;simp[findKey]at h;subst h;simp[Instr.findNow,Instr.findAsking]
 |cons e es I=>
  obtain⟨A,v,s⟩:=e;intro i r h;simp only[findKey,bK]at h;obtain⟨b,X,h⟩:=h;have j:=Nz F (ι:=ι) w 10 t k A b X 10000 aW;refine⟨λC x=>?_,?_⟩;simp only[cL,Instr.findNow,fU]at x
  cases B:Instr.sameNow W (aQ ι k) (aQ ι A)with
  |none=>rw[B]at x;simp at x
  |some c=>
   have Q:b=c:=by have V:=anN (d:=9999) (w:=w) (ye F Y) B;exact at6
   subst Q;rw[B]at x
   cases b with
   |true=>simp at x h;subst x;subst h;rfl
   |false=>exact(I (i+1) r auF).1 C x
  simp only[cL,Instr.findAsking,cQ,fU,Op.equal,Op.maxDepth,j,ay,FG]
  cases b with
  |true=>simp at h;subst h;simp
  |false=>simpa using(I (i+1) r auF).2
theorem Yy{t:Nat}{k:AV}{W:TypeDesc}(Y:cP D t=.ok W){es:List (AV×AV×Nat)}{r:Option (Nat×AV)}(h:findKey D t k es 0=.ok r):
 (Instr.findKey t (aQ ι k)<|es.map<|fU ι).run P w=.ok (r.map λp=>(p.1,aQ ι p.2)) w:=by
 obtain⟨V,a⟩:=anC F (ι:=ι) (w:=w) Y es 0 r h;simp only[Instr.findKey,cQ,fh F w Y,ay];split;exact at6;exact a
omit F in
theorem SO{t:Nat}{k:AV}:∀(es:List<|AV×AV×Nat) (i:Nat) (j:Nat) (v:AV),findKey D t k es i=.ok (ad (j,v))->
 ∃e,es[j-i]?=ad e/\ i<=j/\ e.2.1=v/\ bX D 10 t k e.1=.ok aa:=by
 intro es
 induction es with
 |nil=>intro i j v h;simp[findKey]at h
 |cons e es I=>
  have⟨A,g,s⟩:=e;intro i j v h;simp only[findKey,bK]at h;have⟨b,X,h⟩:=h
  cases b with
  |true=>simp at h;obtain⟨rfl,rfl⟩:=h;exact⟨(A,g,s),aY,bu _,rfl,X⟩
  |false=>have⟨e,V,a,d,n⟩:=I (i+1) j v auF;refine⟨e,?_,aW,d,n⟩;have:j-i=(j-(i+1))+1:=aW;rw[this];simpa using V
omit F in
theorem W5{d t:Nat}(h:mS D d t=aa):∃ty,cP D t=.ok ty:=by
 cases d with
 |zero=>simp[mS]at h
 |succ d=>
  unfold mS at h
  split at h<;>first|exact⟨_,‹_›⟩|(simp at h)
theorem anI(R:bz D ι σ w){t:Nat}{x m v:AV}{ok:Bool}(h:DX D σ t x m ok=.ok v):
 (Instr.lookup t (aQ ι x) (aQ ι m) ok).run P w=.ok (aQ ι v) w/\ bB ι (·<σ.n) v:=by
 simp only[DX,bK]at h;obtain⟨d,C,h⟩:=h;split at h;rename_i l U;split at h;rename_i I;simp only[bK]at h;obtain⟨⟨X,Y⟩,c,b,Z,h⟩:=h
 cases b with
 |false=>simp at h
 |true=>
  simp only[px,fR,ff,bK]at h;obtain⟨r,s,h⟩:=h;obtain⟨L,E⟩:=DZ R c;obtain⟨B,Q⟩:=W5 I;have g:=Yy F (ι:=ι) (w:=w) Q s;have k:∀W,(Instr.checkKey W 10000 l<|aQ ι m).run P w=.ok () w:=λW=>Yu F 10 10000 l m 10 I Z aW;have T:bB ι (·<σ.n) v:=by
   cases r with
   |none=>simp only[bK,eo]at h;obtain⟨z,o,rfl⟩:=h;cases ok<;>simp[bB,b5,cO,Fe o]
   |some p=>obtain⟨j,y⟩:=p;simp at h;subst h;obtain⟨e,V,_,G,_⟩:=SO _ _ _ _ s;have f:bB ι (·<σ.n) y:=G▸(L e<|nO V).2;cases ok<;>simp[bB,b5,cO,f]
  refine⟨?_,T⟩;simp only[Instr.lookup,cQ,fh F w C,ay]
  rcases E with⟨rfl,rfl⟩|⟨n,rfl,a,_,_,N⟩
  simp only[aQ,cQ,az,ay,k];have S:(Instr.findKey l (aQ ι m) []).run P w=.ok (r.map λp=>(p.1,aQ ι p.2)) w:=by simpa using g
  simp only[S,ay];exact auc;have M:(getObj (ι n).block).run P w=.ok (.map (X.map<|fU ι).toArray Y) w:=by simp[getObj,Sem.run,N]
  simp only[aQ,cQ,M,ay,az,k,g];exact auc
 exact at5;exact at5
theorem anr{s d:Nat}{x v:AV}(h:nZ D s d x=.ok v):(Go.convert s d<|aQ ι x).run P w=.ok (aQ ι v) w/\ bB ι (·<σ.n) v:=by refine⟨Yv F w h,?_⟩;simp only[nZ,bK]at h;have⟨_,_,_,_,h⟩:=h;split at h<;>simp at h<;>subst h<;>trivial
theorem XI(R:bz D ι σ w){e:Operand->AV}{o:Oper}{v:AV}(h:kM D σ e o.op=.ok v):
 (Go.execOp (λx=>aQ ι<|e x) o).run P w=.ok (.value<|aQ ι v) w/\ bB ι (·<σ.n) v:=by
 unfold Go.execOp;generalize o.op=l at h;unfold kM at h;split at h;have:=YA F R h;exact at6;have:=anI F R h;exact at6;have:=anr (w:=w) (σ:=σ) (ι:=ι) F h;exact at6;exact at5
end
theorem XX(z:aD):∀n,aA (lI z n)=n*aA z:=by
 intro n
 induction n with
 |zero=>simp[lI]
 |succ n I=>simp[lI,I,lU,nQ]
theorem amQ(z:aD)(_:0<aA z):∀n i,i<n*aA z->(lI z n)[i]?=z[i %aA z]?:=by
 intro n
 induction n with
 |zero=>intro i h;simp at h
 |succ n I=>intro i h;simp only[lI];by_cases G:i<aA z;rw[Fu G,Nat.mod_eq_of_lt G];rw[Jj aW,I _<|by rw[lU]at h;omega];congr 1;exact(Nat.mod_eq_sub_mod aW).symm
theorem Uj{ι:aI}{A:aE}{z:aD}(h:b5 ι A z):∀n,b5 ι A (lI z n):=by
 intro n
 induction n with
 |zero=>simp[lI,b5]
 |succ n I=>simp only[lI];exact rS.2 ⟨h,I⟩
theorem XC(ι:aI)(z:aD)(n:Nat):
 ((Array.range<|n*aA z).map ((bb ι z).toArray[· %(bb ι z).toArray.size]!))=(bb ι<|lI z n).toArray:=by
 apply Ff;intro i;simp only[Array.getElem?_map,pA,rJ,List.size_toArray,sN];by_cases G:i<n*aA z;have o:0<aA z:=by grind
 rw[amQ z o n i G,Array.getElem?_range];have m:i %aA z<aA z:=z7 _ o;exact at6;have h:(lI z n)[i]?=ae:=mE (by rw[XX];omega);exact at6
theorem Xz(f:Nat->Value):(Array.range 0).map f=#[]:=by apply oH;simp
section
variable{D:a_}{P:Program}(F:fu D P){ι:Nat->bf}{A:Nat->Prop}(w:World)
theorem x5(W:TypeId)(cells:Array Value):(Go.newRow W cells).run P w=.ok ⟨w.heap.size,0,ae⟩ (w.alloc<|.cells cells W):=by simp[Go.newRow]
structure Ph(P:Program)(ι:Nat->bf)(A:Nat->Prop)(w:World)(b:Nat)(v:AV)(o:AO)(s:Sem Next):Prop where
 dO:∃ob L,s.run P w=.ok (.value<|aQ (fc ι b L) v) (w.alloc ob)/\ L.block=w.heap.size/\
  jk (fc ι b L) (λx=>A x\/ x=b) o L (w.alloc ob)/\ bB (fc ι b L) (λx=>A x\/ x=b) v
theorem U5{b:Nat}{L:bf}(X:¬A b):∀x,A x->(A x\/ x=b)/\ fc ι b L x=ι x:=λ_ s=>⟨.inl s,ez λe=>X<|e▸s⟩
theorem vA(ob:Obj):(w.alloc ob).heap[w.heap.size]?=ad ob:=by show(w.heap.push ob)[w.heap.size]?=_;simp
theorem HM{b:Nat}{cs:aD}{W sz:Nat}(e:¬A b)(c:b5 ι A cs):
 jk (fc ι b ⟨w.heap.size,0,0,sz⟩) (λx=>A x\/ x=b) (.cells cs W aa sz) ⟨w.heap.size,0,0,sz⟩ (w.alloc<|.cells (bb ι cs).toArray W):=by
 refine⟨ju (U5 e) cs c,aM,(bb ι cs).toArray,(0,0),vA w _,λi v Y=>?_,λ_=>⟨aM,by show 0+0*sz<=_;rw[kb];exact kQ _,aM⟩⟩;rw[nY (λx s=>(U5 e x s).2) v<|rT c Y];simp[Y]
include F
omit F in
theorem abl{W n:Nat}{cs:aD}(h:sw D W n=.ok cs):
 ∃s,size D W=.ok s/\ aA cs=n*s/\ b5 ι A cs/\
  ((n*s=0/\ cs=[])\/ (n*s≠0/\ ∃z,zero D W=.ok z/\ ((Array.range<|n*s).map ((aQ ι z).cells[· %(aQ ι z).cells.size]!))=(bb ι cs).toArray)):=by
 simp only[sw,bK]at h;have⟨s,B,h⟩:=h;refine⟨s,B,?_⟩;split at h;rename_i Q;simp at h;subst h;exact⟨by simp[Q],by simp[b5],.inl ⟨Q,rfl⟩⟩;rename_i Q;simp only[bK]at h;have⟨z,o,h⟩:=h;split at h;rename_i l;simp at h;subst h;refine⟨by rw[XX,l],Uj (yZ<|Fe o A) _,.inr ⟨Q,z,o,?_⟩⟩;rw[wW,<-l,XC];exact at5
omit F in
theorem EI{t W:Nat}(h:q9 D t=.ok W):cP D t=.ok (.slice W):=by simp only[q9,bK]at h;have⟨d,C,h⟩:=h;split at h;simp at h;subst h;exact C;exact at5
theorem PX{e:Operand->AV}{o:Oper}{v:AV}{ob:AO}{b:Nat}(X:¬A b)(h:jT D e o.op b=.ok (v,ob))
 (B:∀x,x∈o.op.operands->bB ι A (e x)):Ph P ι A w b v ob (Go.execOp (λx=>aQ ι<|e x) o):=by
 unfold Go.execOp;generalize o.op=k0 at h B;unfold jT at h;split at h;rename_i W;simp only[bK,eo,f']at h;obtain⟨z,E,s,J,rfl,rfl⟩:=h;refine⟨.cells (bb ι z.cells).toArray W,⟨w.heap.size,0,0,s⟩,?_,aM,HM w X<|yZ<|Fe E A,by simp[bB]⟩;simp only[Instr.alloc,cQ,x6 F (ι:=ι) w E,ay,newVar,x5,az,wW];exact auU;rename_i W x;simp only[bK,eo,f']at h;obtain⟨s,J,rfl,rfl⟩:=h;refine⟨.cells (bb ι (e x).cells).toArray W,⟨w.heap.size,0,0,s⟩,?_,aM,HM w X<|yZ<|B x auD,by simp[bB]⟩;simp only[Instr.box,cQ,ay,newVar,x5,az,wW];exact auU;rename_i t a0 M;simp only[bK]at h;have⟨W,y,s,J,h⟩:=h;split at h;exact auu;rename_i m;simp only[bK,eo,f']at h;obtain⟨z,E,e0,f,rfl,rfl⟩:=h;have C:=EI y;have⟨U,Q,c0,T,j⟩:=abl (ι:=ι) (A:=A) E;have:U=s:=by rw[J]at Q;simpa using Q.symm
 subst this;have G:∀p,p∈(M.toList.map λp=>(p.1,e p.2))->bB ι A p.2:=by intro p G;simp only[fv]at G;obtain⟨q,l0,rfl⟩:=G;exact av4
 refine⟨.cells (bb ι e0).toArray W,⟨w.heap.size,0,0,U⟩,?_,aM,HM w X<|SG _ _ _ f T G,by simp[bB]⟩;have e1:(M.map λp=>(p.1,aQ ι<|e p.2))=((M.toList.map λp=>(p.1,e p.2)).map λp=>(p.1,aQ ι p.2)).toArray:=by apply oH;simp
 have a:=Yx (ι:=ι) _ _ _ f;show(do let v<-Instr.buildSlice t a0 (M.map λp=>(p.1,aQ ι<|e p.2));pure (Next.value v):Sem Next).run P w=_;rw[e1];simp only[Instr.buildSlice,cQ,fh F w C,ay,lh F w J,cG m]
 rcases j with⟨n,rfl⟩|⟨n,f0,V,Y⟩
 simp only[b8 n,cQ,az,ay];simp only[n,Xz];have S:=a;simp only[bb]at S;simp only[S,cQ,x5,ay,az];exact auU;simp only[cG n,cQ,x6 F (ι:=ι) w V,az,ay,Y];simp only[a,cQ,x5,ay,az];exact auU;rename_i t r;have g:Ph P ι A w b (.cz b) (.map [] 0) (do pure (.value<|.map<|ad<|<-newObj (.map #[] 0))):=by refine⟨.map #[] 0,⟨w.heap.size,0,0,0⟩,?_,aM,⟨aM,vA w _,aY⟩,by simp[bB]⟩;simp[aQ,eg]
 split at h;simp at h;obtain⟨rfl,rfl⟩:=h;have⟨ob,L,I,a⟩:=g.dO;refine⟨ob,L,?_,a⟩;rw[<-I];simp[Instr.makeMap];rename_i m0;simp only[bK]at h;have⟨d,C,⟨k,i⟩,b0,h⟩:=h;split at h;simp at h;obtain⟨rfl,rfl⟩:=h;have⟨ob,L,I,a⟩:=g.dO;refine⟨ob,L,?_,a⟩;rw[<-I];simp[Instr.makeMap,fh F w C,x' (ι:=ι) b0,asInt,asIntOf];exact at5;rename_i t l c;simp only[bK]at h;have⟨W,y,⟨n0,N⟩,c0,⟨o0,O⟩,g0,i,b0,h⟩:=h;split at h;rename_i Z;have⟨c1,c2,c3,c4⟩:=Z;simp only[bK,eo,f']at h;obtain⟨s,J,z,E,rfl,rfl⟩:=h;have C:=EI y;have⟨U,Q,d0,T,j⟩:=abl (ι:=ι) (A:=A) E;have:U=s:=by rw[J]at Q;simpa using Q.symm
 subst this;refine⟨.cells (bb ι z).toArray W,⟨w.heap.size,0,0,U⟩,?_,aM,HM w X T,by simp[bB]⟩;have i0:IntKind.i64.wrap N=N:=IntWalk.i64_in _ aW;have j0:IntKind.i64.wrap O=O:=IntWalk.i64_in _ aW;have u:¬((i.bytes:Int)*O>2^48):=by have I:(i.bytes:Int)*O<=2^16*2^30:=Ci aW aW aW aW;omega
 show(do let v<-Instr.makeSlice t (aQ ι<|e l) (aQ ι<|e c);pure (Next.value v):Sem Next).run P w=_;simp only[Instr.makeSlice,cQ,fh F w C,ay,x' (ι:=ι) c0,x' (ι:=ι) g0,asInt,asIntOf,az,Ib F w b0,i0,j0];have Z:(ax (O<0)||ax ((i.bytes:Int)*O>2^48)||ax (N<0)||ax (N>O))=ab:=by grind
 rw[cG<|by rw[Z];simp];simp only[cQ,run_askRoom,ay,lh F w J]
 rcases j with⟨n,rfl⟩|⟨n,f0,V,Y⟩
 simp only[b8 n,cQ,az,ay];simp only[n,Xz,x5,ay];simp[aQ,eg,bf.at,bb];simp only[cG n,cQ,x6 F (ι:=ι) w V,az,ay,Y,x5];exact auU;exact at5;exact at5
end
section
variable[Lo]
omit [Lo]in
theorem Ky{ι:aI}{v:AV}(h:v.dN=aa):(aQ ι v).oneCell'=aa:=by
 have:=ad8 (ι:=ι) h
 cases Y:aQ ι v with
 |agg V=>exact((this V).1 Y).elim
 |tuple V=>exact((this V).2 Y).elim
 |_=>rfl
structure sD(g:Nat)(w w':World):Prop where
 size:w'.heap.size=w.heap.size
 uz:∀r,r≠g->w'.heap[r]?=w.heap[r]?
 os:w'.os=w.os/\ (w'.tape=w.tape/\ (Lo.xv\/ w.drawn<=w'.drawn))/\ w'.output=w.output
theorem sD.refl(g:Nat)(w:World):sD g w w:=⟨aM,λ_ _=>rfl,aM,⟨aM,.inr<|bu _⟩,aM⟩
theorem sD.trans{g:Nat}{a b c:World}(h:sD g a b)(k:sD g b c):sD g a c:=⟨k.size.trans h.size,λr x=>(k.uz r x).trans<|h.uz r x,k.os.1.trans h.os.1,⟨k.os.2.1.1.trans h.os.2.1.1,Vq h.os.2.1.2 k.os.2.1.2⟩,k.os.2.2.trans h.os.2.2⟩
theorem alj(w:World)(g o:Nat)(v:Value):sD g w (w.setCell ⟨g,o,ae⟩ v):=⟨aY,λr x=>by simp only[World.setCell,I8];rw[cG aW],rfl,⟨rfl,.inr<|bu _⟩,rfl⟩
theorem Em(w:World)(g:Nat)(o:Obj):sD g w {w with heap:=w.heap.setIfInBounds g o}:=⟨aY,λr x=>by simp only[Array.getElem?_setIfInBounds];rw[cG aW],rfl,⟨rfl,.inr<|bu _⟩,rfl⟩
theorem YD(P:Program)(g o:Nat)(e:TypeId):∀(q:List Value) (i:Nat) (d:Array Value) (w:World),w.heap[g]?=ad (.cells d e (0,0))->
 o+i+aA q<=d.size->(∀v,v∈q->v.oneCell'=aa)->
 ∃w' O,(Go.storeCells ⟨g,o,ae⟩ q i).run P w=.ok () w'/\ sD g w w'/\ w'.heap[g]?=ad (.cells O e (0,0))/\ O.size=d.size/\
  ∀j,O[j]?=if o+i<=j/\ j<o+i+aA q then q[j-(o+i)]? else d[j]?:=by
 intro q
 induction q with
 |nil=>intro i d w G _ _;exact⟨w,d,by simp[Go.storeCells],sD.refl g w,G,rfl,λj=>by rw[cG<|by simp only[f_];omega]⟩
 |cons v q I=>
  intro i d w G Q X;simp only[cr]at Q;have L:(⟨g,o,ae⟩:Addr).add i=⟨g,o+i,ae⟩:=by unfold Addr.add;split;rename_i h;simp[h];rfl
  have m:o+i<d.size:=aW;have y:w.cell? ⟨g,o+i,ae⟩=ad d[o+i]:=by simp[World.cell?,G,m]
  have T:w.frozen? ⟨g,o+i,ae⟩=ab:=by simp[World.frozen?,G]
  have l:(w.setCell ⟨g,o+i,ae⟩ v).heap[g]?=ad (.cells (d.setIfInBounds (o+i) v) e (0,0)):=by simp[World.setCell,I8,G]
  have⟨w',O,V,a,W,A,Z⟩:=I (i+1) _ _ l aul<|λx s=>X x<|by simp[s]
  refine⟨w',O,?_,(alj w g (o+i) v).trans a,W,by simp[A],λj=>?_⟩;simp only[Go.storeCells,cQ,L,run_store P w _ v _<|X v aY,y,T,fR,ff,ay];exact V;rw[Z j];simp only[cr]
  grind
section
variable{D:a_}{P:Program}(F:fu D P){ι:Nat->bf}{σ:St}{w:World}
theorem Ie(R:bz D ι σ w){b o:Nat}{l:aD}{σ':St}(h:storeCells σ b o l=.ok σ')(G:b5 ι (·<σ.n) l):
 ∃w',(Go.storeCells ((ι b).at o)<|bb ι l).run P w=.ok () w'/\ bz D ι σ' w'/\ cj ι σ w ι σ' w':=by
 unfold storeCells at h;split at h;simp at h;subst h;exact⟨w,by simp[Go.storeCells,bb],R,cj.refl ι σ w⟩;split at h;rename_i e;split at h;rename_i V W U B r;split at h;rename_i c;simp only[bW,c_]at c;obtain⟨⟨rfl,Q⟩,X⟩:=c;simp at h;subst h;have A:=R.eS b e;rw[r]at A;have⟨M,a,d,y,C,n,Z⟩:=A;obtain⟨rfl,z⟩:=Z aM;have s:∀i,i<aA V->(ι b).shift+i<d.size:=λi p=>by
  have:=n i _ (cx p)
  grind
 have g:(ι b).shift+o+0+aA (bb ι l)<=d.size:=by
  rw[sN]
  rcases Nat.eq_zero_or_pos (aA l)with k|k
  exact at6;have:=s (o+aA l-1) aW;omega
 have⟨w',O,u,j,f,E,t⟩:=YD P (ι b).block ((ι b).shift+o) W (bb ι l) 0 d w C g (λv Y=>by
  rw[mK,fv]at Y;obtain⟨x,m,rfl⟩:=Y
  exact Ky<|kt.1 X x m)
 refine⟨w',u,?_⟩;refine R.set e (by rw[r];rfl) j.size j.uz j.os ⟨LO Q M G,a,O,(0,0),f,λi v Y=>?_,λ_=>⟨aM,aW⟩⟩;rw[Is _ _ _ _ Q]at Y;rw[t,sN];split at Y;exact at6
 grind
 exact at5;exact at5;exact at5
include F
theorem anR(R:bz D ι σ w){t:Nat}{a x:AV}{σ':St}(h:wt D σ t a x=.ok σ')(s:bB ι (·<σ.n) x):
 ∃w',(Instr.storeAt t (aQ ι a)<|aQ ι x).run P w=.ok () w'/\ bz D ι σ' w'/\ cj ι σ w ι σ' w':=by
 unfold wt at h;split at h;rename_i b o;simp only[bK]at h;have⟨n,r,h⟩:=h;split at h;rename_i g;have⟨w',V,p,d⟩:=Ie (P:=P) R h<|yZ s;refine⟨w',?_,p,d⟩;simp only[Instr.storeAt,aQ,Instr.sureAddr,cQ,az,ay,storeVar,lh F w r,wW];exact at6;exact at5;exact at5
omit [Lo]in
omit F in
theorem Ic(P:Program)(w:World)(r:Nat)(o N:Obj)(h:w.heap[r]?=ad o)(Q:∀a b c,o≠.cells a b c):
 (setObj r N).run P w=.ok () {w with heap:=w.heap.setIfInBounds r N}:=by
 simp only[setObj,Sem.run,h]
omit [Lo]in
omit F in
theorem wj(P:Program)(w:World)(r:Nat)(o:Obj)(h:w.heap[r]?=ad o)(Q:∀a b c,o≠.cells a b c):
 (getObj r).run P w=.ok o w:=by
 simp only[getObj,Sem.run,h]
omit [Lo]in
omit F in
theorem Dv(w:World)(r:Nat)(N:Obj)(h:r<w.heap.size):({w with heap:=w.heap.setIfInBounds r N}:World).heap[r]?=ad N:=by simp[h]
omit [Lo]in
omit F in
theorem acN{a b:Value}(h:kx a b=aa):a=b:=by
 unfold kx at h
 grind
omit [Lo]in
omit F in
theorem acO{a b:Fn}(h:CR a b=aa):a=b:=by
 unfold CR at h
 grind
omit F in
omit [Lo]in
mutual
theorem CQ:∀(a b:AV),cU a b=aa->a=b
 |.aN a,.aN b,h=>by simp only[cU]at h;rw[acN h]
 |.aR ..,.aR ..,h=>avX
 |.slice ..,.slice ..,h=>avX
 |.ik ..,.ik ..,h=>avX
 |.cz _,.cz _,h=>avX
 |.func f a b,.func g B W,h=>by simp only[cU,bW]at h;rw[acO h.1.1,sJ a B h.1.2,sJ b W h.2]
 |.yield _,.yield _,h=>avX
 |.iface t v,.iface Y i,h=>by simp only[cU,bW,nj]at h;rw[h.1,CQ v i h.2]
 |.agg l,.agg N,h=>by simp only[cU]at h;rw[sJ l N h]
 |.tuple l,.tuple N,h=>by simp only[cU]at h;rw[sJ l N h]
theorem sJ:∀(a b:aD),kf a b=aa->a=b
 |[],[],_=>rfl
 |x::S,y::V,h=>by simp only[kf,bW]at h;rw[CQ x y h.1,sJ S V h.2]
end
omit [Lo]in
omit F in
theorem YK{v:AV}(h:xO v=aa)(n:Nat):Instr.sameBits n (aQ ι v) (aQ ι v)=aa:=by unfold xO at h;split at h;cases n<;>simp[aQ,Instr.sameBits];cases n<;>simp[aQ,Instr.sameBits];cases n<;>simp[aQ,Instr.sameBits,Go.beq_toListBytes];exact at5
omit [Lo]in
omit F in
theorem anY{v:AV}(h:tq v=aa)(n:Nat):Instr.sameBits (n+1) (aQ ι v) (aQ ι v)=aa:=by
 unfold tq at h;split at h;rename_i V;simp only[aQ,Instr.sameBits,bW,ve,true_and];have y:∀v,v∈V->xO v=aa:=auF;clear h
 induction V with
 |nil=>simp[bb]
 |cons c V I=>
  have:=I<|λv Y=>y v<|by simp[Y]
  simp only[bb];simp only[List.zip_cons_cons,uS,bW];exact⟨YK (y c aY) n,this⟩
 exact YK h _
theorem anJ(R:bz D ι σ w){t:Nat}{m k v:AV}{σ':St}(h:mapUpdate D σ t m k v=.ok σ')(g0:bB ι (·<σ.n) k)(h0:bB ι (·<σ.n) v):
 ∃w',(Instr.mapUpdate t (aQ ι m) (aQ ι k)<|aQ ι v).run P w=.ok () w'/\ bz D ι σ' w'/\ cj ι σ w ι σ' w':=by
 simp only[mapUpdate,bK]at h;obtain⟨d,B,h⟩:=h;split at h;rename_i key V b;split at h;rename_i I;simp only[bK]at h;obtain⟨⟨X,Y⟩,G,r0,U,h⟩:=h
 cases r0 with
 |false=>simp at h
 |true=>
  simp only[Bool.not_true,Bool.false_eq_true,if_false,bK]at h;obtain⟨r,A,h⟩:=h;obtain⟨L,s⟩:=DZ R G
  rcases s with⟨s,_⟩|⟨n,s,q,M,Z,N⟩
  cases s;cases s;obtain⟨i0,Q⟩:=W5 I;have g:=Yy F (ι:=ι) (w:=w) Q A;have T:∀W,(Instr.checkKey W 10000 key<|aQ ι k).run P w=.ok () w:=λW=>Yu F 10 10000 key k 10 I U aW;have O:(ι b).block<w.heap.size:=(Array.getElem?_eq_some_iff.1 N).1;have o:=wj P w (ι b).block _ N aY;have u:=λb0=>Ic P w (ι b).block _ b0 N aY;have J:(σ.a7 b).fG=aa:=by rw[M];rfl
  cases r with
  |none=>
   simp at h;subst h;refine⟨{w with heap:=w.heap.setIfInBounds (ι b).block (.map ((X.map<|fU ι).toArray.push {key:=aQ ι k,val:=aQ ι v,born:=Y})<|Y+1)},?_,?_⟩;simp only[Instr.mapUpdate,Sem.run_bind,fh F w B,ay,aQ,o,T];exact at6;have:=Em w (ι b).block<|.map ((X.map<|fU ι).toArray.push {key:=aQ ι k,val:=aQ ι v,born:=Y})<|Y+1;refine R.set q J this.size this.uz this.os ⟨Z,?_,?_⟩;rw[Dv w _ _ O];simp[fU]
   grind
  |some p=>
   obtain⟨i,y⟩:=p;simp only at h;obtain⟨e,z,_,c0,d0⟩:=SO _ _ _ _ A;simp only[Nat.sub_zero]at z;rw[z]at h;simp only at h;split at h;rename_i S;simp only[Bool.and_eq_true]at S;have C:e.1=k:=CQ _ _ S.2;simp at h;subst h;have f:i<aA X:=(List.getElem?_eq_some_iff.1 z).1;have E:(X.map<|fU ι).toArray[i]?=ad (fU ι e):=by simp[z]
   refine⟨{w with heap:=w.heap.setIfInBounds (ι b).block (.map ((X.map<|fU ι).toArray.modify i λe=>{e with key:=aQ ι k,val:=aQ ι v}) Y)},?_,?_⟩;have e0:(Instr.keyThatStays (((X.map<|fU ι).toArray[i]?.map (·.key)).getD<|aQ ι k)<|aQ ι k).run P w=.ok (aQ ι k) w:=by rw[E];simp only[Option.map_some,Option.getD_some,fU,C,Instr.keyThatStays];rw[if_pos<|anY S.1 9999];simp
   simp only[Instr.mapUpdate,Sem.run_bind,fh F w B,ay,aQ,o,T];exact at6;have:=Em w (ι b).block<|.map ((X.map<|fU ι).toArray.modify i λe=>{e with key:=aQ ι k,val:=aQ ι v}) Y;refine R.set q J this.size this.uz this.os ⟨Z,?_,?_⟩;rw[Dv w _ _ O];congr 2;apply Array.ext';rw[Array.toList_modify];clear E g T A G N o u M this L;clear f
   induction X generalizing i with
   |nil=>simp at z
   |cons x X a0=>
    obtain⟨a,n,c⟩:=x
    cases i with
    |zero=>simp at z;subst z;simp[mV,fU];exact congrArg _ C.symm
    |succ i=>simpa[mV]using a0 i (by simpa using z)
   intro j0 f0;have:∀(l:List<|AV×AV×Nat) (j:Nat),(∀e,e∈l->bB ι (·<σ.n) e.1/\ bB ι (·<σ.n) e.2.1)->∀e,e∈mV v j l->bB ι (·<σ.n) e.1/\ bB ι (·<σ.n) e.2.1:=by
    intro l
    induction l with
    |nil=>intro j _ e he;simp[mV]at he
    |cons x l a0=>
     obtain⟨a,n,c⟩:=x;intro j k0 e he
     cases j with
     |zero=>
      simp only[mV,List.mem_cons]at he
      rcases he with rfl|he
      exact at6
      grind
     |succ j=>
      simp only[mV,List.mem_cons]at he
      rcases he with rfl|he
      exact at6
      grind
   grind
   exact auu
 exact at5;exact at5
end
end
section
variable[Lo]
section
variable{D:a_}{P:Program}(F:fu D P){ι:Nat->bf}{σ:St}{w:World}
theorem Eu(R:bz D ι σ w){o:AO}{ob:Obj}
 (B:jk (fc ι σ.n ⟨w.heap.size,0,0,0⟩) (·<σ.n+1) o ⟨w.heap.size,0,0,0⟩<|w.alloc ob):
 ∃ι' w',(newObj ob).run P w=.ok w.heap.size w'/\ bz D ι' (σ.push o) w'/\ cj ι σ w ι' (σ.push o) w'/\ ι' σ.n=⟨w.heap.size,0,0,0⟩:=by
 have:=R.push (L:=⟨w.heap.size,0,0,0⟩) aM B;exact⟨_,_,aM,this.1,this.2,eg _ _ _⟩
include F
theorem anM(R:bz D ι σ w){t:Nat}{x v:AV}{σ':St}(h:lH D σ t x=.ok (v,σ')):
 ∃ι' w',(Instr.range t<|aQ ι x).run P w=.ok (aQ ι' v) w'/\ bz D ι' σ' w'/\ cj ι σ w ι' σ' w'/\ bB ι' (·<σ'.n) v:=by
 simp only[lH,bK]at h;obtain⟨d,C,h⟩:=h;split at h;simp at h;obtain⟨rfl,rfl⟩:=h;obtain⟨ι',w',V,a,X,A⟩:=Eu (P:=P) R (o:=.r6 ae 0 [] 0) (ob:=.mapIter ae 0 #[] 0) ⟨aM,vA w _,aY⟩;refine⟨ι',w',?_,a,X,by simp[bB,St.push]⟩;simp only[Instr.range,cQ,fh F w C,ay,aQ,az,V];simp[A,bf.at];rename_i m;simp only[bK]at h;obtain⟨⟨j,Y⟩,c,h⟩:=h;simp at h;obtain⟨rfl,rfl⟩:=h;obtain⟨_,s⟩:=DZ R c
 rcases s with⟨s,_⟩|⟨W,s,e,r,Z,N⟩
 cases s;cases s;have G:=wj P w (ι m).block _ N aY;obtain⟨ι',w',V,a,X,A⟩:=Eu (P:=P) R (o:=.r6 (ad m) Y [] Y) (ob:=.mapIter (ad (ι m).block) Y #[] Y)
  ⟨aM,by rw[vA];simp[ez<|yq e],by rintro b I;cases I;exact uX e⟩
 refine⟨ι',w',?_,a,X,by simp[bB,St.push]⟩;simp only[Instr.range,cQ,fh F w C,ay,aQ,az,G,V];simp[A,bf.at];exact at5
omit [Lo]in
omit F in
theorem LD{b:Nat}{o:AO}(h:σ.get b=.ok o):b<σ.n/\ σ.a7 b=o:=by
 unfold St.get at h
 grind
omit [Lo]in
omit F in
theorem K7(ι:aI)(es:List<|AV×AV×Nat)(f:Nat->Bool):
 ((es.map<|fU ι).toArray.filter λe=>f e.born)=((es.filter λe=>f e.2.2).map<|fU ι).toArray:=by
 apply oH;simp only[Array.toList_filter]
 induction es with
 |nil=>simp
 |cons e es I=>simp only[cL,OY,fU]at I|-;split<;>simp_all [fU]
omit F in
theorem anK(R:bz D ι σ w){k v:AV}{b:Bool}{ty:TypeId}{σ':St}(h:MD σ k b=.ok (v,σ')):
 ∃w',(Instr.next (aQ ι k) b ty).run P w=.ok (aQ ι v) w'/\ bz D ι σ' w'/\ cj ι σ w ι σ' w'/\ bB ι (·<σ'.n) v:=by
 unfold MD at h;split at h;rename_i r;simp only[bK]at h;obtain⟨o,B,h⟩:=h;obtain⟨t,M⟩:=LD B;have V:=R.eS r t;rw[M]at V;split at h;rename_i G seen T;obtain⟨E,W,_⟩:=V;have g:=wj P w (ι r).block _ W aY;have A:(ι r).at 0=⟨(ι r).block,0,ae⟩:=by simp[bf.at,E]
 simp at h;obtain⟨rfl,rfl⟩:=h;refine⟨w,?_,R,cj.refl _ _ _,by simp[bB,b5,cO]⟩;simp only[Instr.next,aQ,A,cQ,g,ay];simp[aQ,bb,cO];rename_i m G seen a;obtain⟨E,W,C⟩:=V;have g:=wj P w (ι r).block _ W aY;have A:(ι r).at 0=⟨(ι r).block,0,ae⟩:=by simp[bf.at,E]
 have Y:(ι r).block<w.heap.size:=(qm.1 W).1;simp only[bK]at h;obtain⟨⟨X,d⟩,U,h⟩:=h;obtain⟨L,s⟩:=DZ R U
 rcases s with⟨s,_⟩|⟨b0,s,a0,f,l,O⟩
 cases s;cases s;have p:=wj P w (ι m).block _ O aY;split at h;exact auu;rename_i I;have Z:(!seen.toArray.isEmpty&&!(X.map<|fU ι).toArray.isEmpty&&(X.map<|fU ι).toArray.all λx=>decide (x.born>=a))=ab:=by simp only[Bool.not_eq_true]at I;rw[<-I];simp only[List.isEmpty_toArray,List.isEmpty_map,List.all_toArray,List.all_map];rfl
 have j:(X.map<|fU ι).toArray.filter (λe=>!seen.toArray.contains e.born)=((X.filter λe=>!seen.contains e.2.2).map<|fU ι).toArray:=by have:=K7 ι X<|λn=>!seen.contains n;exact at6
 have z:=K7 ι (X.filter λe=>!seen.contains e.2.2)<|λn=>decide (n<G);have u:=K7 ι (X.filter λe=>!seen.contains e.2.2)<|λn=>decide (n>=G)
 have J:(Instr.next (aQ ι<|.aR r 0) ab ty).run P w=((do
  let N:=(if(((X.filter λe=>!seen.contains e.2.2).filter λe=>decide (e.2.2<G)).map<|fU ι).toArray.isEmpty then#[ae]else#[])++
   ((((X.filter λe=>!seen.contains e.2.2).filter λe=>decide (e.2.2<G)).map<|fU ι).toArray++(((X.filter λe=>!seen.contains e.2.2).filter λe=>decide (e.2.2>=G)).map<|fU ι).toArray).map ad
  match N[<-choose (.mapNext N.size)]? with
  |some (ad e)=>
   setObj (ι r).block (.mapIter (ad (ι m).block) G (seen.toArray.push e.born) d)
   pure (.tuple #[.bool aa,e.key,e.val])
  |some ae=>pure (.tuple #[.bool ab])
  |none=>stuck "Next: no such candidate":Sem Value)).run P w:=by
  simp only[Instr.next,aQ,A,cQ,g,ay,sE,p];rw[cG<|by rw[Z];simp];simp only[j,z,u,cQ];rfl
 rw[J];split at h;rename_i y i;simp at h;obtain⟨rfl,rfl⟩:=h;refine⟨w,?_,R,cj.refl _ _ _,by simp[bB,b5,cO]⟩;simp only[y,i];simp[Question.forced,aQ,bb,cO];rename_i e y i;simp at h;obtain⟨rfl,rfl⟩:=h;have q:e∈X:=by
  have:e∈((X.filter λe=>!seen.contains e.2.2).filter λe=>decide (e.2.2<G)):=by rw[y];simp
  grind
 have S:=Ic P w (ι r).block _ (.mapIter (ad (ι m).block) G (seen++[e.2.2]).toArray d) W aY;have B:=Em w (ι r).block<|.mapIter (ad (ι m).block) G (seen++[e.2.2]).toArray d;have c:=R.set (o:=.r6 (ad m) G (seen++[e.2.2]) d) t (by rw[M];rfl) B.size B.uz B.os
  ⟨E,by rw[Dv w _ _ Y];simp,by rintro b Q;cases Q;exact a0⟩
 refine⟨_,?_,c.1,c.2,by simp[bB,b5,cO];exact L e q⟩;simp only[y,i];simp[Question.forced,fU];rw[S];simp[aQ,bb,cO];exact at5;exact at5;exact at5
omit [Lo]in
omit F in
theorem anw(R:bz D ι σ w){Q v:AV}(h:KL σ Q=.ok v):
 (Instr.entry<|aQ ι Q).run P w=.ok (aQ ι v) w/\ bB ι (·<σ.n) v:=by
 unfold KL at h;split at h;rename_i r;simp only[bK]at h;have⟨o,B,h⟩:=h;have⟨t,j⟩:=LD B;have V:=R.eS r t;rw[j]at V;split at h;rename_i m G seen T;have⟨J,N,S⟩:=V;have M:=wj P w (ι r).block _ N aY;have A:(ι r).at 0=⟨(ι r).block,0,ae⟩:=by simp[bf.at,J]
 simp only[bK]at h;have⟨⟨X,d⟩,Y,h⟩:=h;have⟨L,s⟩:=DZ R Y
 rcases s with⟨s,_⟩|⟨W,s,l,z,Z,O⟩
 cases s;cases s;have p:=wj P w (ι m).block _ O aY;split at h;rename_i c;split at h;rename_i I C;split at h;rename_i x s;simp at h;subst h;have q:x∈X:=List.mem_of_find?_eq_some s;refine⟨?_,by simp[bB,b5,L x q]⟩;have k:seen.toArray.back?=ad I:=by simpa using C
 have n:(X.map<|fU ι).toArray.find? (λe=>e.born==I)=ad (fU ι x):=by rw[List.find?_toArray,List.find?_map];have:((λe:MapEntry=>e.born==I)∘fU ι)=λe=>e.2.2==I:=rfl;rw[this,s];rfl
 simp only[Instr.entry,aQ,A,cQ,M,ay,sE,k,p];rw[cG<|by simp;exact c];simp[n,fU,bb];exact at5;exact at5;exact at5;exact at5;exact at5
end
end
section
variable[Lo]
section
variable{D:a_}{P:Program}(F:fu D P){ι:Nat->bf}{σ:St}{w:World}
omit [Lo]in
theorem Kx(ι:aI)(l:aF):bb ι (l.map λc=>bY .u8 c.toNat)=l.map λc=>Value.int .u8 c.toNat:=by
 induction l with
 |nil=>simp[bb]
 |cons c l I=>simp only[cL,bb,I];simp[bY,aQ]
omit [Lo]in
theorem NB(R:bz D ι σ w){sz n:Nat}{x:AV}{new:aD}(h:pr σ sz x=.ok (new,n)):
 (Builtin.lenOf<|aQ ι x).run P w=.ok n w/\ b5 ι (·<σ.n) new/\ aA new=n*sz/\
 (∀m,m<=n->(Builtin.firstCells sz m<|aQ ι x).run P w=.ok (bb ι<|new.take<|m*sz).toArray w):=by
 unfold pr at h;split at h;rename_i T _;simp at h;obtain⟨rfl,rfl⟩:=h;refine⟨by simp[Builtin.lenOf,aQ],by simp[b5],aY,λm Y=>?_⟩;have:m=0:=aW;subst this;cases T<;>simp[Builtin.firstCells,aQ,bb,Go.loadCells,loadCellsFrom];rename_i b o l s;simp at h;obtain⟨rfl,rfl⟩:=h;have⟨a,c,Q⟩:=AJ ι b o l s;rw[Q];refine⟨by simp[Builtin.lenOf],by simp[b5],aY,λm Y=>?_⟩;have:m=0:=aW;subst this;simp[Builtin.firstCells,Go.loadCells,loadCellsFrom,bb];rename_i l;split at h;rename_i V;subst V;simp at h;obtain⟨rfl,rfl⟩:=h;refine⟨by simp[Builtin.lenOf,aQ,ByteArray.size],?_,aY,λm Y=>?_⟩;exact jF.2 λv y=>by simp only[fv]at y;obtain⟨c,_,rfl⟩:=y;simp[bY,bB]
 simp only[Builtin.firstCells,aQ,az,afG,yp];congr 1;apply oH;simp[Kx,<-List.map_take];exact at5;rename_i b o j I s;simp only[bK,eo,f']at h;obtain⟨O,f,l,G,rfl,rfl⟩:=h;have⟨X,W,U,A,B⟩:=Km f;have⟨c,Q⟩:=vi ι b o j I s;have⟨V,p⟩:=nI G;have:=R.loadCells (P:=P) X B G;rw[Q];refine⟨by simp[Builtin.lenOf],this.2,p,λm Y=>?_⟩;have S:m*sz<=j*sz:=uY _ Y;have L:fO O o (m*sz)=.ok (l.take<|m*sz):=by
  have e:l.take (m*sz)=(O.drop o).take (m*sz):=by rw[V,z',Jy S]
  unfold fO
  grind
 have:=R.loadCells (P:=P) X B L;simp only[Builtin.firstCells];exact this.1;exact at5
omit [Lo]in
theorem anL(m c:Nat)(h:c<m):Builtin.nextslicecap m c<=2*m+1000:=by
 unfold Builtin.nextslicecap;split;omega;split;omega;have:∀(r x:Nat),x<=2*m+1000->Builtin.growBy m r x<=2*m+1000:=by
  intro r
  induction r with
  |zero=>intro x s;simpa[Builtin.growBy]using s
  |succ r I=>
   intro x s;simp only[Builtin.growBy];split;exact s
   grind
 grind
theorem bz.amV(R:bz D ι σ w){b:Nat}{o:AO}{L:bf}{w':World}(X:b<σ.n)(Y:(σ.a7 b).fG=aa)
 (j:L.block=(ι b).block)(d:sD (ι b).block w w')(y:jk (fc ι σ.n L) (·<σ.n+1) o L w'):
 bz D (fc ι σ.n L) ((σ.set b .c5).push o) w'/\ cj ι σ w (fc ι σ.n L) ((σ.set b .c5).push o) w':=by
 have z:(σ.set b .c5).l.length=(σ.set b .c5).n:=by simp[St.set,R.len]
 have Z:(σ.set b .c5).n=σ.n:=rfl;have N:σ.a7 b≠.c5:=by intro e;rw[e]at Y;simp[AO.fG]at Y
 have v:∀W,W<σ.n->((σ.set b .c5).push o).a7 W=if b=W then .c5 else σ.a7 W:=λW I=>by rw[eP<|by rw[Z];exact I];split;rename_i e;subst e;exact pS R.len X;rename_i e;exact kZ X e
 have O:((σ.set b .c5).push o).a7 σ.n=o:=by have:=kk (σ:=σ.set b .c5) (o:=o);rwa[Z]at this
 refine⟨⟨by simp[St.push,St.set,R.len],yo R.ja,λg G=>?_,λW I=>?_,λu m Q a s E T=>?_,R.mem⟩,?_⟩;rw[ez (by have:=R.ja;omega)];exact R.jW g G;change W<σ.n+1 at I;by_cases f:W=σ.n;subst f;rw[O,eg];exact y;have Q:W<σ.n:=aW;rw[v W Q,ez f];split;trivial;rename_i s;by_cases G:σ.a7 W=.c5;rw[G];trivial;exact((R.eS W Q).mono ta).congr<|d.uz _ λe=>R.fJ b W X Q s Y G e.symm;change u<σ.n+1 at Q;change m<σ.n+1 at a;by_cases x:u=σ.n;subst x;have C:m<σ.n:=aW;rw[v m C]at T;rw[eg,ez aW,j];split at T;exact at6;rename_i q;exact R.fJ b m X C q Y T;have B:u<σ.n:=aW;rw[v u B]at E;split at E;simp[AO.fG]at E;rename_i i;by_cases t:m=σ.n;subst t;rw[eg,ez x,j];exact R.fJ u b B X (λe=>i e.symm) E N;have C:m<σ.n:=aW;rw[v m C]at T;rw[ez x,ez t];split at T;exact at6;exact R.fJ u m B C s E T;refine⟨d.os.1,d.os.2.1,d.os.2.2,by rw[d.size];exact auS,by simp[St.push,St.set],λW I=>ez aW,λr A V=>d.uz r λe=>V b X Y e.symm,λW I S=>?_⟩;change W<σ.n+1 at I;right;by_cases f:W=σ.n;subst f;exact⟨b,X,AO.ug Y,λ_=>Y,by rw[eg,j]⟩;have Q:W<σ.n:=aW;rw[v W Q]at S|-;split at S;exact at6;rename_i s;exact⟨W,Q,S,λh=>by rw[cG s]at h;exact h,by rw[ez f]⟩
omit [Lo]in
theorem atf(z:Array Value)(n:Nat):(Builtin.zeroCells z n).size=n*z.size:=by simp[Builtin.zeroCells]
theorem ahn(R:bz D ι σ w){W sz k c:Nat}{cs:aD}{rest:Array Value}(_:0<sz)(r:b5 ι (·<σ.n) cs)(B:k<=c)
 (f:aA cs=k*sz)(Y:rest.size=(c-k)*sz):
 bz D (fc ι σ.n ⟨w.heap.size,0,c,sz⟩) (σ.push<|.cells cs W aa sz) (w.alloc<|.cells ((bb ι cs).toArray++rest) W)/\
 cj ι σ w (fc ι σ.n ⟨w.heap.size,0,c,sz⟩) (σ.push<|.cells cs W aa sz) (w.alloc<|.cells ((bb ι cs).toArray++rest) W):=by
 refine R.push aM ⟨ju ta cs r,aM,_,(0,0),vA w _,λi v y=>?_,λ_=>⟨aM,?_,aM⟩⟩;have O:i<aA cs:=(lQ.1 y).1;rw[nY (λx s=>(ta x s).2) v<|rT r y];rw[Array.getElem?_append_left aul];simp[y];show 0+c*sz<=_;simp only[Array.size_append,List.size_toArray,sN,f,Y];rw[<-wF];exact at6
omit [Lo]in
theorem LZ{Y:TypeDesc}(h:vH Y=ab)(k:IntKind):Y=.int k->False:=by rintro rfl;simp[vH]at h
include F
theorem ank(R:bz D ι σ w){G0 H0:Nat}{s x v:AV}{σ':St}{e1:Array TypeId}{ty:TypeId}(h:l_ D σ G0 H0 s x=.ok (v,σ'))
 (M0:e1=#[G0,H0])(f1:bB ι (·<σ.n) s):
 ∃ι' w',(Builtin.append_ e1 ty #[aQ ι s,aQ ι x]).run P w=.ok (aQ ι' v) w'/\ bz D ι' σ' w'/\ cj ι σ w ι' σ' w'/\ bB ι' (·<σ'.n) v:=by
 subst M0;simp only[l_,bK]at h;obtain⟨S,N0,B,k0,i,l0,t1,m0,z,u1,⟨C,n⟩,f0,h⟩:=h;have O0:=EI N0;obtain⟨u,O,l,I0⟩:=NB (P:=P) R f0;split at h;exact auu;rename_i P0;have m:(ax (n<2^30)&&ax (0<i.bytes/\ i.bytes<2^14/\ 0<B)&&!vH t1&&aA z.cells==B)=aa:=by grind
 simp only[bW,c_,nj,nM]at m;obtain⟨⟨⟨g1,v1,i1,e⟩,n0⟩,Q0⟩:=m;have U:(Builtin.firstCells B n<|aQ ι x).run P w=.ok (bb ι C).toArray w:=by grind
 have M:∀(J0:AV) (aN:Option Addr) (W E:Nat) (old:aD),aQ ι J0=.slice aN W E->W+n<2^30->E<W+n->
  (∀w',w'.heap=w.heap->(Builtin.firstCells B W<|aQ ι J0).run P w'=.ok (bb ι old).toArray w')->b5 ι (·<σ.n) old->aA old=W*B->
  ∃c,W+n<=c/\ (Builtin.append_ #[G0,H0] ty #[aQ ι J0,aQ ι x]).run P w=
   .ok (.slice (ad ⟨w.heap.size,0,ae⟩) (W+n) c) (w.drew.alloc<|.cells ((bb ι<|old++C).toArray++Builtin.zeroCells (aQ ι z).cells (c-(W+n))) S):=by
  intro J0 aN W E old u0 o0 g0 V w1 x1;have y1:=anL (W+n) E g0;have S0:¬(Builtin.nextslicecap (W+n) E*i.bytes>2^48):=by have h1:Builtin.nextslicecap (W+n) E*i.bytes<=(2^31+1000)*2^14:=Nat.mul_le_mul aW aW;omega
  refine⟨(Question.appendCap (W+n) E S).cut<|w.tape w.drawn<|.appendCap (W+n) E S,by simp[Question.cut],?_⟩;generalize j1:(Question.appendCap (W+n) E S).cut (w.tape w.drawn<|.appendCap (W+n) E S)=c;simp only[Builtin.append_,pA,List.getElem?_cons_zero,oK,cQ,fh F w O0,ay,u0,lh F w k0,fh F w m0,az];have K0:=LZ n0;simp only[fR,ff,u,cQ,ay];rw[cG aW];simp only[cQ,Ib F w l0,ay,false_or];rw[cG aW];simp only[cQ,Ib F w l0,ay];rw[cG S0];have z1:(Question.appendCap (W+n) E S).forced=ab:=rfl;obtain⟨_,_,_,v0⟩:=NB (P:=P) R.drew f0;have X:(Builtin.firstCells B n<|aQ ι x).run P w.drew=.ok (bb ι C).toArray w.drew:=by grind
  have f:=V w.drew aM;rw[u0]at f;simp only[cQ,run_choose,z1,fR,ff,ay,j1,World.drew_eq,Ib F w.drew l0,run_askRoom,f,j',dj,X,x6 F (ι:=ι) w.drew u1,x5,az];simp[]
 have Q:∀(r:aI) (d:St) (w0:World) (c k:Nat) (b0:aD),bz D r d w0->b5 r (·<d.n) b0->k<=c->aA b0=k*B->
  bz D (fc r d.n ⟨w0.heap.size,0,c,B⟩) (d.push<|.cells b0 S aa B) (w0.alloc<|.cells ((bb r b0).toArray++Builtin.zeroCells (aQ ι z).cells (c-k)) S)/\
  cj r d w0 (fc r d.n ⟨w0.heap.size,0,c,B⟩) (d.push<|.cells b0 S aa B) (w0.alloc<|.cells ((bb r b0).toArray++Builtin.zeroCells (aQ ι z).cells (c-k)) S):=by
  intro r d w0 c k b0 R0 x0 A1 p0;refine ahn R0 e x0 A1 p0 ?_;rw[atf,wW];simp[Q0]
 split at h
 ·
  rename_i L0;split at h;rename_i c0;simp at h;obtain⟨rfl,rfl⟩:=h;simp only at c0;subst c0;refine⟨ι,w,?_,R,cj.refl _ _ _,by simp[bB]⟩;have K0:=LZ n0;simp only[Builtin.append_,pA,List.getElem?_cons_zero,oK,cQ,fh F w O0,ay,aQ,lh F w k0,fh F w m0,az];simp only[fR,ff,u,cQ,ay];rw[b8 aW];have T0:C=[]:=sy (by simpa using l);subst T0;cases L0<;>simp[U,bb,Go.storeCells];rename_i c0;simp at h;obtain⟨rfl,rfl⟩:=h;obtain⟨c,j1,Z⟩:=M (.aN<|.slice L0 0 0) L0 0 0 [] (by simp[aQ]) aW (by simp only at c0;omega) (λw' _=>by cases L0<;>simp[Builtin.firstCells,aQ,bb,Go.loadCells,loadCellsFrom]) (by simp[b5]) aY;have h0:=Q ι σ w.drew c n C R.drew O aW l;refine⟨_,_,?_,h0.1,(cj.drew ι σ w).trans h0.2,?_⟩;rw[Z];exact auU;refine⟨aw2,by rw[eg],e,?_⟩;rw[eg];exact aul
 rename_i b o j y0 A;split at h;exact auu;rename_i o0;have I:(ax (j+n<2^30)&&A==B)=aa:=by grind
 simp only[bW,c_,nj]at I;obtain⟨t,rfl⟩:=I;simp only[bK]at h;obtain⟨b0,p0,old,V,h⟩:=h;obtain⟨q0,g,U0,N,z0⟩:=Km p0;obtain⟨V0,q⟩:=nI V;have G:=R.loadCells (P:=P) q0 z0 V;have T:∀c w',w'.heap=w.heap->(Builtin.firstCells A j<|.slice (ad<|(ι b).at o) j c).run P w'=.ok (bb ι old).toArray w':=by intro c w' a0;simp only[Builtin.firstCells];exact((R.Wt a0).loadCells (P:=P) q0 z0 V).1
 have a:∀c,aQ ι (.slice b o j y0 A)=.slice (ad<|(ι b).at o) j c->j+n<=c->
  (Builtin.append_ #[G0,H0] ty #[aQ ι (.slice b o j y0 A),aQ ι x]).run P w=
    ((Go.storeCells ((ι b).at<|o+j*A)<|bb ι C).run P w).andThen λ_ w'=>.ok (.slice (ad<|(ι b).at o) (j+n) c) w':=by
  intro c J p;have K0:=LZ n0;rw[J];simp only[Builtin.append_,pA,List.getElem?_cons_zero,oK,cQ,fh F w O0,ay,lh F w k0,fh F w m0,az];simp only[fR,ff,u,cQ,ay];rw[b8 p];simp[U,sI]
 split at h
 ·
  rename_i c;have J:aQ ι (.slice b o j (ad c) A)=.slice (ad<|(ι b).at o) j c:=by simp[aQ]
  split at h;rename_i p;simp only[bK,eo,f']at h;obtain⟨B1,W0,rfl,rfl⟩:=h;obtain⟨w',h1,h2,h3⟩:=Ie (P:=P) R W0 O;refine⟨ι,w',?_,h2,h3,?_⟩;rw[a c J p,h1];simp[aQ];have:=h3.n;simp only[bB]at f1|-;omega;rename_i p;simp at h;obtain⟨rfl,rfl⟩:=h;obtain⟨X0,r0,Z⟩:=M (.slice b o j (ad c) A) _ j c old J t aW (λw' a0=>by rw[J];exact T c w' a0) G.2 q;have h0:=Q ι σ w.drew X0 (j+n) (old++C) R.drew (rS.2 ⟨G.2,O⟩) r0 (by simp[q,l,wF]);refine⟨_,_,?_,h0.1,(cj.drew ι σ w).trans h0.2,?_⟩;rw[Z];exact auU;refine⟨aw2,by rw[eg],e,?_⟩;rw[eg];exact aul
 ·
  split at h;rename_i C1 Y0 k1 l1 A0;rw[z0]at A0;cases A0;split at h;exact auu;rename_i D1;have i0:(g==S&&U0&&N==A&&o==0)=aa:=at6;simp only[bW,nj]at i0;obtain⟨⟨⟨rfl,rfl⟩,rfl⟩,B0⟩:=i0;have C0:o %N=0:=by rw[B0];exact Nat.zero_mod _
  split at h;exact auu;rename_i m1;have s0:C.all AV.dN=aa:=at6;simp at h;obtain⟨rfl,rfl⟩:=h;obtain⟨G1,E1,_,n1⟩:=f1;have J:aQ ι (.slice b o j ae N)=.slice (ad<|(ι b).at o) j ((ι b).ls-o/N):=by simp[aQ,E1]
  have D0:(σ.a7 b).fG=aa:=by rw[z0];rfl
  by_cases p:j+n<=(ι b).ls-o/N
  ·
   have o1:=R.eS b q0;rw[z0]at o1;obtain⟨r1,r2,E0,H1,r3,r4,r5⟩:=o1;obtain⟨rfl,r6,r7⟩:=r5 aM;have Z0:o/N*N=o:=Nat.div_mul_cancel<|Nat.dvd_of_mod_eq_zero C0;have g0:o+(j+n)*N<=(ι b).ls*N:=by have:(o/N+(j+n))*N<=(ι b).ls*N:=uY _ aW;exact at6
   have t0:(ι b).shift+(o+j*N)+0+aA (bb ι C)<=E0.size:=by
    rw[sN,l]
    grind
   obtain⟨w',j0,s1,s2,s3,s4,s5⟩:=YD P (ι b).block ((ι b).shift+(o+j*N)) g (bb ι C) 0 E0 w r3 t0 (λv Y=>by
    rw[mK,fv]at Y;obtain⟨y,F1,rfl⟩:=Y
    exact Ky<|kt.1 s0 y F1)
   have d0:((ι b).ls-o/N)*N=(ι b).ls*N-o:=by rw[Nat.sub_mul,Z0]
   have p1:=R.amV (o:=.cells (old++C) g aa N) (L:=⟨(ι b).block,(ι b).shift+o,(ι b).ls-o/N,N⟩) q0 D0 aM s2
    ⟨ju ta _<|rS.2 ⟨G.2,O⟩,aM,j0,(0,0),s3,λi v Y=>by
     have a1:=rT (rS.2 ⟨G.2,O⟩) Y;rw[nY (λx K0=>(ta x K0).2) v a1,s5,sN,l];show(if _<=(ι b).shift+o+i/\ (ι b).shift+o+i<_ then _ else _)=_;by_cases l0:i<aA old;rw[Fu l0]at Y;rw[cG<|by rw[q]at l0;omega];have:b0[o+i]?=ad v:=by rw[V0,Co]at Y;split at Y;simpa using Y;simp at Y
     have:=r4 _ _ this;rw[<-this];congr 1;show(ι b).shift+o+i=_;omega;have b1:i<aA (old++C):=(lQ.1 Y).1;rw[Jj aW]at Y;rw[cN,q,l]at b1;rw[q]at Y l0;rw[b8 aW];have:(ι b).shift+o+i-((ι b).shift+(o+j*N)+0)=i-j*N:=aW
     rw[this,rJ,Y];rfl,λ_=>⟨aM,by
     show(ι b).shift+o+((ι b).ls-o/N)*N<=j0.size
     rw[d0,s4];omega,by show(ι b).shift+o=0;rw[B0];exact r7⟩⟩
   refine⟨_,w',?_,p1.1,p1.2,?_⟩;rw[a _ J p];have:(Go.storeCells ((ι b).at<|o+j*N)<|bb ι C).run P w=.ok () w':=s1;rw[this];exact auU;refine⟨by simp[St.push,St.set],by rw[eg],e,?_⟩;rw[eg];exact aul
  ·
   obtain⟨X0,r0,Z⟩:=M (.slice b o j ae N) _ j _ old J t aW (λw' a0=>by rw[J];exact T _ w' a0) G.2 q;have h0:=Q ι (σ.set b .c5) w.drew X0 (j+n) (old++C) (R.drew.agG q0) (rS.2 ⟨G.2,O⟩) r0 (by simp[q,l,wF]);have c1:cj ι σ w ι (σ.set b .c5) w.drew:=by refine⟨aM,⟨aM,.inr<|wH _⟩,aM,bu _,bu _,λ_ _=>rfl,λ_ _ _=>rfl,λd1 F0 e0=>?_⟩;change d1<σ.n at F0;by_cases q1:b=d1;subst q1;rw[pS R.len q0]at e0;exact(e0 aM).elim;rw[kZ q0 q1]at e0|-;exact .inr ⟨d1,F0,e0,id,aM⟩
   refine⟨_,_,?_,h0.1,c1.trans h0.2,?_⟩;rw[Z];simp[aQ,eg,bf.at,St.set];refine⟨by simp[St.push,St.set],by simp[St.set,eg],e,?_⟩;simp[St.set,eg];omega
  exact at5
 exact at5
omit [Lo]in
omit F in
theorem agJ(w:World)(cells:Array Value)(W:TypeId):
 (w.alloc<|.cells cells W).freeze ⟨w.heap.size,cells.size,ae⟩ 1=w.alloc (.cells cells W (cells.size,cells.size+1)):=by
 simp only[World.freeze,World.alloc,Nat.one_ne_zero,ff];congr 1
 grind
theorem anU(R:bz D ι σ w){s d:Nat}{x v:AV}{σ':St}(h:EO D σ s d x=.ok (v,σ')):
 ∃ι' w',(Go.convert s d<|aQ ι x).run P w=.ok (aQ ι' v) w'/\ bz D ι' σ' w'/\ cj ι σ w ι' σ' w'/\ bB ι' (·<σ'.n) v:=by
 simp only[EO,bK]at h;obtain⟨a,m,C,G,h⟩:=h;split at h;rename_i V l;simp only[bK]at h;obtain⟨X,z,h⟩:=h;split at h;simp only[eo,f']at h;obtain⟨rfl,rfl⟩:=h;obtain⟨c,r⟩:∃c,(Question.appendCap (aA l) 0 V).cut (w.tape w.drawn<|.appendCap (aA l) 0 V)=c:=⟨_,aM⟩;have Q:aA l<=c:=by rw[<-r];simp[Question.cut]
 obtain⟨cells,A⟩:∃cells:Array Value,cells=(bb ι<|l.map λc=>bY .u8 c.toNat).toArray++Array.replicate (c-aA l) (.int .u8 0):=⟨_,aM⟩;have O:(w.drew.alloc<|.cells cells V).shape? w.heap.size=ad (V,cells.size):=by simp[World.shape?,World.alloc,World.drew,-World.alloc_eq,-World.drew_eq]
 have W:(Go.convert s d<|aQ ι<|.aN<|.string ⟨⟨l⟩⟩).run P w=
  .ok (.slice (ad ⟨w.heap.size,0,ae⟩) (aA l) c) (w.drew.alloc<|.cells cells V (cells.size,cells.size+1)):=by
  have g:(Array.map (λb=>Value.int .u8 b.toNat) (⟨l⟩:Array UInt8):Array Value)=(bb ι<|l.map λc=>bY .u8 c.toNat).toArray:=by apply oH;simp[Kx]
  have u:(Question.appendCap (aA l) 0 V).forced=ab:=rfl;have q:(⟨⟨l⟩⟩:ByteArray).size=aA l:=rfl;simp only[Go.convert,cQ,fh F w m,fh F w G,fh F w z,ay,aQ,Conv.stringToBytes,q,run_choose,u,fR,ff,r,World.drew_eq,x5,g,<-A];have j:(markStringish ⟨w.heap.size,0,ae⟩).run P (w.drew.alloc<|.cells cells V)=.ok () (w.drew.alloc<|.cells cells V (cells.size,cells.size+1)):=by have:=agJ w.drew cells V;rw[<-this];simp[markStringish,O,-World.alloc_eq,-World.drew_eq,Result.andThen]
  exact at6
 have p:=R.drew.push (o:=.cells (l.map λc=>bY .u8 c.toNat) V ab 1) (ob:=.cells cells V (cells.size,cells.size+1)) (L:=⟨w.heap.size,0,c,1⟩) aM
  ⟨jF.2 λv Y=>by
   simp only[fv]at Y;obtain⟨c,_,rfl⟩:=Y;simp[bY,bB],rfl,cells,(cells.size,cells.size+1),vA w.drew _,λi v Y=>by
   have y:=(lQ.1 Y).1;rw[hY]at Y;simp only[A,bZ];rw[Array.getElem?_append_left<|by simpa[sN]using y];simp only[Kx,pA,hY]
   cases M:l[i]? with
   |none=>rw[M]at Y;simp at Y
   |some b=>rw[M]at Y;simp at Y;subst Y;simp[bY,aQ],λh=>by cases h⟩
 refine⟨_,_,W.trans ?_,p.1,(cj.drew ι σ w).trans p.2,?_⟩;exact auU;refine⟨aw2,by rw[eg],aW,?_⟩;rw[eg];exact aul;exact at5;exact at5
end
end
section
variable[Lo]
section
variable{D:a_}{P:Program}(F:fu D P){ι:Nat->bf}{σ:St}{w:World}
include F
theorem ant(R:bz D ι σ w){T:Nat}{d x v:AV}{σ':St}{W:Array TypeId}{ty:TypeId}(h:C6 D σ T d x=.ok (v,σ'))(m:W[0]?=ad T):
 ∃w',(Builtin.copy_ W ty #[aQ ι d,aQ ι x]).run P w=.ok (aQ ι v) w'/\ bz D ι σ' w'/\ cj ι σ w ι σ' w'/\ bB ι (·<σ'.n) v:=by
 simp only[C6,bK]at h;obtain⟨S,y,r,q,h⟩:=h;have t:=EI y;split at h;rename_i b o l I A;simp only[bK,eo,f']at h;obtain⟨⟨C,n⟩,Y,G,k,rfl,rfl⟩:=h;obtain⟨g,O,U,i⟩:=NB (P:=P) R Y;obtain⟨w',V,a,X⟩:=Ie (P:=P) R k<|GZ O _;obtain⟨c,Q⟩:=vi ι b o l I A;refine⟨w',?_,a,X,by simp[js,bB]⟩;have j:=i (min n l)<|Nat.min_le_left _ _;simp only[Builtin.copy_,m,pA,List.getElem?_cons_zero,oK,cQ,fh F w t,ay,Q,g,lh F w q];have z:Nat.min n l=min n l:=rfl;rw[z,j];simp only[ay,V,az];simp[js,aQ,goInt];exact at5
theorem anq(R:bz D ι σ w){t:Nat}{x v:AV}{σ':St}{l:Array TypeId}{ty:TypeId}(h:Ko D σ t x=.ok (v,σ'))(m:l[0]?=ad t):
 ∃w',(Builtin.clear_ l ty #[aQ ι x]).run P w=.ok (aQ ι v) w'/\ bz D ι σ' w'/\ cj ι σ w ι σ' w'/\ bB ι (·<σ'.n) v:=by
 simp only[Ko,bK]at h;obtain⟨W,g,h⟩:=h;have C:=EI g;split at h;simp at h;obtain⟨rfl,rfl⟩:=h;refine⟨w,?_,R,cj.refl _ _ _,ud _ _⟩;simp[Builtin.clear_,m,fh F w C,aQ,AV.undef,bb];rename_i b o n I A;simp only[bK,eo,f']at h;obtain⟨z,M,G,k,rfl,rfl⟩:=h;obtain⟨c,Q⟩:=vi ι b o n I A;have Y:Builtin.zeroCells (aQ ι z).cells n=(bb ι<|lI z.cells n).toArray:=by have:=XC ι z.cells n;rw[<-this];simp[Builtin.zeroCells,wW]
 obtain⟨w',V,a,d⟩:=Ie (P:=P) R k<|Uj (yZ<|Fe M _) n;refine⟨w',?_,a,d,ud _ _⟩;simp only[Builtin.clear_,m,pA,List.getElem?_cons_zero,cQ,fh F w C,ay,Q]
 cases n with
 |zero=>simp only[lI,bb,Go.storeCells]at V;simp at V;subst V;simp[AV.undef,aQ,bb]
 |succ n=>simp only[cQ,x6 F (ι:=ι) w M,ay,Y,V,az];simp[AV.undef,aQ,bb]
 exact at5
def AI(ι:Nat->bf):jj->Option Next
 |.value v=>ad<|.value<|aQ ι v
 |.skip=>ad .skip
 |.enter f args=>ad<|.enter f (bb ι args).toArray
 |.defer d=>ad<|.defer<|el ι d
 |.round _ _|.panic _=>ae
def LP(ι:Nat->bf)(A:Nat->Prop):jj->Prop
 |.value v=>bB ι A v
 |.skip=>True
 |.enter _ args=>b5 ι A args
 |.round l args=>A l/\ b5 ι A args
 |.defer d=>yX ι A d
 |.panic v=>bB ι A v
def Cg(P:Program)(ι:Nat->bf)(h:jj)(s:Sem Next)(w w':World):Prop:=
 match h with
 |.round l args=>s.run P w=(Instr.yield (ι l).block (bb ι args).toArray).run P w/\ w'=w
 |.panic v=>s.run P w=.halt (.panic<|aQ ι v) w'
 |h=>∃x,AI ι h=ad x/\ s.run P w=.ok x w'
omit [Lo]in
omit F in
theorem ads(F:fu D P)(w:World){f:FuncId}{args:aD}{e:jj}(h:sM D f args=.ok e):
 e=.enter f args/\ (callFunc f (bb ι args).toArray).run P w=.ok (.enter f (bb ι args).toArray) w:=by
 unfold sM at h;split at h;rename_i i n;split at h;exact auu;rename_i m;split at h;rename_i C;simp at h;subst h;refine⟨aM,?_⟩;have X:i.body.isNone=ab:=by cases x:i.body<;>simp_all
 simp only[callFunc,cQ,run_program,ay,F.func _ _ n];rw[cG<|by simpa using m,cG<|by simp[X]];simp;exact at5;exact at5
theorem UD(w:World){fn:Fn}{U args:aD}{e:jj}{A:aE}(h:vG D fn U args=.ok e)(c:b5 ι A U)(b:b5 ι A args):
 ∃f I,e=.enter f I/\ b5 ι A I/\ (invoke (.fn fn (bb ι U).toArray) (bb ι args).toArray).run P w=.ok (.enter f (bb ι I).toArray) w:=by
 unfold vG at h;split at h;rename_i f;obtain⟨rfl,d⟩:=ads F (ι:=ι) w h;refine⟨f,args++U,aM,rS.2 ⟨b,c⟩,?_⟩;simp only[invoke];exact at6;exact at5
theorem Q6(w:World){f:AV}{args:aD}{e:jj}{A:aE}{_type:TypeId}(h:pL D f args=.ok e)(j:bB ι A f)(b:b5 ι A args):
 LP ι A e/\ Cg P ι e (do let d<-Deferred.ofValue (aQ ι f) (bb ι args).toArray;invoke d.target d.args) w w/\ ((∃g I,e=.enter g I)\/ ∃l I,e=.round l I):=by
 unfold pL at h;split at h;rename_i l;simp at h;subst h;refine⟨⟨by simpa[bB]using j,b⟩,⟨?_,aM⟩,.inr ⟨_,_,aM⟩⟩;simp[aQ,Deferred.ofValue,invoke]
 rename_i i first U
 obtain⟨g,I,rfl,V,a⟩:=UD F (ι:=ι) (A:=A) w h j.2<|rS.2 ⟨j.1,b⟩;refine⟨V,⟨_,aM,?_⟩,.inl ⟨_,_,aM⟩⟩;simp only[aQ,Deferred.ofValue,cQ,az,ay];exact at6;exact at5
omit [Lo]in
omit F in
theorem Cg.value{ι:aI}{v:AV}{s:Sem Next}{w w':World}(h:s.run P w=.ok (.value<|aQ ι v) w'):Cg P ι (.value v) s w w':=⟨_,aM,h⟩
theorem abH(R:bz D ι σ w){e:Operand->AV}{o:Oper}{E:jj}{σ':St}(h:mG D σ e o.op=.ok (E,σ'))(z:∀x,x∈o.op.operands->bB ι (·<σ.n) (e x)):
 ∃ι' w',Cg P ι' E (Go.execOp (λx=>aQ ι<|e x) o) w w'/\ bz D ι' σ' w'/\ cj ι σ w ι' σ' w'/\ LP ι' (·<σ'.n) E:=by
 unfold Go.execOp;generalize o.op=J at h z;unfold mG at h;split at h;rename_i t a x;simp only[bK,eo,f']at h;obtain⟨G,h,rfl,rfl⟩:=h;obtain⟨w',V,p,X⟩:=anR F R h<|z x auD;exact awr;rename_i t m k x;simp only[bK,eo,f']at h;obtain⟨G,h,rfl,rfl⟩:=h;obtain⟨w',V,p,X⟩:=anJ F R h (z k auD)<|z x auD;exact awr;rename_i t x;simp only[bK,eo,f']at h;obtain⟨⟨v,G⟩,h,rfl,rfl⟩:=h;obtain⟨ι',w',V,p,X,j⟩:=anM F R h;exact awW;rename_i O W;simp only[bK,eo,f']at h;obtain⟨⟨v,G⟩,h,rfl,rfl⟩:=h;obtain⟨w',V,p,X,j⟩:=anK (P:=P) (ty:=o.type) R h;exact⟨ι,w',⟨_,aM,by simp[V]⟩,p,X,j⟩;rename_i O;simp only[bK,eo,f']at h;obtain⟨v,h,rfl,rfl⟩:=h;obtain⟨V,p⟩:=anw (P:=P) R h;exact⟨ι,w,⟨_,aM,by simp[V]⟩,R,cj.refl _ _ _,p⟩;rename_i s d x;simp only[bK,eo,f']at h;obtain⟨⟨v,G⟩,h,rfl,rfl⟩:=h;obtain⟨ι',w',V,p,X,j⟩:=anU F R h;exact awW;rename_i c;obtain⟨U,args,n⟩:=c;simp only at h;split at h;rename_i b;split at h;rename_i t u s x i N;have Y:n=#[t,u]:=by apply oH;simpa using i
 have M:args=#[s,x]:=avQ;subst M;simp only[bK,eo,f']at h;obtain⟨⟨v,G⟩,h,rfl,rfl⟩:=h;obtain⟨ι',w',V,p,X,j⟩:=ank F R (ty:=o.type) h Y<|z s au2;exact⟨ι',w',⟨_,aM,by simp[resolve,invoke,Go.builtin,V]⟩,p,X,j⟩;rename_i t l d s i N;have Y:n[0]?=ad t:=by rw[<-wx,i];rfl
 have M:args=#[d,s]:=avQ;subst M;simp only[bK,eo,f']at h;obtain⟨⟨v,G⟩,h,rfl,rfl⟩:=h;obtain⟨w',V,p,X,j⟩:=ant F R (ty:=o.type) h Y;exact avD;rename_i t l x i N;have Y:n[0]?=ad t:=by rw[<-wx,i];rfl
 have M:args=#[x]:=avQ;subst M;simp only[bK,eo,f']at h;obtain⟨⟨v,G⟩,h,rfl,rfl⟩:=h;obtain⟨w',V,p,X,j⟩:=anq F R (ty:=o.type) h Y;exact avD;exact at5;rename_i f;simp only[bK,eo,f']at h;obtain⟨T,h,rfl,rfl⟩:=h;obtain⟨V,p,_⟩:=Q6 F (ι:=ι) (A:=(·<σ.n)) (_type:=o.type) w h (z f au2)<|jF.2 λv y=>ave;refine⟨ι,w,?_,R,cj.refl _ _ _,V⟩;simp only[resolve,J_];exact p;exact at5;rename_i c;obtain⟨U,args,n⟩:=c;simp only at h;split at h;rename_i f;have I:=z f au2;split at h
 rename_i B first L r
 rw[r]at I;simp at h;obtain⟨rfl,rfl⟩:=h;refine⟨ι,w,⟨_,aM,?_⟩,R,cj.refl _ _ _,⟨I.2,rS.2 ⟨I.1,jF.2 λv y=>?_⟩⟩⟩;simp only[resolve,J_,r,aQ,Deferred.ofValue,cQ,az,ay,el];simp;exact ave;exact at5;exact at5;exact at5
end
end
def h7(T:Array Value):Operand->Value
 |.tmp t=>T.getD t undef
 |.const v=>v
 |.global g=>.pointer<|ad ⟨g,0,ae⟩
 |.func f=>.func (.func f) #[] #[]
def on(b:Frame)(T:Array Value)(ds:List Deferred)(todo:List Item):Frame:={b with tmps:=T,defers:=ds,todo:=todo,mode:=.run}
def HI(b:Frame)(T:Array Value)(ds:List Deferred)(todo:List Item):(on b T ds todo).eval=h7 T:=by funext x;cases x<;>rfl
def dX(T:Array Value)(Z:Option Tmp)(v:Value):Array Value:=
 match Z with
 |ad d=>T.setIfInBounds d v
 |ae=>T
def El(b:Frame)(T:Array Value)(ds:List Deferred)(ops:aG)(i:Nat)(rest:aK)(k:List Item)(o:Oper)(B:ops[i]?=ad o)(v:Value):
 (on b T ds<|.inRegion ops (i::rest)::k).finish v=on b (dX T o.dst v) ds (.inRegion ops rest::k):=by
 cases t:o.dst<;>simp[Frame.finish,on,dX,B,t]
section steps
variable{P:Program}{b:Frame}{T:Array Value}{ds:List Deferred}{k:List Item}{cs:List Frame}{w w':World}{ops:Array Oper}{i:Nat}{rest:List Nat}{o:Oper}
def sS(fr:Frame)(cs:List Frame):Goroutine:={frame:=fr,callers:=cs,status:=.running,dying:=ae}
def B_(B:ops[i]?=ad o)(s:Region.wanted o (yielded ops T)=aa)(t:b.roundOf=ae\/ ∀c,o.op≠.defer c):
 stepG P aa (sS (on b T ds<|.inRegion ops (i::rest)::k) cs) w=
  stepG.apply P aa (on b T ds<|.inRegion ops (i::rest)::k) cs ae (Go.execOp (h7 T) o) w:=by
 have e:=HI b T ds<|.inRegion ops (i::rest)::k;simp only[sS,stepG,on,stepG.exec];simp only[B,sE,s,FC,dj];simp only[on]at e;simp only[stepG.oper,Frame.oper?,B,e]
 grind
def zJ{fr fr':Frame}{C:List Frame}(h:(stepG P aa (sS fr cs) w).bare=.go (sS fr' C) w'):step P (lone fr cs w)=.next (lone fr' C w'):=step_lone_go h
def Ix{v:Value}(B:ops[i]?=ad o)(s:Region.wanted o (yielded ops T)=aa)(t:b.roundOf=ae\/ ∀c,o.op≠.defer c)
 (r:(Go.execOp (h7 T) o).run P w=.ok (.value v) w'):
 step P (lone (on b T ds<|.inRegion ops (i::rest)::k) cs w)=.next (lone (on b (dX T o.dst v) ds<|.inRegion ops rest::k) cs w'):=by
 refine zJ ?_;rw[B_ B s t,<-El b T ds ops i rest k o B v];simp[stepG.apply,r,sS]
def aps(B:ops[i]?=ad o)(s:Region.wanted o (yielded ops T)=aa)(t:b.roundOf=ae\/ ∀c,o.op≠.defer c)
 (r:(Go.execOp (h7 T) o).run P w=.ok .skip w'):
 step P (lone (on b T ds<|.inRegion ops (i::rest)::k) cs w)=.next (lone (on b (dX T o.dst undef) ds<|.inRegion ops rest::k) cs w'):=by
 refine zJ ?_;rw[B_ B s t,<-El b T ds ops i rest k o B undef];simp[stepG.apply,r,sS]
def aoY{d:Deferred}(B:ops[i]?=ad o)(s:Region.wanted o (yielded ops T)=aa)(t:b.roundOf=ae)
 (r:(Go.execOp (h7 T) o).run P w=.ok (.defer d) w'):
 step P (lone (on b T ds<|.inRegion ops (i::rest)::k) cs w)=.next (lone (on b (dX T o.dst undef) (d::ds)<|.inRegion ops rest::k) cs w'):=by
 refine zJ ?_;rw[B_ B s<|.inl t,<-El b T (d::ds) ops i rest k o B undef];simp[stepG.apply,r,sS,on]
def ao1{f:FuncId}{args:Array Value}(B:ops[i]?=ad o)(s:Region.wanted o (yielded ops T)=aa)(t:b.roundOf=ae\/ ∀c,o.op≠.defer c)
 (r:(Go.execOp (h7 T) o).run P w=.ok (.enter f args) w'):
 step P (lone (on b T ds<|.inRegion ops (i::rest)::k) cs w)=.next (lone (Frame.enter P f args .normal) (on b T ds (.inRegion ops (i::rest)::k)::cs) w'):=by
 refine zJ ?_;rw[B_ B s t];simp[stepG.apply,r,sS,on]
def apl{l:Nat}{f:FuncId}{p:Array Value}{D G:Code}(B:ops[i]?=ad o)(s:Region.wanted o (yielded ops T)=aa)(t:b.roundOf=ae\/ ∀c,o.op≠.defer c)
 (r:(Go.execOp (h7 T) o).run P w=.ok (.round l f p D G) w'):
 step P (lone (on b T ds<|.inRegion ops (i::rest)::k) cs w)=.next (lone (Frame.round l f p D G .normal) (on b T ds (.inRegion ops (i::rest)::k)::cs) w'):=by
 refine zJ ?_;rw[B_ B s t];simp[stepG.apply,r,sS]
def aph{v:Value}(B:ops[i]?=ad o)(s:Region.wanted o (yielded ops T)=aa)(t:b.roundOf=ae\/ ∀c,o.op≠.defer c)
 (r:(Go.execOp (h7 T) o).run P w=.halt (.panic v) w'):
 step P (lone (on b T ds<|.inRegion ops (i::rest)::k) cs w)=.next (lone {on b T ds (.inRegion ops (i::rest)::k)with mode:=.panicking [{v,recovered:=ab}]} cs w'):=by
 refine zJ ?_;rw[B_ B s t];simp[stepG.apply,r,sS,on,Frame.raise]
def NO(h:((ops[i]?).map (Region.wanted ·<|yielded ops T)).getD ab=ab)(B:ops[i]?=ad o):
 step P (lone (on b T ds<|.inRegion ops (i::rest)::k) cs w)=.next (lone (on b (dX T o.dst undef) ds<|.inRegion ops rest::k) cs w):=by
 refine zJ ?_;rw[<-El b T ds ops i rest k o B undef];have Y:=h;simp only[on]at*;simp[sS,stepG,stepG.exec,Y]
end steps
section
variable[Lo]
inductive gV where
 |tj (cs:List Frame)
 |C9 (c:Frame) (rest:List Frame)
def zt(ι:Nat->bf):bM->FrameMode
 |ae=>.returning
 |ad (v,r)=>.panicking [{v:=aQ ι v,recovered:=r}]
def gV.cs(X:gV)(ι:Nat->bf)(b:bM):List Frame:=
 match X with
 |.tj cs=>cs
 |.C9 c rest=>{c with mode:=zt ι b}::rest
def gV.kind:gV->CallKind
 |.tj _=>.normal
 |.C9 _ _=>.deferred
def gV.A6(X:gV)(c:bM):Prop:=
 match X with
 |.tj _=>c=ae
 |.C9 _ _=>True
def uc(ι:Nat->bf)(A:Nat->Prop):bM->Prop
 |ae=>True
 |ad (v,_)=>bB ι A v
omit [Lo]in
def vC{ι ι':aI}{A B:aE}(h:∀b,A b->B b/\ ι' b=ι b)(p:bM)(M:uc ι A p):uc ι' B p:=by
 cases p with
 |none=>trivial
 |some p=>exact sY h _ M
omit [Lo]in
def gV.er{X:gV}{ι ι':aI}{A:aE}(h:∀b,A b->ι' b=ι b){p:bM}(M:uc ι A p):X.cs ι' p=X.cs ι p:=by
 cases X with
 |tj cs=>rfl
 |C9 c e=>
  cases p with
  |none=>rfl
  |some p=>simp[gV.cs,zt,nY h _ M]
def sX(ι:Nat->bf)(A:Nat->Prop)(ds:List bT):Prop:=∀d,d∈ds->yX ι A d
omit [Lo]in
def ub{ι ι':aI}{A B:aE}(h:∀b,A b->B b/\ ι' b=ι b){ds:aJ}(t:sX ι A ds):sX ι' B ds:=λd m=>LL h d<|t d m
omit [Lo]in
def vh{ι ι':aI}{A:aE}(h:∀b,A b->ι' b=ι b){ds:aJ}(t:sX ι A ds):ds.map (el ι')=ds.map (el ι):=sB λd m=>Rv h d<|t d m
def oR(ι:Nat->bf):cY->Ending
 |.ret v=>.returned<|aQ ι v
 |.panic v=>.panicked [{v:=aQ ι v,recovered:=ab}]
def yY(ι:Nat->bf)(A:Nat->Prop):cY->Prop
 |.ret v=>bB ι A v
 |.panic v=>bB ι A v
def after(c:Frame):Ending->Frame
 |.returned v=>c.finish v
 |.panicked chain=>c.raise chain
 |.outgrown=>c
def zT(D:a_)(P:Program)(g:iZ):Prop:=
 ∀f args σ e σ',g f args σ=.ok (e,σ')->∀ι w,bz D ι σ w->b5 ι (·<σ.n) args->
  Calls P f (bb ι args).toArray w λen w'=>∃ι',en=oR ι' e/\ bz D ι' σ' w'/\ cj ι σ w ι' σ' w'/\ yY ι' (·<σ'.n) e
def Af(D:a_)(P:Program)(round:i6):Prop:=
 ∀l args σ e σ',round l args σ=.ok (e,σ')->∀ι w,bz D ι σ w->b5 ι (·<σ.n) args->l<σ.n->
  ∃fn p V G,(Instr.yield (ι l).block (bb ι args).toArray).run P w=.ok (.round (ι l).block fn p V G) w/\
   ∀(c:Frame) (cs:List Frame),∃ι' w',Steps P (lone (Frame.round (ι l).block fn p V G .normal) (c::cs) w) (lone (after c<|oR ι' e) cs w')/\
    bz D ι' σ' w'/\ cj ι σ w ι' σ' w'/\ yY ι' (·<σ'.n) e
section
variable{D:a_}{P:Program}{ι:Nat->bf}{σ:St}{w:World}
omit [Lo]in
def LB(ι:aI)(T:aD)(t:Nat):(bb ι T).toArray.getD t undef=aQ ι (T.getD t .undef):=by simp only[OG,pA,rJ,pz];cases T[t]?<;>simp
omit [Lo]in
def KY(R:bz D ι σ w)(T:aD)(x:Operand):h7 (bb ι T).toArray x=aQ ι (dV D T x):=by
 cases x with
 |tmp t=>simp only[h7,dV];exact LB ι T t
 |const v=>simp[h7,dV]
 |global g=>simp only[h7,dV];split;rename_i o;have:=R.jW g o;simp[aQ,bf.at,this.1,this.2];simp[aQ]
 |func f=>simp[h7,dV,aQ,bb]
def afx(R:bz D ι σ w)(T:aD):h7 (bb ι T).toArray=λx=>aQ ι (dV D T x):=by funext x;exact KY R T x
omit [Lo]in
def KZ(_:bz D ι σ w){A:aE}(X:∀g,g<D.gx->A g){T:aD}(S:b5 ι A T)(x:Operand):bB ι A (dV D T x):=by
 cases x with
 |tmp t=>
  simp only[dV,pz]
  cases h:T[t]? with
  |none=>simpa using ud ι A
  |some v=>simpa using rT S h
 |const v=>exact LQ ι A v
 |global g=>simp only[dV];split;rename_i o;exact X g o;trivial
 |func f=>simp[dV,bB,b5]
omit [Lo]in
def Xr(ι:aI)(T:aD)(Z:Option Tmp)(v:AV):dX (bb ι T).toArray Z (aQ ι v)=(bb ι<|cu T Z v).toArray:=by
 cases Z with
 |none=>rfl
 |some d=>simp only[dX,cu];apply oH;simp[mK,sC]
omit [Lo]in
def bz.GQ(R:bz D ι σ w):∀g,g<D.gx->g<σ.n:=λ_ o=>dc o R.ja
def alZ{ι':aI}{σ':St}{w':World}(E:cj ι σ w ι' σ' w'){T:aD}(S:b5 ι (·<σ.n) T){Z:Option Tmp}{v:AV}:
 dX (bb ι T).toArray Z (aQ ι' v)=(bb ι'<|cu T Z v).toArray:=by
 rw[<-lx E.er T S,Xr]
omit [Lo]in
def Xt{A:aE}{T:aD}{v:AV}(S:b5 ι A T)(Y:bB ι A v)(Z:Option Tmp):b5 ι A (cu T Z v):=by
 cases Z with
 |none=>exact S
 |some d=>exact Uk S Y d
omit [Lo]in
def abj(ι:aI)(ops:aG)(T:aD)(j:Nat):yielded ops (bb ι T).toArray j=zO ops T j:=by
 unfold yielded zO
 cases h:(ops[j]?).bind (·.dst)with
 |none=>simp
 |some t=>
  simp only[Cw,pA,rJ]
  cases Y:T[t]? with
  |none=>simp
  |some v=>
   simp only[sE]
   cases v with
   |aN v=>simp only[aQ];cases v<;>rfl
   |slice b o L I r=>cases I<;>simp[aQ]
   |ik b o l r=>have⟨a,c,Q⟩:=AJ ι b o l r;rw[Q]
   |_=>simp[aQ]
omit [Lo]in
def abg(ι:aI)(ops:aG)(T:aD)(o:Oper):Region.wanted o (yielded ops (bb ι T).toArray)=ji ops o T:=by
 have:yielded ops (bb ι T).toArray=zO ops T:=funext λj=>abj ι ops T j;rw[this];unfold Region.wanted ji
 grind
def afB(F:fu D P)(R:bz D ι σ w){e:Operand->AV}{o:Oper}{m:jj}{σ':St}(h:execOp D e σ o.op=.ok (m,σ'))
 (z:∀x,x∈o.op.operands->bB ι (·<σ.n) (e x)):
 ∃ι' w',Cg P ι' m (Go.execOp (λx=>aQ ι<|e x) o) w w'/\ bz D ι' σ' w'/\ cj ι σ w ι' σ' w'/\ LP ι' (·<σ'.n) m:=by
 unfold execOp at h;split at h;simp only[bK,eo,f']at h;obtain⟨v,h,rfl,rfl⟩:=h;obtain⟨V,a⟩:=Xm F w h z;exact aw3;simp only[bK,eo,f']at h;obtain⟨v,h,rfl,rfl⟩:=h;obtain⟨V,a⟩:=XI F R h;exact aw3;simp only[bK,eo,f']at h;obtain⟨⟨v,U⟩,h,rfl,rfl⟩:=h;obtain⟨y,L,V,a,d,A⟩:=(PX F w aY h z).dO;have f:∀b,(b<σ.n\/ b=σ.n)->b<σ.n+1/\ fc ι σ.n L b=fc ι σ.n L b:=λb X=>⟨aW,rfl⟩;have p:=R.push a<|d.mono f;exact⟨_,_,⟨_,aM,V⟩,p.1,p.2,sY f _ A⟩;exact abH F R h z
end
end
section
variable[Lo]
section
variable{D:a_}{P:Program}
omit [Lo]in
def PM{b:Frame}{M:Array Value}{ds:List Deferred}{ops:aG}{i:Nat}{rest:aK}{k:List Item}{o:Oper}(B:ops[i]?=ad o)(ι:aI)(e:cY):
 after (on b M ds<|.inRegion ops (i::rest)::k) (oR ι e)=
  match e with
  |.ret v=>on b (dX M o.dst<|aQ ι v) ds<|.inRegion ops rest::k
  |.panic v=>{on b M ds (.inRegion ops (i::rest)::k)with mode:=.panicking [{v:=aQ ι v,recovered:=ab}]}:=by
 cases e with
 |ret v=>simp only[after,oR];exact El b M ds ops i rest k o B _
 |panic v=>simp[after,oR,Frame.raise,on]
omit [Lo]in
def Q7{f:FuncId}{args:Array Value}{w:World}{Q:Ending->World->Prop}(h:Calls P f args w Q)(J:∀w',¬Q .outgrown w')(c:Frame)(cs:List Frame):
 ∃e w',Q e w'/\ Steps P (lone (Frame.enter P f args .normal) (c::cs) w) (lone (after c e) cs w'):=by
 have⟨e,w',F,M,S,_,l⟩:=h<|c::cs;refine⟨e,w',M,?_⟩
 cases e with
 |returned v=>exact Steps.trans S<|.one<|step_leave_returned l
 |panicked q=>exact Steps.trans S<|.one<|step_leave_panicked l
 |outgrown=>exact(J _ M).elim
omit [Lo]in
def Rw(ι:aI)(e:cY):oR ι e≠.outgrown:=by cases e<;>simp[oR]
omit [Lo]in
def akC{e:Operand->AV}{σ σ':St}{l:Op}{m:jj}(h:execOp D e σ l=.ok (m,σ'))(hn:∀d,m≠.defer d):∀c,l≠.defer c:=by
 rintro c rfl;simp only[execOp,jo,AF,mG]at h;split at h
 grind
 exact at5
section
variable{b:Frame}{T:Array Value}{ds:List Deferred}{k:List Item}{cs cs':List Frame}{w w':World}{ops:Array Oper}{i:Nat}{rest:List Nat}{o:Oper}
end
inductive JB(P:Program)(X:gV)(b:Frame)(ops:Array Oper)(i:Nat)(rest:List Nat)(k:List Item)(o:Oper)(m:Machine)(M:Array Value)(T:List AV)(ds:List bT)(bp:bM):
 nb->(Nat->bf)->St->World->Prop
 |go {ι':Nat->bf} {σ':St} {w':World} {v:AV} {ds':List bT} {pan':bM}
   (steps:Steps P m<|lone (on b (dX M o.dst<|aQ ι' v) (ds'.map<|el ι')<|.inRegion ops rest::k) (X.cs ι' pan') w')
   (hv:bB ι' (·<σ'.n) v) (hds:sX ι' (·<σ'.n) ds') (hpan:uc ι' (·<σ'.n) pan') (hfit:X.A6 pan'):
   JB P X b ops i rest k o m M T ds bp (.go (cu T o.dst v) ds' pan' σ') ι' σ' w'
 |panic {ι':Nat->bf} {σ':St} {w':World} {v:AV}
   (steps:Steps P m<|lone {on b M (ds.map<|el ι') (.inRegion ops (i::rest)::k)with mode:=.panicking [{v:=aQ ι' v,recovered:=ab}]} (X.cs ι' bp) w')
   (hv:bB ι' (·<σ'.n) v):JB P X b ops i rest k o m M T ds bp (.panic v T ds bp σ') ι' σ' w'
def Yq(F:fu D P){C:iZ}{round:i6}(k0:zT D P C)(l0:Af D P round){isRound:Bool}{X:gV}{b:Frame}(r0:b.kind=X.kind)
 (y:b.roundOf=ae↔isRound=ab){ι:aI}{σ:St}{w:World}(R:bz D ι σ w){ops:aG}{i:Nat}{rest:aK}{k:List Item}{o:Oper}
 (V:ops[i]?=ad o){M:Array Value}{T:aD}{ds:aJ}{p:bM}{r:nb}
 (j:Region.wanted o (yielded ops M)=aa)(c0:Go.execOp (h7 M) o=Go.execOp (λx=>aQ ι<|dV D T x) o)
 (d0:∀x,x∈o.op.operands->bB ι (·<σ.n) (dV D T x))
 (g:sX ι (·<σ.n) ds)(u:uc ι (·<σ.n) p)(Q:X.A6 p)
 (h:mr D C round isRound o T ds p σ=.ok r):
 ∃ι' σ' w',JB P X b ops i rest k o (lone (on b M (ds.map<|el ι)<|.inRegion ops (i::rest)::k) (X.cs ι p) w) M T ds p r ι' σ' w'/\
  bz D ι' σ' w'/\ cj ι σ w ι' σ' w':=by
 simp only[mr,bK]at h;have⟨⟨g0,G⟩,h0,h⟩:=h;have⟨I,Z,t,R1,m,L⟩:=afB F R h0 d0;rw[<-c0]at t;have N:=ub m.k g;have Y:=vC m.k p u;have s:X.cs I p=X.cs ι p:=X.er m.er u;have a:ds.map (el I)=ds.map (el ι):=vh m.er g;have O:(∀d,g0≠.defer d)->(b.roundOf=ae\/ ∀c,o.op≠.defer c):=λm0=>.inr<|akC h0 m0
 cases g0 with
 |value v=>simp at h;subst h;have⟨x,S,W⟩:=t;simp only[AI,pD]at S;subst S;refine⟨I,G,Z,.go (v:=v) ?_ L N Y Q,R1,m⟩;rw[s,a];exact .one<|Ix V j (O aY) W
 |skip=>simp at h;subst h;have⟨x,S,W⟩:=t;simp only[AI,pD]at S;subst S;refine⟨I,G,Z,.go (v:=.undef) ?_ (ud _ _) N Y Q,R1,m⟩;rw[s,a,C'];exact .one<|aps V j (O aY) W
 |defer d=>
  simp only at h;split at h;exact auu;rename_i n0;simp at h;subst h;have⟨x,S,W⟩:=t;simp only[AI,pD]at S;subst S;refine⟨I,G,Z,.go (v:=.undef) ?_ (ud _ _) ?_ Y Q,R1,m⟩;rw[s,cL,a,C'];exact .one<|aoY V j (y.2<|by simpa using n0) W;intro o0 e0
  rcases dz.1 e0 with h1|h1
  exact h1▸L;exact N o0 h1
 |panic v=>simp at h;subst h;refine⟨I,G,Z,.panic ?_ L,R1,m⟩;rw[s,a];exact .one<|aph V j (O aY) t
 |enter f args=>
  simp only[bK]at h;have⟨⟨e,U⟩,z,h⟩:=h;have⟨x,S,W⟩:=t;simp only[AI,pD]at S;subst S;obtain⟨s0,w2,⟨B,rfl,R2,E2,a0⟩,f0⟩:=Q7 (k0 _ _ _ _ _ z I Z R1 L) (λw' ⟨ι',p0,_⟩=>Rw ι' e p0.symm)
   (on b M (ds.map<|el ι)<|.inRegion ops (i::rest)::k) (X.cs ι p)
  have E:=m.trans E2;have q:=Steps.trans (.one<|ao1 (P:=P) (b:=b) (ds:=ds.map<|el ι) (k:=k) (cs:=X.cs ι p) (rest:=rest) V j (O aY) W) f0;rw[PM V]at q;have J:X.cs B p=X.cs ι p:=X.er E.er u;have A:ds.map (el B)=ds.map (el ι):=vh E.er g
  cases e with
  |ret v=>simp at h;subst h;refine⟨B,U,w2,.go (v:=v) ?_ a0 (ub E.k g) (vC E.k p u) Q,R2,E⟩;rw[J,A];exact q
  |panic v=>simp at h;subst h;refine⟨B,U,w2,.panic ?_ a0,R2,E⟩;rw[J,A];exact q
 |round l args=>
  simp only[bK]at h;have⟨⟨e,U⟩,z,h⟩:=h;obtain⟨W,rfl⟩:=t;have⟨t0,i0,b0,j0,q0,n⟩:=l0 _ _ _ _ _ z I Z R1 L.2 L.1;have⟨B,w2,f0,R2,E2,a0⟩:=n (on b M (ds.map<|el ι)<|.inRegion ops (i::rest)::k)<|X.cs ι p;have E:=m.trans E2;have q:=Steps.trans (.one<|apl (P:=P) (b:=b) (ds:=ds.map<|el ι) (k:=k) (cs:=X.cs ι p) (rest:=rest) V j (O aY)<|W.trans q0) f0;rw[PM V]at q;have J:X.cs B p=X.cs ι p:=X.er E.er u;have A:ds.map (el B)=ds.map (el ι):=vh E.er g
  cases e with
  |ret v=>simp at h;subst h;refine⟨B,U,w2,.go (v:=v) ?_ a0 (ub E.k g) (vC E.k p u) Q,R2,E⟩;rw[J,A];exact q
  |panic v=>simp at h;subst h;refine⟨B,U,w2,.panic ?_ a0,R2,E⟩;rw[J,A];exact q
end
end
section
variable[Lo]
section
variable{D:a_}{P:Program}
structure ll(ι:Nat->bf)(A:Nat->Prop)(X:gV)(T:List AV)(ds:List bT)(bp:bM):Prop where
 kY:X.A6 bp
 T:b5 ι A T
 ds:sX ι A ds
 bp:uc ι A bp
def g'(X:gV)(b:Frame)(ι:Nat->bf)(T:List AV)(ds:List bT)(c:bM)(todo:List Item)(w:World):Machine:=lone (on b (bb ι T).toArray (ds.map<|el ι) todo) (X.cs ι c) w
def DY(X:gV)(b:Frame)(ι:Nat->bf)(T:List AV)(ds:List bT)(c:bM)(todo:List Item)(v:AV)(w:World):Machine:=lone {on b (bb ι T).toArray (ds.map<|el ι) todo with mode:=.panicking [{v:=aQ ι v,recovered:=ab}]} (X.cs ι c) w
def ll.ext{X:gV}{ι ι':aI}{σ σ':St}{w w':World}{T:aD}{ds:aJ}{bp:bM}(I:ll ι (·<σ.n) X T ds bp)
 (E:cj ι σ w ι' σ' w'):ll ι' (·<σ'.n) X T ds bp:=
 ⟨I.kY,ju E.k T I.T,ub E.k I.ds,vC E.k bp I.bp⟩
inductive Ae(P:Program)(X:gV)(b:Frame)(ops:Array Oper)(k:List Item)(m:Machine):nb->(Nat->bf)->St->World->Prop
 |go {ι':Nat->bf} {σ':St} {w':World} {T:List AV} {ds:List bT} {bp:bM}
   (steps:Steps P m<|g' X b ι' T ds bp (.inRegion ops []::k) w') (bB:ll ι' (·<σ'.n) X T ds bp):
   Ae P X b ops k m (.go T ds bp σ') ι' σ' w'
 |panic {ι':Nat->bf} {σ':St} {w':World} {T:List AV} {ds:List bT} {bp:bM} {v:AV} (todo:List Item)
   (steps:Steps P m<|DY X b ι' T ds bp todo v w') (bB:ll ι' (·<σ'.n) X T ds bp) (hv:Dt.bB ι' (·<σ'.n) v):
   Ae P X b ops k m (.panic v T ds bp σ') ι' σ' w'
omit [Lo]in
def Ae.p6{X:gV}{b:Frame}{ops:aG}{k:List Item}{m J:Machine}{r:nb}{ι':aI}{σ':St}{w':World}(h:Steps P m J)
 (h':Ae P X b ops k J r ι' σ' w'):Ae P X b ops k m r ι' σ' w':=by
 cases h' with
 |go s i=>exact .go (Steps.trans h s) i
 |panic t s i v=>exact .panic t (Steps.trans h s) i v
def Yr(F:fu D P){g:iZ}{G:i6}(E:zT D P g)(s:Af D P G){isRound:Bool}{X:gV}{b:Frame}(f:b.kind=X.kind)
 (O:b.roundOf=ae↔isRound=ab){ops:aG}{k:List Item}:∀(l:aH) (i:Nat),ops.toList.drop i=l->
 ∀{ι:aI} {σ:St} {w:World} {T:aD} {ds:aJ} {c:bM} {r:nb},bz D ι σ w->ll ι (·<σ.n) X T ds c->
 lg D g G isRound ops l T ds c σ=.ok r->
 ∃ι' σ' w',Ae P X b ops k (g' X b ι T ds c (.inRegion ops (List.range' i<|aA l)::k) w) r ι' σ' w'/\ bz D ι' σ' w'/\ cj ι σ w ι' σ' w':=by
 intro l
 induction l with
 |nil=>intro i _ ι σ w T ds c r R I h;simp[lg]at h;subst h;exact⟨ι,σ,w,.go (FI _ _) I,R,cj.refl _ _ _⟩
 |cons o l C=>
  intro i t ι σ w T ds c r R I h;have y:ops[i]?=ad o:=by
   have A:ops.toList[i]?=ad o:=by
    have:(ops.toList.drop i)[0]?=ad o:=by rw[t];rfl
    grind
   simpa using A
  have p:ops.toList.drop (i+1)=l:=by rw[<-List.tail_drop,t,List.tail_cons]
  have u:List.range' i (aA<|o::l)=i::List.range' (i+1) (aA l):=by simp[Pc]
  rw[u];simp only[lg]at h;split at h;rename_i e;simp only[bK]at h;have⟨L,A,h⟩:=h;have n:Region.wanted o (yielded ops (bb ι T).toArray)=aa:=by rw[abg];exact e
  have⟨Q,W,M,m,U,S⟩:=Yq F E s f O R y n (rest:=List.range' (i+1)<|aA l) (k:=k) (by rw[afx R]) (λx _=>KZ R R.GQ I.T x) I.ds I.bp I.kY A
  cases m with
  |go N v q V a=>simp only at h;rw[alZ S I.T]at N;have j:ll Q (·<W.n) X _ _ _:=⟨a,Xt (ju S.k T I.T) v o.dst,q,V⟩;have⟨B,d,Z,Y,z,J⟩:=C (i+1) p U j h;exact⟨B,d,Z,.p6 N Y,z,S.trans J⟩
  |panic N v=>simp at h;subst h;refine⟨Q,W,M,.panic (.inRegion ops (i::List.range' (i+1) (aA l))::k) ?_ (I.ext S) v,U,S⟩;unfold g' DY;rw[lx S.er T I.T];exact N
  rename_i e;have j:ll ι (·<σ.n) X (cu T o.dst .undef) ds c:=⟨I.kY,Xt I.T (ud _ _) o.dst,I.ds,I.bp⟩;have⟨B,d,Z,Y,z,J⟩:=C (i+1) p R j h;refine⟨B,d,Z,.p6 (.one ?_) Y,z,J⟩;have:=NO (P:=P) (b:=b) (ds:=ds.map<|el ι) (k:=k) (cs:=X.cs ι c) (w:=w) (T:=(bb ι T).toArray) (ops:=ops) (i:=i) (rest:=List.range' (i+1)<|aA l) (o:=o)
   (by simp[y,abg,e]) y
  unfold g';rw[this,<-C' ι,Xr]
end
end
abbrev jC:=Nat×Nat×AO
inductive Tr(D:a_)(call:iZ)(round:i6)(isRound:Bool)(ops:Array Oper)(Te:List AV)(fo:List bT)(fq:bM)(fj:St):
 List cM->List St->List AV->List bT->bM->St->List jC->Prop
 |nil {snaps:List St}:Tr D call round isRound ops Te fo fq fj [] snaps Te fo fq fj []
 |skip {it:cM} {rest:List cM} {snaps:List St} {T:List AV} {ds:List bT} {bp:bM} {σ:St} {al:List jC} {o:Oper}
   (ho:ops[it.i]?=ad o) (hw:ji ops o T=ab)
   (next:Tr D call round isRound ops Te fo fq fj rest (if it.cB then σ::snaps else snaps) (cu T o.dst .undef) ds bp σ al):
   Tr D call round isRound ops Te fo fq fj (it::rest) snaps T ds bp σ al
 |cB {it:cM} {rest:List cM} {snaps:List St} {T:List AV} {ds:List bT} {bp:bM} {σ:St} {al:List jC} {o:Oper} {v:AV} {ds':List bT} {pan':bM} {σ':St}
   (ho:ops[it.i]?=ad o) (hw:ji ops o T=aa) (ha:it.cB=aa)
   (hb:∀x,x∈o.op.operands->de σ.n (dV D T x)=aa)
   (hr:mr D call round isRound o T ds bp σ=.ok (.go (cu T o.dst v) ds' pan' σ')) (hn:σ.n<=σ'.n)
   (next:Tr D call round isRound ops Te fo fq fj rest (σ'::snaps) (cu T o.dst v) ds' pan' σ' al):
   Tr D call round isRound ops Te fo fq fj (it::rest) snaps T ds bp σ al
 |pure {it:cM} {rest:List cM} {snaps:List St} {T:List AV} {ds:List bT} {bp:bM} {σ:St} {al:List jC} {o:Oper} {v:AV}
   (ho:ops[it.i]?=ad o) (hw:ji ops o T=aa) (ha:it.cB=ab)
   (hr:gy D (dV D T) o.op=.ok v)
   (next:Tr D call round isRound ops Te fo fq fj rest snaps (cu T o.dst v) ds bp σ al):
   Tr D call round isRound ops Te fo fq fj (it::rest) snaps T ds bp σ al
 |je {it:cM} {rest:List cM} {snaps:List St} {T:List AV} {ds:List bT} {bp:bM} {σ:St} {al:List jC} {o:Oper} {v:AV}
   (ho:ops[it.i]?=ad o) (hw:ji ops o T=aa) (ha:it.cB=ab)
   (hlo:it.lo<aA snaps) (hs:∀s,s∈snaps.take (aA snaps-it.lo)->si D T o.op v s=aa)
   (next:Tr D call round isRound ops Te fo fq fj rest snaps (cu T o.dst v) ds bp σ al):
   Tr D call round isRound ops Te fo fq fj (it::rest) snaps T ds bp σ al
 |alloc {it:cM} {rest:List cM} {snaps:List St} {T:List AV} {ds:List bT} {bp:bM} {σ:St} {al:List jC} {o:Oper} {v:AV} {ob:AO}
   (ho:ops[it.i]?=ad o) (hw:ji ops o T=aa) (ha:it.cB=ab)
   (hr:jT D (dV D T) o.op σ.n=.ok (v,ob)) (hb:dM (σ.n+1) ob=aa)
   (next:Tr D call round isRound ops Te fo fq fj rest snaps (cu T o.dst v) ds bp (σ.push ob) al):
   Tr D call round isRound ops Te fo fq fj (it::rest) snaps T ds bp σ<|(it.i,σ.n,ob)::al
section
variable{D:a_}{call:iZ}{round:i6}{isRound:Bool}{ops:Array Oper}
def ani{o:Oper}{T:aD}{ds:aJ}{c:bM}{σ:St}{T':aD}{Z:aJ}{V:bM}{σ':St}
 (h:mr D call round isRound o T ds c σ=.ok (.go T' Z V σ')):∃v,T'=cu T o.dst v:=by
 simp only[mr,bK]at h;have⟨⟨m,G⟩,_,h⟩:=h
 cases m with
 |value v=>simp at h;exact⟨v,h.1.symm⟩
 |skip=>simp at h;exact⟨_,h.1.symm⟩
 |defer d=>simp only at h;split at h<;>simp at h;exact⟨_,h.1.symm⟩
 |panic v=>simp at h
 |enter f args=>simp only[bK]at h;have⟨⟨e,i⟩,_,h⟩:=h;cases e<;>simp at h;exact⟨_,h.1.symm⟩
 |round l args=>simp only[bK]at h;have⟨⟨e,i⟩,_,h⟩:=h;cases e<;>simp at h;exact⟨_,h.1.symm⟩
def ang:∀(p:List cM) {k:List St} {T:aD} {ds:aJ} {c:bM} {σ:St} {r:nb},
 nH D call round isRound ops p k T ds c σ=.ok r->
 ∃Te fo fq fj a,r=.go Te fo fq fj/\ Tr D call round isRound ops Te fo fq fj p k T ds c σ a:=by
 intro p
 induction p with
 |nil=>intro k T ds c σ r h;simp[nH]at h;exact⟨_,_,_,_,_,h.symm,.nil⟩
 |cons O e I=>
  intro k T ds c σ r h;simp only[nH]at h;split at h;exact auu;rename_i o B;split at h;rename_i P;split at h;rename_i b;split at h;rename_i X;simp only[bK]at h;have⟨u,V,h⟩:=h
  cases u with
  |go d Z W z=>
   simp only at h;split at h;rename_i n;obtain⟨v,rfl⟩:=ani V;have⟨Te,fo,fq,fj,a,A,Y⟩:=I h;refine⟨Te,fo,fq,fj,a,A,.cB B P b (λx U=>?_) V n Y⟩
   grind
   exact auu
  |panic=>simp at h
  exact at5;rename_i b;have b:O.cB=ab:=by simpa using b
  split at h;simp only[bK]at h;have⟨v,V,h⟩:=h;have⟨Te,fo,fq,fj,a,A,Y⟩:=I h;exact⟨Te,fo,fq,fj,a,A,.pure B P b V Y⟩;simp only[bK]at h;have⟨v,V,h⟩:=h;split at h;rename_i J;simp only[bW,c_]at J;have⟨Te,fo,fq,fj,a,A,Y⟩:=I h;exact⟨Te,fo,fq,fj,a,A,.je B P b J.1 (λs m=>kt.1 J.2 s m) Y⟩;exact at5;simp only[bK]at h;have⟨⟨v,l⟩,V,h⟩:=h;split at h;rename_i X;have⟨Te,fo,fq,fj,a,A,Y⟩:=I h;exact⟨Te,fo,fq,fj,_,A,.alloc B P b V X Y⟩;exact at5;exact at5;rename_i P;have⟨Te,fo,fq,fj,a,A,Y⟩:=I h;exact⟨Te,fo,fq,fj,a,A,.skip B (by simpa using P) Y⟩
def Xu(T:aD)(Z:Option Tmp)(v:AV):aA (cu T Z v)=aA T:=by cases Z<;>simp[cu]
def al0{T:aD}{Z:Option Tmp}{v:AV}{t:Tmp}(h:Z≠ad t):(cu T Z v)[t]?=T[t]?:=by
 cases Z with
 |none=>rfl
 |some d=>have C:d≠t:=λe=>h (by rw[e]);simp[cu,C]
def Xs{T:aD}{v:AV}{t:Tmp}(h:t<aA T):(cu T (ad t) v)[t]?=ad v:=by simp[cu,h]
variable{Te:List AV}{fo:List bT}{fq:bM}{fj:St}
def as7{O:cM}{rest:List cM}{t:Tmp}:oG ops (O::rest) t=(n_ ops O.i==ad t||oG ops rest t):=by simp[oG]
def KE{i:Nat}{o:Oper}(B:ops[i]?=ad o):n_ ops i=o.dst:=by simp[n_,B]
def Tr.qu{p:List cM}{k:List St}{T:aD}{ds:aJ}{c:bM}{σ:St}{a:List jC}
 (h:Tr D call round isRound ops Te fo fq fj p k T ds c σ a):aA T=aA Te/\ ∀t,oG ops p t=ab->T[t]?=Te[t]?:=by
 induction h with
 |nil=>exact⟨aM,λ_ _=>rfl⟩
 |skip B _ _ I|cB B _ _ _ _ _ _ I|pure B _ _ _ _ I|je B _ _ _ _ _ I|alloc B _ _ _ _ _ I=>refine⟨by rw[<-I.1,Xu],λt Y=>?_⟩;rw[as7,gz,KE B]at Y;rw[<-I.2 t Y.2,al0<|by simpa using Y.1]
def Tr.xC{p:List cM}{k:List St}{T:aD}{ds:aJ}{c:bM}{σ:St}{u:List jC}
 (h:Tr D call round isRound ops Te fo fq fj p k T ds c σ u):(∀e,e∈u->σ.n<=e.2.1/\ ∃O,O∈p/\ O.i=e.1)/\ u.Pairwise (λa b=>a.2.1<b.2.1):=by
 have A:∀{O:cM} {j:List cM} {i:Nat},(∃E,E∈j/\ E.i=i)->∃E,E∈O::j/\ E.i=i:=λ⟨E,m,he⟩=>⟨E,dR _ m,he⟩
 induction h with
 |nil=>exact⟨aY,.nil⟩
 |skip B _ _ I|pure B _ _ _ _ I|je B _ _ _ _ _ I=>exact⟨λe he=>⟨(I.1 e he).1,A (I.1 e he).2⟩,I.2⟩
 |cB B _ _ _ _ n _ I=>exact⟨λe he=>⟨jS n (I.1 e he).1,A (I.1 e he).2⟩,I.2⟩
 |alloc B _ _ _ _ _ I=>
  refine⟨λe he=>?_,lT.2 ⟨λe he=>?_,I.2⟩⟩
  rcases dz.1 he with rfl|he
  exact at6;exact⟨Nat.le_of_succ_le (I.1 e he).1,A (I.1 e he).2⟩;exact(I.1 e he).1
structure abp(D:a_)(ops:Array Oper)(Te:List AV)(s:St)(al:List jC)(i:Nat)(lo k:Nat):Prop where
 dO:∃o T,ops[i]?=ad o/\ (∀t,t∈r_ ops o->T[t]?=Te[t]?)/\ ∃v,(∀d,o.dst=ad d->d<aA Te->Te[d]?=ad v)/\
  ((ji ops o T=ab/\ v=.undef/\ ∀e,e∈al->e.1≠i)\/
   (ji ops o T=aa/\ gy D (dV D T) o.op=.ok v/\ ∀e,e∈al->e.1≠i)\/
   (ji ops o T=aa/\ (lo<=k->si D T o.op v s=aa)/\ ∀e,e∈al->e.1≠i)\/
   (∃n ob,ji ops o T=aa/\ jT D (dV D T) o.op n=.ok (v,ob)/\ dM (n+1) ob=aa/\ (i,n,ob)∈al/\ ∀e,e∈al->e.1=i->e=(i,n,ob)))
def It(ops:Array Oper):List cM->Prop
 |[]=>True
 |it::rest=>(∀E,E∈rest->E.i≠it.i)/\ (∀o,ops[it.i]?=ad o->(∀t,t∈r_ ops o->oG ops (it::rest) t=ab)/\ (∀d,o.dst=ad d->oG ops rest d=ab))/\ It ops rest
def Tr.afS{p:List cM}{k:List St}{T:aD}{ds:aJ}{c:bM}{σ:St}{a:List jC}
 (h:Tr D call round isRound ops Te fo fq fj p k T ds c σ a)(J:It ops p){s:St}{old:List St}:
 (∃w,k=w++s::old)->∀O,O∈p->O.cB=ab->abp D ops Te s a O.i O.lo (aA old):=by
 have X:∀{j:List cM} {T:aD} {o:Oper} {v:AV},aA (cu T o.dst v)=aA Te/\ (∀t,oG ops j t=ab->(cu T o.dst v)[t]?=Te[t]?)->
  (∀d,o.dst=ad d->oG ops j d=ab)->∀d,o.dst=ad d->d<aA Te->Te[d]?=ad v:=by
  intro j T o v V l d C m;rw[<-V.2 d (l d C),C,Xs<|by rw[<-V.1,Xu]at m;exact m]
 have u:∀{O:cM} {j:List cM} {a:List jC} {n:Nat},(∀e,e∈a->n<=e.2.1/\ ∃E,E∈j/\ E.i=e.1)->(∀E,E∈j->E.i≠O.i)->∀e,e∈a->e.1≠O.i:=by grind
 induction h with
 |nil=>intro _ O hm;simp at hm
 |@skip O j k T ds c σ a o B P next I=>
  intro x E hm b;obtain⟨w,rfl⟩:=x
  rcases dz.1 hm with rfl|hm
  exact⟨o,T,B,λt y=>(Tr.skip B P next).qu.2 t<|(J.2.1 o B).1 t y,.undef,X next.qu (J.2.1 o B).2,.inl ⟨P,aM,u next.xC.1 J.1⟩⟩;refine I J.2.2 ?_ E hm b
  grind
 |@cB O j k T ds c σ a o v Z A N B P Y F r f next I=>
  intro x E hm b;obtain⟨w,rfl⟩:=x
  rcases dz.1 hm with rfl|hm
  rw[b]at Y;cases Y;exact I J.2.2 ⟨_::w,aM⟩ E hm b
 |@pure O j k T ds c σ a o v B P Y r next I=>
  intro x E hm b
  rcases dz.1 hm with rfl|hm
  exact⟨o,T,B,λt y=>(Tr.pure B P b r next).qu.2 t<|(J.2.1 o B).1 t y,v,X next.qu (J.2.1 o B).2,.inr<|.inl ⟨P,r,u next.xC.1 J.1⟩⟩;exact I J.2.2 x E hm b
 |@je O j k T ds c σ a o v B P Y Q q next I=>
  intro x E hm b
  rcases dz.1 hm with rfl|hm
  refine⟨o,T,B,λt y=>(Tr.je B P b Q q next).qu.2 t<|(J.2.1 o B).1 t y,v,X next.qu (J.2.1 o B).2,.inr<|.inr<|.inl ⟨P,λd0=>?_,u next.xC.1 J.1⟩⟩;obtain⟨w,rfl⟩:=x;refine q s ?_;rw[Fx];refine⟨aA w,?_,?_⟩;simp only[cN,cr];omega;simp;exact I J.2.2 x E hm b
 |@alloc O j k T ds c σ a o v U B P Y r F next I=>
  intro x E hm b;have h0:=u next.xC.1 J.1
  rcases dz.1 hm with rfl|hm
  refine⟨o,T,B,λt y=>(Tr.alloc B P b r F next).qu.2 t<|(J.2.1 o B).1 t y,v,X next.qu (J.2.1 o B).2,.inr<|.inr<|.inr ⟨σ.n,U,P,r,F,ei,λe L z=>?_⟩⟩
  grind
  have i:O.i≠E.i:=λe=>J.1 E hm e.symm;have⟨S,g,M,G,a0,C,b0⟩:=(I J.2.2 x E hm b).dO;refine⟨S,g,M,G,a0,C,?_⟩;have f:∀e,e∈(O.i,σ.n,U)::a->e.1=E.i->e∈a:=λe L z=>by grind
  rcases b0 with⟨V,l,W⟩|⟨V,l,W⟩|⟨V,l,W⟩|⟨n,c0,V,l,W,h4,h5⟩
  grind
  grind
  grind
  grind
end
section
variable[Lo]
omit [Lo]in
def YJ{D:a_}{T:aD}{l:Op}{v:AV}{s:St}(h:si D T l v s=aa):kM D s (dV D T) l=.ok v:=by unfold si at h;split at h;rename_i g Y;rw[Y,CQ _ _ h];exact avN
omit [Lo]in
mutual
def LR{ι:aI}{A:aE}{n:Nat}:∀(v:AV),bB ι A v->de n v=aa->bB ι (λb=>A b/\ b<n) v
 |.aN _,_,_=>trivial
 |.aR b _,h,k=>⟨h,awQ⟩
 |.slice b _ _ (ad _) _,h,k=>⟨h,awQ⟩
 |.slice b _ _ ae _,h,k=>⟨⟨h.1,awQ⟩,h.2⟩
 |.ik b _ _ _,h,k=>⟨⟨h.1,awQ⟩,h.2⟩
 |.cz b,h,k=>⟨h,awQ⟩
 |.func _ a c,h,k=>by simp only[de,bW]at k;exact⟨Bh a h.1 k.1,Bh c h.2 k.2⟩
 |.yield l,h,k=>⟨h,awQ⟩
 |.iface _ v,h,k=>LR v h k
 |.agg V,h,k=>Bh V h k
 |.tuple q,h,k=>Bh q h k
def Bh{ι:aI}{A:aE}{n:Nat}:∀(l:aD),b5 ι A l->cD n l=aa->b5 ι (λb=>A b/\ b<n) l
 |[],_,_=>trivial
 |v::l,h,k=>by simp only[cD,bW]at k;exact⟨LR v h.1 k.1,Bh l h.2 k.2⟩
end
omit [Lo]in
def y_{ι:aI}{A B:aE}(h:∀b,A b->B b){v:AV}(k:bB ι A v):bB ι B v:=sY (λb e=>⟨h b e,aM⟩) v k
omit [Lo]in
def jk.amS{ι:aI}{A:aE}{n:Nat}{o:AO}{L:bf}{w:World}(h:jk ι A o L w)(k:dM n o=aa):jk ι (λb=>A b/\ b<n) o L w:=by
 cases o with
 |cells V W U j=>have⟨l,a⟩:=h;exact⟨Bh V l k,a⟩
 |map X d=>
  cases X with
  |nil=>exact⟨h.1,h.2.1,aY⟩
  |cons e X=>simp[dM]at k
 |_=>simp[dM]at k
omit [Lo]in
def QT{n:Nat}{o:AO}(k:dM n o=aa):o≠.c5:=by rintro rfl;simp[dM]at k
section
variable{D:a_}{ι ι':Nat->bf}{σ:St}{w:World}
omit [Lo]in
def bz.DF(R:bz D ι σ w)(h:∀b,b<σ.n->ι' b=ι b):bz D ι' σ w where
 len:=R.len
 ja:=R.ja
 jW:=λg o=>by rw[h g<|dc o R.ja];exact R.jW g o
 eS:=λb e=>by rw[h b e];exact(R.eS b e).mono λx s=>⟨s,h x s⟩
 fJ:=λb W e I C m o=>by rw[h b e,h W I];exact R.fJ b W e I C m o
 mem:=R.mem
def cj.DF{U:aI}{σ0:St}{p:World}(E:cj U σ0 p ι σ w)(h:∀b,b<σ.n->ι' b=ι b):cj U σ0 p ι' σ w where
 os:=E.os
 tape:=E.tape
 output:=E.output
 size:=E.size
 n:=E.n
 er:=λb e=>(h b<|dc e E.n).trans (E.er b e)
 frame:=E.frame
 bh:=λb e o=>by rw[h b e];exact E.bh b e o
omit [Lo]in
def bz.JK(R:bz D ι σ w){o:AO}(B:jk ι (·<σ.n+1) o (ι σ.n) w)(s:∀b,b<σ.n->σ.a7 b≠.c5->(ι b).block≠(ι σ.n).block):
 bz D ι (σ.push o) w where
 len:=by simp[St.push,R.len]
 ja:=yo R.ja
 jW:=R.jW
 eS:=λb e=>by simp only[St.push]at e;by_cases f:b=σ.n;subst f;rw[kk];exact B;have Q:b<σ.n:=aW;rw[eP Q];exact(R.eS b Q).mono λx U=>⟨uX U,aM⟩
 fJ:=λb W e I C m G=>by
  simp only[St.push]at e I;by_cases f:b=σ.n;subst f;have Q:W<σ.n:=aW;rw[eP Q]at G
  grind
  have Q:b<σ.n:=aW;rw[eP Q]at m;by_cases y:W=σ.n;subst y;exact s b Q<|AO.ug m;have v:W<σ.n:=aW;rw[eP v]at G;exact R.fJ b W Q v C m G
 mem:=R.mem
def cj.JK{h:aI}{σ0:St}{p:World}(E:cj h σ0 p ι σ w){o:AO}(x:p.heap.size<=(ι σ.n).block):cj h σ0 p ι (σ.push o) w where
 os:=E.os
 tape:=E.tape
 output:=E.output
 size:=E.size
 n:=yo E.n
 er:=E.er
 frame:=E.frame
 bh:=λb e G=>by simp only[St.push]at e;by_cases f:b=σ.n;subst f;exact .inl x;have Q:b<σ.n:=aW;rw[eP Q]at G|-;exact E.bh b Q G
def cj.l'{U:aI}{σ0:St}{p:World}(E:cj U σ0 p ι σ w)(ob:Obj)(h:∀b,b<σ.n->ι' b=ι b):cj U σ0 p ι' σ (w.alloc ob):=by
 refine cj.DF ⟨E.os,E.tape,E.output,?_,E.n,E.er,λr x V=>?_,E.bh⟩ h;have:(w.alloc ob).heap.size=w.heap.size+1:=aY;rw[this];exact yo E.size;rw[<-E.frame r x V];show(w.heap.push ob)[r]?=_;have:=E.size
 grind
omit [Lo]in
def T_(w:World)(ob:Obj){r:Nat}(x:r<w.heap.size):(w.alloc ob).heap[r]?=w.heap[r]?:=by
 show(w.heap.push ob)[r]?=_
 grind
omit [Lo]in
def bz.l'(R:bz D ι σ w)(ob:Obj)(h:∀b,b<σ.n->ι' b=ι b):bz D ι' σ (w.alloc ob):=by refine bz.DF ⟨R.len,R.ja,R.jW,λb e=>?_,R.fJ,R.mem⟩ h;by_cases o:σ.a7 b=.c5;rw[o];trivial;exact(R.eS b e).congr<|T_ w ob<|(R.eS b e).lt o
end
end
section
variable[Lo]
def eD(listed:Array Bool)(i:Nat):Bool:=listed.getD i ab
omit [Lo]in
def r5{listed:Array Bool}{i:Nat}(G:i<listed.size)(j:Nat):eD (listed.setIfInBounds i aa) j=(eD listed j||j==i):=by
 unfold eD;by_cases h:i=j;subst h;simp[G];have Y:(j==i)=ab:=by simpa using λe=>h e.symm
 exact at6
omit [Lo]in
def Ar(a b:Nat):ag a b=ax (a=b):=by
 by_cases h:a=b;subst h;simp;have:ag a b=ab:=by
  cases e:ag a b with
  |false=>rfl
  |true=>exact(h<|dB e).elim
 simp[h,this]
omit [Lo]in
def CS(a b:Nat):ah a b=ax (a<b):=by
 by_cases h:a<b;exact at6;have:ah a b=ab:=by
  cases e:ah a b with
  |false=>rfl
  |true=>exact(h<|by simpa[Jv]using e).elim
 simp[h,this]
omit [Lo]in
def Au(m i:Nat):nV m i=m.testBit i:=by
 unfold nV Nat.testBit;rw[Ar];have h:Nat.land (Nat.shiftRight m i) 1=1&&&(m>>>i):=Nat.and_comm _ _
 grind
omit [Lo]in
def HB:∀(l:aK) (i:Nat),mR l i=l.getD i 0
 |[],i=>rfl
 |x::l,0=>rfl
 |x::l,i+1=>by have:mR (x::l) (i+1)=mR l i:=rfl;rw[this,HB l i];simp
omit [Lo]in
def KH{G:aK}{k i:Nat}:∀{l:List Edge},(qB G k l).testBit i=aa->
 ∃e,e∈l/\ Region.binds .any e=aa/\ (e.on=i\/ (e.on<k/\ (G.getD (k-1-e.on) 0).testBit i=aa))
 |[],h=>by simp[qB]at h
 |e::l,h=>by
  unfold qB at h
  cases X:Region.binds .any e with
  |false=>rw[X]at h;have⟨B,h1,a⟩:=KH (l:=l) h;exact⟨B,dR _ h1,a⟩
  |true=>
   rw[X]at h;simp only[a8]at h;have Y:((((1<<<e.on)|||(bif ah e.on k then mR G (Nat.sub (Nat.sub k 1) e.on)else 0))|||qB G k l):Nat).testBit i=aa:=h;rw[Pq,Pq,iB,iB]at Y
   rcases Y with(h1|h1)|h1
   refine⟨e,aY,X,.inl ?_⟩;rw[Pn,Nat.testBit_two_pow]at h1;exact at6;rw[CS]at h1;by_cases O:e.on<k;simp only[O,vl,a8]at h1;rw[HB]at h1;exact at6;exact at6;have⟨B,a,d⟩:=KH (l:=l) h1
   grind
def Qz(i:Nat):∀(l:aH) (G:aK) (k:Nat),aA G=k->∀j o,l[j]?=ad o->((iG l G k).getD j 0).testBit i=aa->
 ∃e,e∈o.after/\ Region.binds .any e=aa/\ (e.on=i\/ ((G.reverse++iG l G k).getD e.on 0).testBit i=aa)
 |[],_,_,_,j,o,h,_=>auu
 |o::l,G,k,f,0,N,B,X=>by
  simp only[List.getElem?_cons_zero,pD]at B;subst B;have I:(qB G k o.after.toList).testBit i=aa:=by simpa[iG]using X
  have⟨e,O,a,d⟩:=KH I;refine⟨e,by simpa using O,a,d.imp id λ⟨y,A⟩=>?_⟩
  grind
 |o::l,G,k,f,j+1,N,B,X=>by
  simp only[oK]at B;have I:((iG l (qB G k o.after.toList::G)<|k+1).getD j 0).testBit i=aa:=by simpa[iG]using X
  have⟨e,O,a,d⟩:=Qz i l (qB G k o.after.toList::G) (k+1) (by simp[f]) j N B I;refine⟨e,O,a,d.imp id λA=>?_⟩;have:G.reverse++iG (o::l) G k=(qB G k o.after.toList::G).reverse++iG l (qB G k o.after.toList::G) (k+1):=by simp[iG]
  exact at6
def ajJ(ops:aG):r7 ops (l5 ops)=aa:=by
 simp only[r7,xi,kt,lS];intro j u i G;by_cases h:k5 (l5 ops) i j=aa;have B:ops.toList[j]?=ad ops[j]:=by simp[u]
 unfold k5 l5 at h;have Y:((iG ops.toList [] 0).getD j 0).testBit i=aa:=auF;have⟨e,f,k,A⟩:=Qz i ops.toList [] 0 aM j _ B Y;have d:ops[j]?=ad ops[j]:=by simp[u]
 rw[d];simp only[iB];right;refine mD.2 ⟨e,aum,?_⟩;simp only[bW,iB,nj];refine⟨k,A.imp id λZ=>?_⟩;unfold k5 l5;simpa using Z;simp[h]
def Cl(ops:Array Oper)(b:Array Nat)(listed:Array Bool):Prop:=∀i j,i<ops.size->eD listed j=aa->k5 b i j=aa->eD listed i=aa
section
variable{ops:Array Oper}{m:Nat}{b:Array Nat}{listed:Array Bool}
omit [Lo]in
def ajK(Y:r7 ops b=aa){i j:Nat}(G:i<ops.size)(u:j<ops.size)(h:k5 b i j=aa):
 ∃o e,ops[j]?=ad o/\ e∈o.after/\ Region.binds .any e=aa/\ (e.on=i\/ k5 b i e.on=aa):=by
 simp only[r7,xi,kt,lS]at Y;have:=Y j u i G;rw[h]at this;simp only[px,jP]at this;split at this
 grind
 cases this
omit [Lo]in
def sf{j:Nat}(h:j∈Region.ready .any ops listed)(c:listed.size=ops.size):j<ops.size/\ eD listed j=ab:=by have⟨Q,o,B,_⟩:=Mv.1 h;have u:j<ops.size:=(qm.1 B).1;refine⟨u,?_⟩;unfold eD;exact at6
omit [Lo]in
def BP(Y:r7 ops b=aa)(Q:Cl ops b listed)(c:listed.size=ops.size){i j:Nat}(u:j∈Region.ready .any ops listed)(g:i<ops.size)
 (h:k5 b i j=aa):eD listed i=aa:=by
 have G:=(sf u c).1;have⟨_,o,B,y⟩:=Mv.1 u;have⟨N,e,d,f,X,r⟩:=ajK Y g G h;rw[B]at d;cases d;have l:eD listed e.on=aa:=y e f X
 rcases r with h1|h1
 rw[<-h1];exact l;exact Q i e.on g l h1
def Cl.set(Q:Cl ops b listed)(Y:r7 ops b=aa)(c:listed.size=ops.size){j:Nat}(u:j∈Region.ready .any ops listed):Cl ops b (listed.setIfInBounds j aa):=by
 have E:=(sf u c).1;intro i x G U h;rw[r5 aW]at U|-;rw[iB]at U|-;left
 rcases U with U|U
 exact Q i x G U h;rw[nj]at U;subst U;exact BP Y Q c u G h
structure OO(ops:Array Oper)(m:Nat)(b:Array Nat)(gp:List Nat)(seen:List Nat)(it:cM)(rest:List cM)(o:Oper):Prop where
 ho:ops[it.i]?=ad o
 lt:it.i<m
 akv:∀cs d,o.op≠.select cs d
 new:it.i∉seen
 top:∀e,e∈o.after->Region.binds .any e=aa->e.on∈seen
 first:∀a,oX rest=ad a->k5 b it.i a=aa
 lo:it.lo=0\/ ∃a,gp[it.lo-1]?=ad a/\ k5 b a it.i=aa
 DW:∀t,t∈r_ ops o->oG ops (it::rest) t=ab/\ ∀j,j<m->n_ ops j=ad t->k5 b j it.i=aa
 dst:∀d,o.dst=ad d->oG ops rest d=ab
omit [Lo]in
def vf{I seen:aK}{O:cM}{rest:List cM}(h:sa ops m b I seen (O::rest)=aa):
 (∃o,OO ops m b I seen O rest o)/\ sa ops m b I (O.i::seen) rest=aa:=by
 simp only[sa,bW]at h;refine⟨?_,h.2⟩;have l:=h.1;split at l;cases l;rename_i o B;simp only[bW,nM,kt,iB]at l;have⟨⟨⟨⟨⟨⟨⟨Q,l⟩,p⟩,X⟩,A⟩,Z⟩,Y⟩,c⟩:=l;refine⟨o,B,by simpa[Jv]using Q,?_,?_,?_,?_,?_,?_,?_⟩;intro y d e;rw[e]at l;simp[DH]at l;simpa using p
 grind
 intro a J;rw[J]at A;exact A
 grind
 grind
 intro d t;rw[t]at c;simpa using c
omit [Lo]in
def adO{I:aK}:∀{rest:List cM} {seen:aK},sa ops m b I seen rest=aa->∀O,O∈rest->O.i∉seen:=by
 intro rest
 induction rest with
 |nil=>intro seen _ O hm;simp at hm
 |cons x rest k=>
  intro seen h O hm;have⟨⟨o,J⟩,a⟩:=vf h
  rcases dz.1 hm with rfl|hm
  exact J.new;intro B;exact k a O hm<|dR _ B
def Kn{I:aK}:∀{rest:List cM} {seen:aK},sa ops m b I seen rest=aa->It ops rest:=by
 intro rest
 induction rest with
 |nil=>intro seen _;trivial
 |cons x rest k=>intro seen h;have⟨⟨o,J⟩,a⟩:=vf h;refine⟨λE Y e=>adO a E Y<|e▸ei,λN d=>?_,k a⟩;rw[J.ho]at d;cases d;exact⟨λt D=>(J.DW t D).1,J.dst⟩
omit [Lo]in
def aoM:∀{rest:List cM},It ops rest->∀{x y:cM},x∈rest->y∈rest->x.i=y.i->x=y:=by
 intro rest
 induction rest with
 |nil=>intro _ x y U;simp at U
 |cons z rest I=>
  intro h x y U Q e
  rcases dz.1 U with rfl|t
  rcases dz.1 Q with rfl|o
  rfl;exact(h.1 y o e.symm).elim
  rcases dz.1 Q with rfl|o
  exact(h.1 x t e).elim;exact I h.2.2 t o e
omit [Lo]in
def AB{I:aK}:∀{rest:List cM} {seen:aK},sa ops m b I seen rest=aa->∀O,O∈rest->∃o d a,OO ops m b I d O a o:=by
 intro rest
 induction rest with
 |nil=>intro seen _ O hm;simp at hm
 |cons x rest k=>
  intro seen h O hm;have⟨⟨o,J⟩,p⟩:=vf h
  rcases dz.1 hm with rfl|hm
  grind
  exact k p O hm
omit [Lo]in
def adM{I:aK}{O:cM}(J:O.cB=aa):∀{rest:List cM} {seen:aK},sa ops m b I seen rest=aa->O∈rest->
 oX rest=ad O.i\/ ∃p,p∈rest/\ p.cB=aa/\ k5 b p.i O.i=aa:=by
 intro rest
 induction rest with
 |nil=>intro seen _ hm;simp at hm
 |cons x rest k=>
  intro seen h hm;have⟨⟨o,W⟩,a⟩:=vf h
  cases U:x.cB with
  |true=>
   rcases dz.1 hm with rfl|hm
   left;simp[oX,U]
   rcases k a hm with d|⟨p,v,d⟩
   exact .inr ⟨x,ei,U,W.first _ d⟩
   grind
  |false=>
   rcases dz.1 hm with rfl|hm
   rw[J]at U;cases U
   rcases k a hm with d|⟨p,v,d⟩
   left;simpa[oX,U]using d
   grind
end
def iD(σ:St)(al:List jC)(listed:Array Bool)(b:Nat):Prop:=b<σ.n\/ ∃e,e∈al/\ eD listed e.1=aa/\ e.2.1=b
structure FD(σ:St)(al:List jC)(listed:Array Bool)(ι:Nat->bf)(w:World)(aN:Nat)(e:jC):Prop where
 eH:jk ι (iD σ al listed) e.2.2 (ι e.2.1) w
 dI:dM (e.2.1+1) e.2.2=aa
 aN:aN<=(ι e.2.1).block
 yz:∀b,b<σ.n->σ.a7 b≠.c5->(ι b).block≠(ι e.2.1).block
structure cI where
 D:a_
 P:Program
 call:iZ
 round:i6
 isRound:Bool
 X:gV
 b:Frame
 ops:Array Oper
 m:Nat
 gp:List Nat
 Te:List AV
 fo:List bT
 fq:bM
 fj:St
 zQ:Nat->bf
 σ0:St
 w0:World
structure fC(V:cI)(listed:Array Bool)(rest:List cM)(seen:List Nat)(s:St)(old:List St)(T:List AV)(ds:List bT)(bp:bM)(σ:St)(al:List jC)
 (ι:Nat->bf)(w:World)(M:Array Value):Prop where
 tr:Tr V.D V.call V.round V.isRound V.ops V.Te V.fo V.fq V.fj rest (s::old) T ds bp σ al
 fL:sa V.ops V.m (l5 V.ops) V.gp seen rest=aa
 u6:(rest.filter (·.cB)).map (·.i)=V.gp.drop (aA old)
 sz:listed.size=V.ops.size
 cl:Cl V.ops (l5 V.ops) listed
 uK:∀j,j∈seen->eD listed j=aa
 vk:∀i,i<V.m->i∈seen\/ ∃it,it∈rest/\ it.i=i
 un:∀it,it∈rest->it.cB=aa->eD listed it.i=ab
 eH:bz V.D ι σ w
 ext:cj V.zQ V.σ0 V.w0 ι σ w
 tg:M.size=aA V.Te
 val:∀t v,V.Te[t]?=ad v->(∀it,it∈rest->eD listed it.i=ab->n_ V.ops it.i≠ad t)->M[t]?=ad (aQ ι v)/\ bB ι (iD σ al listed) v
 p9:∀e,e∈al->eD listed e.1=aa->FD σ al listed ι w V.w0.heap.size e
 fJ:∀e e',e∈al->e'∈al->eD listed e.1=aa->eD listed e'.1=aa->e.2.1≠e'.2.1->(ι e.2.1).block≠(ι e'.2.1).block
 kY:V.X.A6 bp
 ds:sX ι (·<σ.n) ds
 bp:uc ι (·<σ.n) bp
section
variable{V:cI}{listed:Array Bool}{rest:List cM}{seen:List Nat}{s:St}{old:List St}{T:List AV}{ds:List bT}{bp:bM}{σ:St}{al:List jC}
 {ι:Nat->bf}{w:World}{M:Array Value}
structure Pg(V:cI)(σ:St)(al:List jC)(listed:Array Bool)(ι:Nat->bf)(M:Array Value)(o:Oper)(T:List AV):Prop where
 ev:Go.execOp (h7 M) o=Go.execOp (λx=>aQ ι<|dV V.D T x) o
 bB:∀x,x∈o.op.operands->Dt.bB ι (iD σ al listed) (dV V.D T x)
 wanted:Region.wanted o (yielded V.ops M)=ji V.ops o T
def fC.DW(I:fC V listed rest seen s old T ds bp σ al ι w M)(c:r7 V.ops (l5 V.ops)=aa){O:cM}(n:O∈rest)(A:O.i∈Region.ready .any V.ops listed)
 {o:Oper}(B:V.ops[O.i]?=ad o){T':aD}(F:∀t,t∈r_ V.ops o->T'[t]?=V.Te[t]?):Pg V σ al listed ι M o T':=by
 have⟨N,d,a,J⟩:=AB I.fL O n;rw[J.ho]at B;cases B;have l:∀t,t∈r_ V.ops o->∀v,T'[t]?=ad v->M[t]?=ad (aQ ι v)/\ bB ι (iD σ al listed) v:=by
  intro t D v Y;rw[F t D]at Y;refine I.val t v Y λE S r Q=>?_;have y:E.i<V.ops.size:=by
   unfold n_ at Q
   grind
  have⟨_,_,_,C⟩:=AB I.fL E S;have:=BP c I.cl I.sz A y<|(J.DW t D).2 E.i C.lt Q;rw[r]at this;cases this
 have z:∀t,t∈r_ V.ops o->T'[t]?=ae->M[t]?=ae:=by intro t D Y;rw[F t D,List.getElem?_eq_none_iff]at Y;exact I7 (by rw[I.tg];exact Y)
 have P:∀t,(Operand.tmp t)∈o.op.operands->t∈r_ V.ops o:=λt D=>O7 _<|List.mem_filterMap.2 ⟨.tmp t,by simpa using D,aM⟩
 refine⟨execOp_congr o J.akv λx U=>?_,λx U=>?_,?_⟩
 cases x with
 |tmp t=>
  have D:=P t U;simp only[h7,dV,OG,pz]
  cases Y:T'[t]? with
  |none=>rw[z t D Y];simp
  |some v=>rw[(l t D v Y).1];simp
 |const v=>simp[h7,dV]
 |global g=>simp only[h7,dV];split;rename_i G;have:=I.eH.jW g G;simp[aQ,bf.at,this.1,this.2];simp[aQ]
 |func f=>simp[h7,dV,aQ,bb]
 cases x with
 |tmp t=>
  have D:=P t U;simp only[dV,pz]
  cases Y:T'[t]? with
  |none=>simpa using ud ι _
  |some v=>simpa using(l t D v Y).2
 |const v=>exact LQ ι _ v
 |global g=>simp only[dV];split;rename_i G;exact .inl<|I.eH.GQ g G;trivial
 |func f=>simp[dV,Dt.bB,b5]
 unfold Region.wanted ji
 cases G:o.guard with
 |none=>rfl
 |some p=>
  have⟨g,k⟩:=p;have:yielded V.ops M g=zO V.ops T' g:=by
   rw[<-abj ι];unfold yielded
   cases D:(V.ops[g]?).bind (·.dst)with
   |none=>rfl
   |some t=>
    have Z:t∈r_ V.ops o:=O8 _ (by simp[G,D]);simp only[Cw,pA,rJ]
    cases Y:T'[t]? with
    |none=>rw[z t Z Y];simp
    |some v=>rw[(l t Z v Y).1];simp
  simp only[this]
def fC.Ut(I:fC V listed rest seen s old T ds bp σ al ι w M)(Y:r7 V.ops (l5 V.ops)=aa){O:cM}(l:O∈rest)(r:O.i∈Region.ready .any V.ops listed)
 (A:O.cB=ab){o:Oper}(q:V.ops[O.i]?=ad o){v:AV}(k:∀d,o.dst=ad d->d<aA V.Te->V.Te[d]?=ad v){ι':aI}{w':World}
 (f:∀b,iD σ al listed b->iD σ al (listed.setIfInBounds O.i aa) b/\ ι' b=ι b)(R:bz V.D ι' σ w')(E:cj V.zQ V.σ0 V.w0 ι' σ w')
 (z:bB ι' (iD σ al<|listed.setIfInBounds O.i aa) v)
 (x:∀e,e∈al->eD (listed.setIfInBounds O.i aa) e.1=aa->FD σ al (listed.setIfInBounds O.i aa) ι' w' V.w0.heap.size e)
 (Q:∀e F,e∈al->F∈al->eD (listed.setIfInBounds O.i aa) e.1=aa->eD (listed.setIfInBounds O.i aa) F.1=aa->e.2.1≠F.2.1->(ι' e.2.1).block≠(ι' F.2.1).block):
 fC V (listed.setIfInBounds O.i aa) rest seen s old T ds bp σ al ι' w' (dX M o.dst<|aQ ι' v):=by
 have y:=(sf r I.sz).1;have c:=λj=>r5 (listed:=listed) (i:=O.i) (by rw[I.sz];exact y) j;have a:∀b,b<σ.n->b<σ.n/\ ι' b=ι b:=λb X=>⟨X,(f b<|.inl X).2⟩
 refine{tr:=I.tr,fL:=I.fL,u6:=I.u6,sz:=by simpa using I.sz,cl:=I.cl.set Y I.sz r,uK:=λj u=>by rw[c,I.uK j u];rfl,vk:=I.vk,
        un:=λJ S P=>?_,eH:=R,ext:=E,tg:=?_,val:=λt g B U=>?_,p9:=x,fJ:=Q,
        ds:=ub a I.ds,bp:=vC a bp I.bp,kY:=I.kY}
 rw[c,I.un J S P,jP];simp only[As];intro L;have n:J=O:=aoM (Kn I.fL) S l L;rw[n,A]at P;cases P;rw[<-I.tg];unfold dX;split<;>simp;by_cases C:o.dst=ad t;have G:t<aA V.Te:=(lQ.1 B).1;have:=k t C G;rw[B]at this;cases this;refine⟨?_,z⟩;rw[C];simp only[dX];rw[Array.getElem?_setIfInBounds_self_of_lt<|by rw[I.tg];exact G];have h:=I.val t g B λJ S Z p=>?_;refine⟨?_,sY f g h.2⟩;have N:(dX M o.dst<|aQ ι' v)[t]?=M[t]?:=by
  unfold dX
  grind
 rw[N,h.1,nY (λb X=>(f b X).2) g h.2];by_cases L:J.i=O.i;rw[L,KE q]at p;exact C p
 grind
end
end
section
variable[Lo]
section
variable{V:cI}{listed:Array Bool}{rest:List cM}{seen:List Nat}{s:St}{old:List St}{T:List AV}{ds:List bT}{bp:bM}{σ:St}{al:List jC}
 {ι:Nat->bf}{w:World}{M:Array Value}
omit [Lo]in
def iD.fN{i:Nat}(G:i<listed.size)(o:∀e,e∈al->e.1≠i)(b:Nat):iD σ al (listed.setIfInBounds i aa) b↔iD σ al listed b:=by
 unfold iD;constructor;rintro(h|⟨e,f,l,h⟩);exact .inl h;rw[r5 G]at l
 grind
 rintro(h|⟨e,f,l,h⟩);exact .inl h;exact .inr ⟨e,f,by rw[r5 G,l];rfl,h⟩
def qV(V:cI)(o:List Nat)(k:List Item)(ι:Nat->bf)(ds:List bT)(bp:bM)(w:World)(M:Array Value):Machine:=lone (on V.b M (ds.map<|el ι)<|.inRegion V.ops o::k) (V.X.cs ι bp) w
omit [Lo]in
def ajL{o:aK}{k:List Item}{ι ι':aI}{n:Nat}(h:∀b,b<n->ι' b=ι b)(t:sX ι (·<n) ds)(p:uc ι (·<n) bp):
 qV V o k ι' ds bp w M=qV V o k ι ds bp w M:=by
 unfold qV;rw[vh h t,V.X.er h p]
def fC.early(I:fC V listed rest seen σ old T ds bp σ al ι w M)(F:fu V.D V.P)(f0:r7 V.ops (l5 V.ops)=aa){O:cM}(d:O∈rest)
 (t:O.i∈Region.ready .any V.ops listed)(A:O.cB=ab)(m:O.lo<=aA old)(S:aK)(k:List Item):
 ∃ι' w' n0,Steps V.P (qV V (O.i::S) k ι ds bp w M) (qV V S k ι' ds bp w' n0)/\ fC V (listed.setIfInBounds O.i aa) rest seen σ old T ds bp σ al ι' w' n0:=by
 obtain⟨o,o0,B,v0,v,p0,q0⟩:=(I.tr.afS (Kn I.fL) ⟨[],aM⟩ O d A).dO;have g0:=(sf t I.sz).1;have J:O.i<listed.size:=by rw[I.sz];exact g0
 have L:=I.DW f0 d t B v0;obtain⟨N,h0,i0,w0⟩:=AB I.fL O d;have j0:N=o:=by have:=w0.ho;rw[B]at this;cases this;rfl
 subst j0;have Z:∀(i:∀e,e∈al->e.1≠O.i),bB ι (iD σ al listed) v->fC V (listed.setIfInBounds O.i aa) rest seen σ old T ds bp σ al ι w (dX M N.dst<|aQ ι v):=by
  intro i k0;have P:=iD.fN (σ:=σ) J i;have G:∀e,e∈al->eD (listed.setIfInBounds O.i aa) e.1=aa->eD listed e.1=aa:=λe f h=>by rw[r5 J]at h;simpa[i e f]using h
  refine I.Ut f0 d t A B p0 (λb X=>⟨(P b).2 X,aM⟩) I.eH I.ext (y_ (λb X=>(P b).2 X) k0) (λe f h=>?_) λe E f g h d0 C=>I.fJ e E f g (G e f h) (G E g d0) C;have p:=I.p9 e f<|G e f h;exact⟨p.eH.mono λb X=>⟨(P b).2 X,aM⟩,p.dI,p.aN,p.yz⟩
 have G0:V.b.roundOf=ae\/ ∀c,N.op≠.defer c\/ ji V.ops N o0=ab:=by
  right;intro c
  rcases q0 with⟨l,_⟩|⟨l,a,_⟩|⟨l,a,_⟩|⟨n,r0,l,a,_⟩
  exact .inr l;left;intro e;rw[e]at a;simp[gy]at a;left;intro e;have:=YJ<|a m;rw[e]at this;simp[kM]at this;left;intro e;rw[e]at a;simp[jT]at a
 have D:ji V.ops N o0=aa->V.b.roundOf=ae\/ ∀c,N.op≠.defer c:=λH0=>at6
 rcases q0 with⟨l,a,Y⟩|⟨l,a,Y⟩|⟨l,a,Y⟩|⟨n,r0,l,a,Y,h4,h5⟩
 subst a;refine⟨ι,w,_,.one ?_,Z Y<|ud _ _⟩;rw[C'];exact NO (by simp[B,L.wanted,l]) B;obtain⟨j,r⟩:=Xm F w a L.bB;refine⟨ι,w,_,.one ?_,Z Y r⟩;exact aws;obtain⟨j,r⟩:=XI F I.eH<|YJ<|a m;refine⟨ι,w,_,.one ?_,Z Y<|y_ (λb X=>.inl X) r⟩;exact aws
 ·
  have s0:=I.tr.xC;have x0:σ.n<=n:=(s0.1 _ h4).1;have t0:∀e,e∈al->e.1≠O.i->e.2.1≠n:=by
   intro e f C y0;have z0:=s0.2;have:=List.pairwise_iff_getElem.1 z0;obtain⟨x,I0,A0⟩:=zZ f;obtain⟨y,J0,B0⟩:=zZ h4
   grind
  have C0:=(sf t I.sz).2;have z:¬iD σ al listed n:=by
   rintro(h|⟨e,f,G,h⟩);omega
   grind
  obtain⟨U,e0,g1,g2,g3,g4⟩:=(PX F w z a L.bB).dO;have Q:∀b,(iD σ al listed b\/ b=n)->iD σ al (listed.setIfInBounds O.i aa) b:=by
   rintro b (h|rfl)
   rcases h with h|⟨e,f,G,h⟩
   exact .inl h;exact .inr ⟨e,f,by rw[r5 J,G];rfl,h⟩;exact .inr ⟨_,h4,by rw[r5 J];simp,rfl⟩
  have u0:∀b,iD σ al listed b->iD σ al (listed.setIfInBounds O.i aa) b/\ fc ι n e0 b=ι b:=λb X=>⟨Q b<|.inl X,ez λe=>z<|e▸X⟩;have W:∀b,b<σ.n->fc ι n e0 b=ι b:=λb X=>ez aW;have D0:=I.eH.l' U W;have E0:=I.ext.l' U W;have l0:V.w0.heap.size<=w.heap.size:=I.ext.size;refine⟨fc ι n e0,w.alloc U,dX M N.dst<|aQ (fc ι n e0) v,?_,?_⟩;rw[ajL W I.ds I.bp];exact .one<|Ix B (by rw[L.wanted,l]) (D l)<|by rw[L.ev];exact g1
  have q:∀e,e∈al->eD (listed.setIfInBounds O.i aa) e.1=aa->e=(O.i,n,r0)\/ (eD listed e.1=aa/\ e.2.1≠n):=by
   intro e f h;by_cases F0:e.1=O.i
   grind
   right;rw[r5 J]at h
   grind
  have a0:∀e,e∈al->eD listed e.1=aa->(ι e.2.1).block<w.heap.size:=λe f G=>by have p:=I.p9 e f G;exact p.eH.lt<|QT p.dI
  refine I.Ut f0 d t A B p0 u0 D0 E0 (y_ Q g4) (λe f h=>?_) λe E f g h d0 C=>?_
  rcases q e f h with rfl|⟨G,C⟩
  refine⟨?_,Y,?_,λb X m0=>?_⟩;simp only[eg];exact g3.mono λb X=>⟨Q b X,aM⟩;simp only[eg,g2];exact l0;simp only[eg,g2];rw[W b X];have:=(I.eH.eS b X).lt m0;omega;have p:=I.p9 e f G;refine⟨?_,p.dI,?_,λb X m0=>?_⟩;rw[ez C];exact(p.eH.mono u0).congr<|T_ w U<|a0 e f G;rw[ez C];exact p.aN;rw[ez C,W b X];exact p.yz b X m0
  rcases q e f h with rfl|⟨G,b0⟩
  rcases q E g d0 with rfl|⟨c0,u⟩
  omega;simp only[eg,g2];rw[ez u]
  grind
  rcases q E g d0 with rfl|⟨c0,u⟩
  simp only[eg,g2];rw[ez b0]
  grind
  rw[ez b0,ez u];exact I.fJ e E f g G c0 C
omit [Lo]in
def aeO{α:Type}{l:List α}{n:Nat}{x:α}{r:List α}(h:x::r=l.drop n):r=l.drop (n+1):=by rw[<-List.tail_drop,<-h,List.tail_cons]
def fC.JM{O:cM}(I:fC V listed (O::rest) seen s old T ds bp σ al ι w M)(A:O.cB=ab)(G:eD listed O.i=aa):
 ∃T' σ' L,fC V listed rest (O.i::seen) s old T' ds bp σ' L ι w M:=by
 have Q:∀{T':aD} {σ':St} {L:List jC} (_:Tr V.D V.call V.round V.isRound V.ops V.Te V.fo V.fq V.fj rest (s::old) T' ds bp σ' L)
  (_:bz V.D ι σ' w) (_:cj V.zQ V.σ0 V.w0 ι σ' w) (_:∀b,iD σ al listed b->iD σ' L listed b) (_:σ.n<=σ'.n)
  (_:∀e,e∈L->eD listed e.1=aa->FD σ' L listed ι w V.w0.heap.size e)
  (_:∀e,e∈L->e∈al),fC V listed rest (O.i::seen) s old T' ds bp σ' L ι w M:=by
  intro T' σ' L g Z F C n N r;have l:∀b,b<σ.n->b<σ'.n/\ ι b=ι b:=λb X=>⟨Nat.lt_of_lt_of_le X n,aM⟩
  exact{tr:=g,fL:=(vf I.fL).2,u6:=by have:=I.u6;simpa[List.filter_cons,A]using this,sz:=I.sz,cl:=I.cl,
        uK:=λj u=>by
         rcases List.mem_cons.1 u with rfl|u
         ·exact G
         ·exact I.uK j u,
        vk:=λi W=>by
         rcases I.vk i W with h|⟨x,m,rfl⟩
         ·simp_all
         ·grind,
        un:=λx m J=>I.un x (List.mem_cons_of_mem _ m) J,eH:=Z,ext:=F,tg:=I.tg,
        val:=λt v k E=>by
         have:=I.val t v k λx m S=>by grind
         exact⟨this.1,y_ C this.2⟩,
        p9:=N,fJ:=λe c he f=>I.fJ e c (r e he)<|r c f,kY:=I.kY,ds:=ub l I.ds,bp:=vC l bp I.bp}
 have g:=I.tr
 cases g with
 |skip B P next=>
  rw[A]at next
  exact⟨_,_,_,Q next I.eH I.ext (λb X=>X) (Nat.le_refl _) I.p9 λe he=>he⟩
 |cB B P J=>rw[A]at J;cases J
 |pure B P J a0 next=>exact⟨_,_,_,Q next I.eH I.ext (λb X=>X) (Nat.le_refl _) I.p9 λe he=>he⟩
 |je B P J b0 c0 next=>exact⟨_,_,_,Q next I.eH I.ext (λb X=>X) (Nat.le_refl _) I.p9 λe he=>he⟩
 |@alloc _ _ _ _ _ _ _ L o v Y B P J a0 X next=>
  have p:=I.p9 _ List.mem_cons_self G;have a:jk ι (·<σ.n+1) Y (ι σ.n) w:=(p.eH.amS X).mono λb X=>⟨X.2,aM⟩;have C:∀b,iD σ ((O.i,σ.n,Y)::L) listed b->iD (σ.push Y) L listed b:=by
   rintro b (h|⟨e,he,U,h⟩)
   ·exact .inl<|Nat.lt_succ_of_lt h
   ·rcases List.mem_cons.1 he with rfl|he
    ·left;simp only at h;rw[<-h];exact Nat.lt_succ_self _
    ·exact .inr ⟨e,he,U,h⟩
  refine⟨_,_,_,Q next (I.eH.JK a p.yz) (I.ext.JK p.aN) C (Nat.le_succ _) (λe he U=>?_) λe he=>List.mem_cons_of_mem _ he⟩;have q:=I.p9 e (List.mem_cons_of_mem _ he) U;refine⟨q.eH.mono λb X=>⟨C b X,aM⟩,q.dI,q.aN,λb X D=>?_⟩;simp only[St.push]at X;by_cases d:b=σ.n
  ·subst d;have z:σ.n<e.2.1:=(List.pairwise_cons.1 I.tr.xC.2).1 e he;exact I.fJ (O.i,σ.n,Y) e List.mem_cons_self (List.mem_cons_of_mem _ he) G U<|Nat.ne_of_lt z
  ·have y:b<σ.n:=aW;rw[eP y]at D;exact q.yz b y D
end
end
section
variable[Lo]
section
variable{V:cI}{listed:Array Bool}{rest:List cM}{seen:List Nat}{s:St}{old:List St}{T:List AV}{ds:List bT}{bp:bM}{σ:St}{al:List jC}
 {ι:Nat->bf}{w:World}{M:Array Value}
structure cI.OK(V:cI):Prop where
 F:fu V.D V.P
 call:zT V.D V.P V.call
 round:Af V.D V.P V.round
 kind:V.b.kind=V.X.kind
 isRound:V.b.roundOf=ae↔V.isRound=ab
 BC:r7 V.ops (l5 V.ops)=aa
def fC.cB{O:cM}(I:fC V listed (O::rest) seen s old T ds bp σ al ι w M)(K:V.OK)(d0:O.cB=aa)(u0:O.i∈Region.ready .any V.ops listed)
 (q:aK)(k:List Item):
 ∃T' Z A σ' ι' w' G0,Steps V.P (qV V (O.i::q) k ι ds bp w M) (qV V q k ι' Z A w' G0)/\
  fC V (listed.setIfInBounds O.i aa) rest (O.i::seen) σ' (s::old) T' Z A σ' al ι' w' G0:=by
 have H0:=K.BC;have w0:=(sf u0 I.sz).1;have x0:O.i<listed.size:=by rw[I.sz];exact w0
 have c:=λj=>r5 (listed:=listed) (i:=O.i) x0 j;have⟨⟨o0,S0⟩,e0⟩:=vf I.fL;have W:=Kn I.fL;have y0:∀x,x∈rest->x.i≠O.i:=W.1;have F:∀{o:Oper},V.ops[O.i]?=ad o->Pg V σ al listed ι M o T:=λB=>I.DW H0 List.mem_cons_self u0 B λt I0=>I.tr.qu.2 t<|(W.2.1 _ B).1 t I0
 have z:∀{T':aD} {Z:aJ} {A:bM} {σ':St} {ι':aI} {w':World} {v:AV} {o:Oper} (_:V.ops[O.i]?=ad o)
  (_:Tr V.D V.call V.round V.isRound V.ops V.Te V.fo V.fq V.fj rest (σ'::s::old) T' Z A σ' al) (_:T'=cu T o.dst v)
  (_:bz V.D ι' σ' w') (_:cj V.zQ V.σ0 V.w0 ι' σ' w') (_:∀b,iD σ al listed b->iD σ' al (listed.setIfInBounds O.i aa) b/\ ι' b=ι b)
  (_:bB ι' (iD σ' al<|listed.setIfInBounds O.i aa) v)
  (_:∀e,e∈al->eD listed e.1=aa->FD σ' al (listed.setIfInBounds O.i aa) ι' w' V.w0.heap.size e)
  (_:∀e,e∈al->ι' e.2.1=ι e.2.1) (_:V.X.A6 A) (_:sX ι' (·<σ'.n) Z) (_:uc ι' (·<σ'.n) A),
  fC V (listed.setIfInBounds O.i aa) rest (O.i::seen) σ' (s::old) T' Z A σ' al ι' w' (dX M o.dst<|aQ ι' v):=by
  intro T' Z A σ' ι' w' v o B g z0 f0 g0 h0 D U l Q a u;have n:∀e,e∈al->eD (listed.setIfInBounds O.i aa) e.1=aa->eD listed e.1=aa:=λe f h=>by
   have⟨x,m,J0⟩:=(g.xC.1 e f).2
   grind
  exact{tr:=g,fL:=e0,
        u6:=by have:=I.u6;simp only[List.filter_cons,d0,if_true,List.map_cons]at this;exact aeO this,
        sz:=by simpa using I.sz,cl:=I.cl.set H0 I.sz u0,
        uK:=λj A0=>by
         rw[c]
         rcases List.mem_cons.1 A0 with rfl|A0
         ·simp
         ·rw[I.uK j A0];rfl,
        vk:=λi K0=>by
         rcases I.vk i K0 with h|⟨x,m,rfl⟩
         ·simp_all
         ·grind,
        un:=λx m B0=>by rw[c,I.un x (List.mem_cons_of_mem _ m) B0,Bool.false_or];simpa using y0 x m,
        eH:=f0,ext:=g0,tg:=by rw[<-I.tg];unfold dX;split<;>simp,
        val:=λt C0 E L0=>by
         by_cases t0:o.dst=ad t
         ·have i0:t<aA V.Te:=(List.getElem?_eq_some_iff.1 E).1;have d:=g.qu.2 t<|(W.2.1 _ B).2 t t0;have j0:aA T=aA V.Te:=I.tr.qu.1;rw[z0,t0,Xs<|by rw[j0];exact i0,E]at d;cases d;refine⟨?_,D⟩;rw[t0];simp only[dX];rw[Array.getElem?_setIfInBounds_self_of_lt<|by rw[I.tg];exact i0]
         ·have d:=I.val t C0 E λx m M0 k0=>by
           rcases List.mem_cons.1 m with rfl|m
           ·rw[KE B]at k0;exact t0 k0
           ·simp_all
          refine⟨?_,sY h0 C0 d.2⟩;have N0:(dX M o.dst<|aQ ι' v)[t]?=M[t]?:=by
           unfold dX
           grind
          rw[N0,d.1,nY (λb P=>(h0 b P).2) C0 d.2],
        p9:=λe f h=>U e f<|n e f h,
        fJ:=λe D0 f G h O0 l0=>by rw[l e f,l D0 G];exact I.fJ e D0 f G (n e f h) (n D0 G O0) l0,
        kY:=Q,ds:=a,bp:=u}
 have g:=I.tr
 cases g with
 |@skip _ _ _ _ _ _ _ _ o B c0 next=>
  rw[d0]at next
  have L:=F B;have C:∀b,iD σ al listed b->iD σ al (listed.setIfInBounds O.i aa) b:=by
   rintro b (h|⟨e,f,Y,h⟩)
   ·exact .inl h
   ·exact .inr ⟨e,f,by rw[c,Y];rfl,h⟩
  refine⟨_,_,_,_,ι,w,dX M o.dst<|aQ ι .undef,.one ?_,z B next rfl I.eH I.ext (λb P=>⟨C b P,aM⟩) (ud _ _) (λe f Y=>?_) (λ_ _=>rfl) I.kY I.ds I.bp⟩
  ·rw[C'];exact NO (by simp[B,L.wanted,c0]) B
  ·have p:=I.p9 e f Y;exact⟨p.eH.mono λb P=>⟨C b P,aM⟩,p.dI,p.aN,p.yz⟩
 |@cB _ _ _ _ _ _ _ _ o v0 Z A σ' B c0 _ P m0 P0 next=>
  have L:=F B;have D:∀x,x∈o.op.operands->bB ι (·<σ.n) (dV V.D T x):=λx m=>y_ (λb P=>P.2)<|LR _ (L.bB x m)<|P x m;have⟨a0,Q0,w1,h2,R1,E1⟩:=Yq K.F K.call K.round K.kind K.isRound I.eH B (by rw[L.wanted,c0]) L.ev D I.ds I.bp I.kY m0 (rest:=q) (k:=k) (X:=V.X) (b:=V.b) (ops:=V.ops);generalize n0:nb.go (cu T o.dst v0) Z A σ'=r at h2
  cases h2 with
  |panic J E0=>cases n0
  |@go _ _ _ v _ _ J E0 a u Q=>
   simp only[nb.go.injEq]at n0;obtain⟨p0,rfl,rfl,rfl⟩:=n0;have R0:∀e,e∈al->σ'.n<=e.2.1:=λe f=>(next.xC.1 e f).1
   let y:aI:=λb=>if b<σ'.n then a0 b else ι b
   have N:∀b,b<σ'.n->y b=a0 b:=λb P=>by simp[y,P]
   have q0:∀b,b<σ'.n->b<σ'.n/\ y b=a0 b:=λb P=>⟨P,N b P⟩;have l:∀e,e∈al->y e.2.1=ι e.2.1:=λe f=>by grind
   have h0:∀b,iD σ al listed b->iD σ' al (listed.setIfInBounds O.i aa) b/\ y b=ι b:=by
    rintro b (h|⟨e,f,Y,rfl⟩)
    ·have r0:b<σ'.n:=Nat.lt_of_lt_of_le h P0;exact⟨.inl r0,(N b r0).trans<|E1.er b h⟩
    ·exact⟨.inr ⟨e,f,by rw[c,Y];rfl,rfl⟩,l e f⟩
   have E2:=(I.ext.trans E1).DF N;refine⟨_,_,_,_,y,w1,dX M o.dst<|aQ y v,?_,z B next p0 (R1.DF N) E2 h0 (sY (λb P=>⟨.inl P,N b P⟩) v E0) (λe f Y=>?_) l Q (ub q0 a) (vC q0 _ u)⟩
   ·unfold qV;rw[vh N a,V.X.er N u,nY N v E0];exact J
   ·have p:=I.p9 e f Y;have s0:(ι e.2.1).block<w.heap.size:=p.eH.lt<|QT p.dI;refine⟨?_,p.dI,?_,λb P n0=>?_⟩
    ·rw[l e f];exact(p.eH.mono h0).congr<|E1.frame _ s0 λb P F0=>p.yz b P<|AO.ug F0
    ·rw[l e f];exact p.aN
    ·rw[l e f,N b P]
     rcases E1.bh b P n0 with h|⟨b0,d,h2,_,h3⟩
     ·omega
     ·rw[<-h3];exact p.yz b0 d h2
 |pure B c0 S=>rw[d0]at S;cases S
 |je B c0 S=>rw[d0]at S;cases S
 |alloc B c0 S=>rw[d0]at S;cases S
end
end
section
variable[Lo]
def zV(ops:Array Oper):Array Bool->List Nat->Prop
 |listed,[]=>Region.ready .any ops listed=[]
 |listed,i::o=>i∈Region.ready .any ops listed/\ zV ops (listed.setIfInBounds i aa) o
omit [Lo]in
def aee{p q:Nat->Bool}{i:Nat}(O:p i=aa)(u:q i=ab):∀{l:aK},(∀x,x∈l->q x=aa->p x=aa)->i∈l->l.countP q<l.countP p:=by
 intro l
 induction l with
 |nil=>intro _ G;simp at G
 |cons x l I=>
  intro h G;have o:l.countP q<=l.countP p:=List.countP_mono_left λy Q=>h y<|dR _ Q;simp only[List.countP_cons];by_cases m:i=x;subst m;simp[O,u];omega
  grind
omit [Lo]in
def ahk{ops:aG}:∀(a t:Nat) (listed:Array Bool),listed.size=ops.size->(ao ops.size).countP (λi=>!eD listed i)<=a->
 zV ops listed (Region.linearise.go .any ops a t listed []):=by
 intro a
 induction a with
 |zero=>
  intro t listed c Q;show Region.ready .any ops listed=[]
  cases r:Region.ready .any ops listed with
  |nil=>rfl
  |cons x y=>
   have m:x∈Region.ready .any ops listed:=by rw[r];exact ei
   have:=sf m c;have b:=List.countP_eq_zero.1 (Nat.le_zero.1 Q) x<|lS.2 this.1;rw[this.2]at b;simp at b
 |succ a I=>
  intro t listed c Q;simp only[Region.linearise.go]
  change zV ops listed (match(Region.ready .any ops listed)[t %aA (Region.ready .any ops listed)]? with
   |some i=>Region.linearise.go .any ops a (t/aA (Region.ready .any ops listed)) (listed.setIfInBounds i aa) [i]
   |none=>[].reverse)
  cases G:(Region.ready .any ops listed)[t %aA (Region.ready .any ops listed)]? with
  |none=>
   show Region.ready .any ops listed=[]
   cases r:Region.ready .any ops listed with
   |nil=>rfl
   |cons x y=>rw[r]at G;have O:t %aA (x::y)<aA (x::y):=z7 _ aY;simp at G;simp at O;omega
  |some i=>
   simp only[];rw[linearise_go_acc,List.reverse_singleton,tG];have Y:=nO G;have S:=sf Y c;refine⟨Y,I _ _ (by simpa using c) ?_⟩;have B:=λj=>r5 (listed:=listed) (i:=i) (by rw[c];exact S.1) j;have:=aee (p:=λj=>!eD listed j) (q:=λj=>!eD (listed.setIfInBounds i aa) j) (i:=i) (by simp[S.2]) (by simp[B]) (l:=ao ops.size)
    (λx _ m=>by simp only[B]at m;simp at m|-;exact m.1) (lS.2 S.1)
   omega
section
variable{V:cI}{listed:Array Bool}{rest:List cM}{seen:List Nat}{s:St}{old:List St}{T:List AV}{ds:List bT}{bp:bM}{σ:St}{al:List jC}
 {ι:Nat->bf}{w:World}{M:Array Value}
def fC.lo(I:fC V listed rest seen s old T ds bp σ al ι w M)(Y:r7 V.ops (l5 V.ops)=aa){O:cM}(n:O∈rest)
 (p:O.i∈Region.ready .any V.ops listed):O.lo<=aA old:=by
 have⟨o,d,f,J⟩:=AB I.fL O n
 rcases J.lo with h|⟨a,b,e⟩
 omega
 rcases Jx (aA old) O.lo with h|h
 have r:a∈V.gp.drop (aA old):=by
  refine nO (i:=O.lo-1-aA old) ?_
  grind
 rw[<-I.u6,fv]at r;obtain⟨x,m,rfl⟩:=r;rw[List.mem_filter]at m;have⟨N,_,_,C⟩:=AB I.fL x m.1;have A:x.i<V.ops.size:=(qm.1 C.ho).1;have:=BP Y I.cl I.sz p A e;rw[I.un x m.1 m.2]at this;cases this;exact h
def fC.abZ(c:r7 V.ops (l5 V.ops)=aa){i:Nat}(r:i∈Region.ready .any V.ops listed):∀(rest:List cM) {seen:aK} {T:aD} {σ:St} {al:List jC},
 fC V listed rest seen s old T ds bp σ al ι w M->oX rest=ad i->
 ∃O L d T' σ' S,O.i=i/\ O.cB=aa/\ fC V listed (O::L) d s old T' ds bp σ' S ι w M:=by
 intro rest
 induction rest with
 |nil=>intro seen T σ al _ h;simp[oX]at h
 |cons x rest k=>
  intro seen T σ al I h
  cases m:x.cB with
  |true=>simp only[oX,m,dj,pD]at h;exact⟨x,rest,seen,T,σ,al,h,m,I⟩
  |false=>
   have Y:oX rest=ad i:=by simpa[oX,m]using h
   have⟨⟨o,J⟩,_⟩:=vf I.fL;have A:x.i<V.ops.size:=(qm.1 J.ho).1;have⟨T',σ',S,y⟩:=I.JM m<|BP c I.cl I.sz r A<|J.first i Y;exact k y Y
def fC.abX(r:Region.ready .any V.ops listed=[]):∀(rest:List cM) {seen:aK} {T:aD} {σ:St} {al:List jC},
 fC V listed rest seen s old T ds bp σ al ι w M->∃d T' σ' L,fC V listed [] d s old T' ds bp σ' L ι w M:=by
 intro rest
 induction rest with
 |nil=>intro seen T σ al I;exact⟨seen,T,σ,al,I⟩
 |cons x rest k=>
  intro seen T σ al I;have⟨⟨o,J⟩,_⟩:=vf I.fL;have A:x.i<V.ops.size:=(qm.1 J.ho).1;have l:eD listed x.i=aa:=by
   cases l:eD listed x.i with
   |true=>rfl
   |false=>
    have:x.i∈Region.ready .any V.ops listed:=by
     refine Mv.2 ⟨?_,o,J.ho,λe f X=>I.uK _<|J.top e f X⟩;have O:x.i<listed.size:=by rw[I.sz];exact A
     unfold eD at l;exact at6
    rw[r]at this;simp at this
  have m:x.cB=ab:=av9;have⟨T',σ',L,y⟩:=I.JM m l;exact k y
def fC.dC(I:fC V listed [] seen s old T ds bp σ al ι w M)(k:List Item):
 qV V [] k ι ds bp w M=g' V.X V.b ι V.Te V.fo V.fq (.inRegion V.ops []::k) w/\ bz V.D ι V.fj w/\ cj V.zQ V.σ0 V.w0 ι V.fj w/\ ll ι (·<V.fj.n) V.X V.Te V.fo V.fq:=by
 have g:=I.tr;generalize B:s::old=X at g;generalize O:([]:List cM)=p at g
 cases g with
 |nil=>
  have W:∀t v,V.Te[t]?=ad v->M[t]?=ad (aQ ι v)/\ bB ι (·<V.fj.n) v:=λt v Y=>by have:=I.val t v Y aY;exact⟨this.1,y_ (λb P=>by rcases P with h|⟨e,f,_⟩;exact h;simp at f) this.2⟩
  refine⟨?_,I.eH,I.ext,I.kY,jF.2 λv Y=>?_,I.ds,I.bp⟩;unfold qV g';have:M=(bb ι V.Te).toArray:=by
   apply Ff;intro t;simp only[pA,rJ]
   cases Y:V.Te[t]? with
   |some v=>rw[(W t v Y).1];rfl
   |none=>rw[List.getElem?_eq_none_iff]at Y;exact I7 (by rw[I.tg];exact Y)
  rw[this];obtain⟨t,D,rfl⟩:=zZ Y;exact(W t _<|cx D).2
 |skip=>cases O
 |cB=>cases O
 |pure=>cases O
 |je=>cases O
 |alloc=>cases O
def fC.all(I:fC V listed [] seen s old T ds bp σ al ι w M):∀i,i<V.m->eD listed i=aa:=λi G=>by
 rcases I.vk i G with h|⟨O,n,_⟩
 exact I.uK i h;simp at n
def fC.abY(y:∀i,i<V.m->eD listed i=aa):∀(rest:List cM) {seen:aK} {T:aD} {σ:St} {al:List jC},
 fC V listed rest seen s old T ds bp σ al ι w M->∃d T' σ' L,fC V listed [] d s old T' ds bp σ' L ι w M:=by
 intro rest
 induction rest with
 |nil=>intro seen T σ al I;exact⟨seen,T,σ,al,I⟩
 |cons x rest k=>intro seen T σ al I;have⟨⟨o,J⟩,_⟩:=vf I.fL;have l:eD listed x.i=aa:=y x.i J.lt;have m:x.cB=ab:=av9;have⟨T',σ',L,a⟩:=I.JM m l;exact k a
def fC.kG(I:fC V listed [] seen s old T ds bp σ al ι w M)(o:aK)(k:List Item):
 qV V o k ι ds bp w M=g' V.X V.b ι V.Te V.fo V.fq (.inRegion V.ops o::k) w:=by
 have h:=(I.dC k).1;simp only[qV,g']at h|-;have a:M=(bb ι V.Te).toArray/\ ds.map (el ι)=V.fo.map (el ι)/\ V.X.cs ι bp=V.X.cs ι V.fq:=by have d:=np (λm:Machine=>m.gs) h;simp only[lone]at d;have A:=np (λg:Array Goroutine=>g[0]?) d;simp only[pA,List.getElem?_cons_zero,pD,Goroutine.mk.injEq,on,Frame.mk.injEq]at A;exact at6
 exact at6
def aeN(K:V.OK)(_:V.m<=V.ops.size)(e:∀i j,i<V.m->V.m<=j->j<V.ops.size->k5 (l5 V.ops) i j=aa)(k:List Item):∀(S:aK) (listed:Array Bool),zV V.ops listed S->
 (∀i,V.m<=i->eD listed i=ab)->
 ∀{rest:List cM} {seen:aK} {old:List St} {T:aD} {ds:aJ} {bp:bM} {σ:St} {al:List jC} {ι:aI} {w:World} {M:Array Value},
 fC V listed rest seen σ old T ds bp σ al ι w M->
 ∃f L ι' w',Steps V.P (qV V S k ι ds bp w M) (g' V.X V.b ι' V.Te V.fo V.fq (.inRegion V.ops f::k) w')/\
  zV V.ops L f/\ L.size=V.ops.size/\ (∀i,i<V.m->eD L i=aa)/\ (∀i,V.m<=i->eD L i=ab)/\
  bz V.D ι' V.fj w'/\ cj V.zQ V.σ0 V.w0 ι' V.fj w'/\ ll ι' (·<V.fj.n) V.X V.Te V.fo V.fq:=by
 intro S
 induction S with
 |nil=>intro listed B W rest seen old T ds bp σ al ι w M I;have⟨d,Z,z,g,y⟩:=fC.abX B rest I;exact⟨[],listed,ι,w,y.kG [] k▸FI _ _,B,y.sz,y.all,W,(y.dC k).2⟩
 |cons i S G=>
  intro listed B W rest seen old T ds bp σ al ι w M I;have⟨r,Y⟩:=B;have c:=sf r I.sz;by_cases m:V.m<=i;have q:∀j,j<V.m->eD listed j=aa:=λj u=>BP K.BC I.cl I.sz r aW<|e j i u m c.1;have⟨d,Z,z,g,y⟩:=fC.abY q rest I;exact⟨i::S,listed,ι,w,y.kG (i::S) k▸FI _ _,⟨r,Y⟩,y.sz,q,W,(y.dC k).2⟩;have F:∀j,V.m<=j->eD (listed.setIfInBounds i aa) j=ab:=λj u=>by
   rw[r5<|by rw[I.sz];exact c.1,W j u]
   grind
  have n:∃O,O∈rest/\ O.i=i:=(I.vk i aW).resolve_left λh=>by rw[I.uK i h]at c;simp at c
  obtain⟨O,n,rfl⟩:=n
  cases b:O.cB with
  |false=>have⟨ι',w',f0,l,y⟩:=I.early K.F K.BC n r b (I.lo K.BC n r) S k;have⟨a,t,A,N,E,X⟩:=G _ Y F y;exact⟨a,t,A,N,Steps.trans l E,X⟩
  |true=>
   have a0:oX rest=ad O.i:=by
    rcases adM b I.fL n with h|⟨p,J,C,b0⟩
    exact h;have⟨o,_,_,c0⟩:=AB I.fL p J;have:=BP K.BC I.cl I.sz r (qm.1 c0.ho).1 b0;rw[I.un p J C]at this;cases this
   have⟨x,P,d,Z,z,g,v,U,y⟩:=fC.abZ K.BC r rest I a0;rw[<-v]at r Y F|-;have⟨T2,d0,Q,e0,A,N,M2,l,I2⟩:=y.cB K U r S k;have⟨a,t,D,w3,X,h4⟩:=G _ Y F I2;exact⟨a,t,D,w3,Steps.trans l X,h4⟩
end
end
section
variable[Lo]
section
variable{m:Nat}
def Pj(m:Nat)(listed:Array Bool)(a:Nat):Prop:=∀i,m<=i->a.testBit i=eD listed i
omit [Lo]in
def XM{listed:Array Bool}{a:Nat}(y:∀i,i<m->eD listed i=aa)(Y:Pj m listed a):
 ∀l:List Edge,zA m a l=aa->∀e,e∈l->Region.binds .any e=aa->eD listed e.on=aa
 |B::l,h,e,he,X=>by
  unfold zA at h
  rcases dz.1 he with rfl|he
  rw[X]at h;simp only[a8]at h;rw[CS]at h;by_cases V:e.on<m;exact y _ V;simp only[V,AN,br]at h;rw[Au]at h
  cases p:a.testBit e.on with
  |false=>rw[p]at h;cases h
  |true=>rw[<-Y e.on (z6 V),p]
  have D:zA m a l=aa:=by grind
  exact XM y Y l D e he X
end
end
section
variable[Lo]
omit [Lo]in
def acP{a b:AO}(h:Kb a b=aa):a=b:=by cases a<;>cases b<;>simp only[Kb,bW,nj,fR]at h;have⟨⟨⟨V,p⟩,d⟩,A⟩:=h;rw[sJ _ _ A,V,p,d];rfl
omit [Lo]in
def QA:∀{a b:List AO},tK a b=aa->a=b
 |[],[],_=>rfl
 |[],_::_,h=>by simp[tK]at h
 |_::_,[],h=>by simp[tK]at h
 |x::S,y::V,h=>by simp only[tK,bW]at h;rw[acP h.1,QA h.2]
section
variable{D:a_}{P:Program}
inductive Jb(P:Program)(X:gV)(b:Frame)(k:List Item)(m:Machine):nb->(Nat->bf)->St->World->Prop
 |go {ι':Nat->bf} {σ':St} {w':World} {T:List AV} {ds:List bT} {bp:bM}
   (steps:Steps P m<|g' X b ι' T ds bp k w') (bB:ll ι' (·<σ'.n) X T ds bp):
   Jb P X b k m (.go T ds bp σ') ι' σ' w'
 |panic {ι':Nat->bf} {σ':St} {w':World} {T:List AV} {ds:List bT} {bp:bM} {v:AV} (todo:List Item)
   (steps:Steps P m<|DY X b ι' T ds bp todo v w') (bB:ll ι' (·<σ'.n) X T ds bp) (hv:Dt.bB ι' (·<σ'.n) v):
   Jb P X b k m (.panic v T ds bp σ') ι' σ' w'
omit [Lo]in
def apc{b:Frame}{M:Array Value}{ds:List Deferred}{id:Nat}{ops:aG}{k:List Item}{cs:List Frame}{w:World}:
 step P (lone (on b M ds<|.code (.region id ops ab)::k) cs w)=.next (lone (on b M ds<|.inRegion ops (ao ops.size)::k) cs w):=
 step_lone_go aue
omit [Lo]in
def ao4{b:Frame}{M:Array Value}{ds:List Deferred}{id:Nat}{ops:aG}{k:List Item}{cs:List Frame}{w:World}:
 step P (lone (on b M ds<|.code (.region id ops aa)::k) cs w)=
  .next (lone (on b M ds<|.inRegion ops (Region.schedule (P.follows .mixedOrders) ops<|w.tape w.drawn<|.order b.fn id)::k) cs {w with drawn:=w.drawn+1}):=
 step_lone_go (by simp[stepG,stepG.exec,on,choose,Sem.run,Question.forced,Question.cut])
omit [Lo]in
def NN{b:Frame}{M:Array Value}{ds:List Deferred}{ops:aG}{k:List Item}{cs:List Frame}{w:World}:
 step P (lone (on b M ds<|.inRegion ops []::k) cs w)=.next (lone (on b M ds k) cs w):=
 step_lone_go aue
def amL(F:fu D P){call:iZ}{round:i6}(i0:zT D P call)(j0:Af D P round){isRound:Bool}{X:gV}{b:Frame}(k0:b.kind=X.kind)
 (O:b.roundOf=ae↔isRound=ab){ι:aI}{σ:St}{w:World}{T:aD}{ds:aJ}{bp:bM}{r:nb}{id:Nat}{ops:aG}{E:Bool}{k:List Item}
 (R:bz D ι σ w)(I:ll ι (·<σ.n) X T ds bp)(h:q7 D call round isRound ops E T ds bp σ=.ok r):
 ∃ι' σ' w',Jb P X b k (g' X b ι T ds bp (.code (.region id ops E)::k) w) r ι' σ' w'/\ bz D ι' σ' w'/\ cj ι σ w ι' σ' w':=by
 unfold q7 at h
 cases E with
 |false=>
  simp only[fR,ff]at h;have l0:ao ops.size=List.range' 0 (aA ops.toList):=by rw[abu];simp
  have⟨ι',σ',w',h1,f0,g0⟩:=Yr F i0 j0 k0 O (k:=k) ops.toList 0 aM R I h;refine⟨ι',σ',w',?_,f0,g0⟩;have h0:Steps P (g' X b ι T ds bp (.code (.region id ops ab)::k) w) (g' X b ι T ds bp (.inRegion ops (List.range' 0<|aA ops.toList)::k) w):=by rw[<-l0];exact .one apc
  cases h1 with
  |go s i=>exact .go (Steps.trans (Steps.trans h0 s)<|.one NN) i
  |panic t s i y=>exact .panic t (Steps.trans h0 s) i y
 |true=>
  simp only[dj]at h;split at h;rename_i Q;simp only[bK]at h;have⟨r0,L,h⟩:=h;obtain⟨Te,fo,fq,fj,y0,rfl,n⟩:=ang _ L;simp only[Gn,bW]at Q;have⟨⟨⟨B,N⟩,z⟩,q⟩:=Q;have z0:=ajJ ops;have m0:D.cut ops<=ops.size:=Cs B;have H0:({w with drawn:=w.drawn+1}:World)=w.drew:=rfl
  let V:cI:={D,P,call,round,isRound,X,b,ops,m:=D.cut ops,gp:=((sd ops<|D.cut ops).filter (·.cB)).map (·.i),Te,fo,fq,fj,zQ:=ι,σ0:=σ,w0:=w}
  have K:V.OK:=⟨F,i0,j0,k0,O,z0⟩;have d:∀i j,i<V.m->V.m<=j->j<V.ops.size->k5 (l5 V.ops) i j=aa:=λi j p J0 n0=>by
   simp only[JO,xi,kt,lS,iB]at N
   rcases N i p j n0 with h1|h1
   rw[CS]at h1
   grind
   exact h1
  have U:zV ops (Array.replicate ops.size ab) (Region.schedule (P.follows .mixedOrders) ops<|w.tape w.drawn<|.order b.fn id):=by simp only[Region.schedule,F.mixed,rm,dj,Region.linearise];refine ahk _ _ _ aY ?_;exact jS (List.countP_le_length) aY
  have W:∀i,eD (Array.replicate ops.size ab) i=ab:=λi=>by unfold eD;simp only[OG,Array.getElem?_replicate];split<;>rfl
  have I0:fC V (Array.replicate ops.size ab) (sd ops<|D.cut ops) [] σ [] T ds bp σ y0 ι w.drew (bb ι T).toArray:=
   {tr:=n,fL:=z,u6:=by simp[V],sz:=by simp[V],cl:=λi j _ l=>(by rw[W]at l;cases l),uK:=aY,
    vk:=λi p=>by right;simp only[kt,lS,mD,nj]at q;exact q i p,
    un:=λ_ _ _=>W _,eH:=R.drew,ext:=cj.drew _ _ _,tg:=(by have:=n.qu.1;simp[V,this]),
    val:=λt v y A0=>by
     have o0:oG ops (sd ops<|D.cut ops) t=ab:=by
      simp only[oG,py]
      grind
     have a0:T[t]?=ad v:=(n.qu.2 t o0).trans y;refine⟨by simp[a0],y_ (λb B0=>.inl B0)<|rT I.T a0⟩,
    p9:=λ_ _ l=>(by rw[W]at l;cases l),fJ:=λ_ _ _ _ l=>(by rw[W]at l;cases l),
    kY:=I.kY,ds:=I.ds,bp:=I.bp}
  have⟨o2,l2,ι',w',C0,C,c,A,g,f0,g0,x0⟩:=aeN K m0 d k _ _ U (λi _=>W i) I0;have Z:=Steps.trans (.one<|ao4 (P:=P) (b:=b) (M:=(bb ι T).toArray) (ds:=ds.map<|el ι) (id:=id) (ops:=ops) (k:=k) (cs:=X.cs ι bp) (w:=w)) C0;by_cases G:ops.size=D.cut ops+1;simp only[G,dj]at h;split at h;rename_i a;have b0:Pj (D.cut ops) l2 0:=λi p=>by rw[g i p];simp
  have Y:D.cut ops<ops.size:=aW;unfold rG at a;have p0:nV 0 (D.cut ops)=ab:=by rw[Au];simp
  rw[p0]at a;simp only[br]at a;split at a;rename_i o D0;have x:D.cut ops∈Region.ready .any ops l2:=by
   refine Mv.2 ⟨?_,o,D0,λe E0 q0=>XM A b0 _ a e (by simpa using E0) q0⟩;have s0:=g (D.cut ops)<|bu _;have F0:D.cut ops<l2.size:=by rw[c];exact Y
   unfold eD at s0;exact at6
  have J:o2=[D.cut ops]:=by
   cases o2 with
   |nil=>rw[C]at x;simp at x
   |cons i o3=>
    have⟨l0,f⟩:=C;have S:=sf l0 c;have p:i=D.cut ops:=by grind
    subst p
    cases o3 with
    |nil=>rfl
    |cons j o3=>
     exfalso;have c0:=sf f.1 (by simpa using c);rw[r5<|by rw[c];exact Y]at c0;have⟨G0,d0⟩:=c0
     rcases Jx j (D.cut ops)with h1|h1
     rw[A j h1]at d0;simp at d0
     grind
  subst J;have e0:aA (ops.toList.drop<|D.cut ops)=1:=aul;have⟨t0,u0,w2,u,R2,E2⟩:=Yr F i0 j0 k0 O (k:=k) (ops.toList.drop<|D.cut ops) (D.cut ops) aM f0 x0 h;rw[e0]at u;refine⟨t0,u0,w2,?_,R2,g0.trans E2⟩
  cases u with
  |go s i=>exact .go (Steps.trans (Steps.trans Z s)<|.one NN) i
  |panic t s i y=>exact .panic t (Steps.trans Z s) i y
  cases a;exact avN;simp only[G,ff]at h;split at h;rename_i v0;cases h;have J:o2=[]:=by
   cases o2 with
   |nil=>rfl
   |cons i o2=>have S:=sf C.1 c;have h1:i<V.m:=dc S.1 v0;rw[A i h1]at S;simp at S
  subst J;exact⟨ι',fj,w',.go (Steps.trans Z<|.one NN) x0,f0,g0⟩;exact avN;exact auu
end
end
def MH:∀{l:aK},ti l=aa->l.Nodup
 |[],_=>Jq
 |x::l,h=>by simp only[ti,bW,nM,List.contains_eq_mem,cE]at h;exact Jp.2 ⟨h.1,MH h.2⟩
def xf{σ:St}{b:Nat}(h:σ.a7 b≠.c5):b<σ.n:=by unfold St.a7 at h;exact at6
def Ew{T:St}{f:AV->aK}(j:∀v s,s∈f v->T.a7 s≠.c5):∀l s,s∈kN f l->T.a7 s≠.c5
 |[],s,h=>by simp[kN]at h
 |x::l,s,h=>by
  simp only[kN,mF]at h
  rcases h with h|h
  exact j _ _ h;exact Ew j l s h
def H'(T:St):∀n v s,s∈fY T n v->T.a7 s≠.c5:=by
 intro n
 induction n with
 |zero=>intro v s h;simp[fY]at h
 |succ n I=>
  intro v s h
  cases v with
  |slice b o L U j=>
   simp only[fY]at h;split at h;rename_i V e C A X
   rcases dz.1 h with h1|h1
   subst h1;rw[X];simp;exact Ew I _ _ h1;exact auu
  |iface t v=>simp only[fY]at h;exact I _ _ h
  |agg l=>simp only[fY]at h;exact Ew I _ _ h
  |tuple l=>simp only[fY]at h;exact Ew I _ _ h
  |_=>simp[fY]at h
section
variable{D:a_}{ι ι':Nat->bf}{σ:St}{w:World}
def bz.JL(R:bz D ι σ w){o:AO}{L:bf}(B:jk (fc ι σ.n L) (·<σ.n+1) o L w)
 (s:∀b,b<σ.n->σ.a7 b≠.c5->((σ.a7 b).fG=aa\/ o.fG=aa)->(ι b).block≠L.block):
 bz D (fc ι σ.n L) (σ.push o) w where
 len:=by simp[St.push,R.len]
 ja:=yo R.ja
 jW:=λg G=>by rw[ez (by have:=R.ja;omega)];exact R.jW g G
 eS:=λb X=>by simp only[St.push]at X;by_cases e:b=σ.n;subst e;rw[kk,eg];exact B;have Q:b<σ.n:=aW;rw[eP Q,ez e];exact(R.eS b Q).mono ta
 fJ:=λb W X I C m G=>by
  simp only[St.push]at X I;by_cases e:b=σ.n;subst e;have Q:W<σ.n:=aW;rw[eP Q]at G;rw[kk]at m;rw[eg,ez aW]
  grind
  have Q:b<σ.n:=aW;rw[eP Q]at m;rw[ez e];by_cases y:W=σ.n;subst y;rw[eg];exact s b Q (AO.ug m)<|.inl m;have v:W<σ.n:=aW;rw[eP v]at G;rw[ez y];exact R.fJ b W Q v C m G
 mem:=R.mem
end
def Cz(U:Bool)(ι:Nat->bf)(Z:St)(o:Nat->bf)(p:List Nat):Prop:=
 match U with
 |aa=>∀s,s∈p->∀b,b<Z.n->Z.a7 b≠.c5->(ι b).block≠(o s).block
 |ab=>∀b,b<Z.n->(Z.a7 b).fG=ab
structure uQ(D:a_)(bh:Bool)(ιs:Nat->bf)(src:St)(w:World)(refs:List Nat)(ι:Nat->bf)(dst:St)(ι':Nat->bf)(dst':St):Prop where
 eH:bz D ι' dst' w
 n:dst.n<=dst'.n
 er:∀b,b<dst.n->ι' b=ι b
 old:∀b,b<dst.n->dst'.a7 b=dst.a7 b
 M:dst'.M=dst.M
 new:∀b,dst.n<=b->b<dst'.n->(dst'.a7 b).fG=bh/\ ∃s,s∈refs/\ (ι' b).block=(ιs s).block
 bh:bh=aa->∀s,s∈refs->(src.a7 s).fG=aa
def uQ.k{D:a_}{bh:Bool}{o ι ι':aI}{v Z t:St}{w:World}{p:aK}(h:uQ D bh o v w p ι Z ι' t):
 ∀b,b<Z.n->b<t.n/\ ι' b=ι b:=λb e=>⟨dc e h.n,h.er b e⟩
def ap7{cs l:aD}{o n:Nat}(h:fO cs o n=.ok l):l=(cs.drop o).take n/\ o+n<=aA cs\/ (l=(cs.drop o).take n/\ n=0):=by
 unfold fO at h
 grind
def OJ(D:a_)(U:Bool)(o:Nat->bf)(T:St)(w:World)(f:AV->St->R (AV×St))(k:AV->List Nat):Prop:=
 ∀v Z g t,f v Z=.ok (g,t)->∀ι,bz D ι Z w->bB o (·<T.n) v->(U=aa->(k v).Nodup)->Cz U ι Z o (k v)->
  ∃ι',uQ D U o T w (k v) ι Z ι' t/\ aQ ι' g=aQ o v/\ bB ι' (·<t.n) g
def uQ.refl{D:a_}{bh:Bool}{o ι:aI}{v Z:St}{w:World}(R:bz D ι Z w):uQ D bh o v w [] ι Z ι Z:=⟨R,bu _,λ_ _=>rfl,λ_ _=>rfl,aM,λb h a=>aW,aY⟩
def RA{D:a_}{U:Bool}{o:aI}{T:St}{w:World}(S:bz D o T w){f:AV->St->R (AV×St)}{k:AV->aK}(C:∀v s,s∈k v->T.a7 s≠.c5)
 (O:OJ D U o T w f k):∀l Z N t,qz f l Z=.ok (N,t)->∀ι,bz D ι Z w->b5 o (·<T.n) l->(U=aa->(kN k l).Nodup)->Cz U ι Z o (kN k l)->
   ∃ι',uQ D U o T w (kN k l) ι Z ι' t/\ bb ι' N=bb o l/\ b5 ι' (·<t.n) N:=by
 intro l
 induction l with
 |nil=>intro Z N t h ι R z r F;simp[qz]at h;obtain⟨rfl,rfl⟩:=h;exact⟨ι,uQ.refl R,aM,trivial⟩
 |cons x l Y=>
  intro Z N t h ι R z r F;simp only[qz,bK,eo,f']at h;obtain⟨⟨m,g⟩,h1,⟨l1,G⟩,h2,rfl,rfl⟩:=h;simp only[kN]at r F|-;have A:Cz U ι Z o (k x):=by
   cases U with
   |false=>exact F
   |true=>exact λs B=>F s<|O7 _ B
  have⟨I,P,W,n⟩:=O _ _ _ _ h1 ι R z.1 (λe=>(Cr.1<|r e).1) A;have c:Cz U I g o (kN k l):=by
   cases U with
   |false=>intro b X;by_cases Q:b<Z.n;rw[P.old b Q];exact F b Q;exact(P.new b (z6 Q) X).1
   |true=>intro s B b X E;by_cases Q:b<Z.n;rw[P.er b Q];rw[P.old b Q]at E;exact F s (O8 _ B) b Q E;have⟨_,j,i,a0⟩:=P.new b (z6 Q) X;rw[a0];have u:=P.bh aM j i;have L:j≠s:=(Cr.1<|r aM).2.2 j i s B;have V:=Ew C l s B;exact S.fJ j s (xf<|AO.ug u) (xf V) L u V
  have⟨y,q,J,p⟩:=Y _ _ _ h2 I P.eH z.2 (λe=>(Cr.1<|r e).2.1) c;refine⟨y,⟨q.eH,jS P.n q.n,λb X=>?_,λb X=>?_,q.M.trans P.M,λb Q a=>?_,λe s B=>?_⟩,?_,?_⟩;rw[q.er b<|dc X P.n];exact P.er b X;rw[q.old b<|dc X P.n];exact P.old b X;by_cases M:b<g.n;have⟨d,s,h4,h5⟩:=P.new b Q M;rw[q.old b M,q.er b M]
  grind
  have⟨d,s,h4,h5⟩:=q.new b (z6 M) a
  grind
  rcases mF.1 B with d|d
  exact P.bh e s d;exact q.bh e s d;simp only[bb,J];rw[<-W,nY q.er m n];exact⟨sY q.k m n,p⟩
def KA{D:a_}(U:Bool){J:aI}{T:St}{w:World}(r0:bz D J T w):∀n,OJ D U J T w (iQ U T n) (fY T n):=by
 intro n
 induction n with
 |zero=>intro v Z M0 P h;simp[iQ]at h
 |succ n D0=>
  intro v Z M0 P h ι R z r F;have C:∀{ι:aI} {Z:St},bz D ι Z w->uQ D U J T w [] ι Z ι Z:=λR=>uQ.refl R;have G:=RA r0 (H' T n) D0
  cases v with
  |aN v=>simp[iQ]at h;obtain⟨rfl,rfl⟩:=h;exact⟨ι,C R,by simp[aQ],trivial⟩
  |iface t v=>simp only[iQ,bK,eo,f']at h;obtain⟨⟨v1,X⟩,h,rfl,rfl⟩:=h;have⟨ι',Q,h1,p⟩:=D0 _ _ _ _ h ι R z (by simpa[fY]using r) (by simpa[fY]using F);exact⟨ι',by simpa[fY]using Q,by simp[aQ,h1],by simpa[bB]using p⟩
  |agg l=>simp only[iQ,bK,eo,f']at h;obtain⟨⟨v1,X⟩,h,rfl,rfl⟩:=h;have⟨ι',Q,h1,p⟩:=G _ _ _ _ h ι R z (by simpa[fY]using r) (by simpa[fY]using F);exact⟨ι',by simpa[fY]using Q,by simp[aQ,h1],by simpa[bB]using p⟩
  |tuple l=>simp only[iQ,bK,eo,f']at h;obtain⟨⟨v1,X⟩,h,rfl,rfl⟩:=h;have⟨ι',Q,h1,p⟩:=G _ _ _ _ h ι R z (by simpa[fY]using r) (by simpa[fY]using F);exact⟨ι',by simpa[fY]using Q,by simp[aQ,h1],by simpa[bB]using p⟩
  |func f a c=>
   cases f with
   |func g=>
    cases a with
    |nil=>
     cases c with
     |nil=>simp[iQ]at h;obtain⟨rfl,rfl⟩:=h;exact⟨ι,by simpa[fY]using C R,by simp[aQ,bb],by simp[bB,b5]⟩
     |cons=>simp[iQ]at h
    |cons=>simp[iQ]at h
   |_=>simp[iQ]at h
  |slice b o L I sz=>
   simp only[iQ]at h;split at h;rename_i O S E0 s0 a0;split at h;rename_i W;simp only[bK,eo,f']at h;obtain⟨l,b0,⟨F0,X⟩,t0,rfl,rfl⟩:=h;have c0:b<T.n:=xf (by rw[a0];simp);have G0:=r0.eS b c0;rw[a0]at G0;have⟨u0,N0,d0,O0,B,u,e0⟩:=G0;have v0:l=(O.drop o).take (L*sz):=by
    rcases ap7 b0 with h1|h1
    exact h1.1;exact h1.1
   have E:fY T (n+1) (.slice b o L I sz)=b::kN (fY T n) l:=by simp only[fY,a0,v0]
   rw[E]at r F;simp only[bW,iB,nM]at W;have f0:b5 J (·<T.n) l:=by rw[v0];exact GZ (LN u0 _) _
   have Y:Cz U ι Z J (kN (fY T n) l):=by
    cases U with
    |false=>exact F
    |true=>exact λs q=>F s<|dR _ q
   have⟨d,Q,V,N⟩:=G _ _ _ _ t0 ι R f0 (λe=>(Jp.1<|r e).2) Y;have w0:∃M,aQ J (.slice b o L I sz)=.slice (ad<|(J b).at o) L M/\ 0<sz/\ L<=M/\ (U=aa->(J b).shift+o+M*sz<=d0.size):=by
    cases I with
    |none=>
     have⟨_,h1,p,h3⟩:=z;refine⟨(J b).ls-o/(J b).sz,by simp only[aQ],p,by rw[h1];omega,λe=>?_⟩;have g0:o=0:=by have:=W.2;rw[e]at this;simpa[wS]using this
     have i0:E0=aa:=at6;have j0:s0=sz:=aW;have⟨_,h5,_⟩:=e0 i0;rw[h1];have h6:o=sz*(o/sz):=by rw[g0];simp
     have h7:o/sz<=(J b).ls:=aW;have h8:((J b).ls-o/sz)*sz+o=(J b).ls*sz:=by
      conv=>lhs;rhs;rw[h6]
      rw[Nat.sub_mul,Jz sz]
      grind
     rw[j0]at h5;omega
    |some c=>
     have j:=W.2;simp only[wS,bW,iB,nM,Jv,dh]at j;refine⟨c,by simp only[aQ],j.1.1,j.1.2,λe=>?_⟩;have h5:o+c*sz<=aA O:=by grind
     by_cases h0:aA O=0;exact at6;have h7:(aA O-1)<aA O:=aW;have h8:=u (aA O-1) _ (cx h7)
     grind
   have⟨M,x0,k0,H0,I0⟩:=w0;have P0:aA l=L*sz:=by unfold fO at b0;exact at6
   have q0:aA F0=aA l:=by have:=np aA V;simpa using this
   refine⟨fc d X.n ⟨(J b).block,(J b).shift+o,M,sz⟩,?_,?_,?_⟩;have l0:bz D (fc d X.n ⟨(J b).block,(J b).shift+o,M,sz⟩) (X.push<|.cells F0 S U sz) w:=by
    refine Q.eH.JL ⟨ju ta _ N,aM,d0,O0,B,λi v y0=>?_,λe=>?_⟩ λk m0 J0 hm=>?_;have K0:=(lQ.1 y0).1;have n0:=rT N y0;rw[nY (A:=(·<X.n)) (λx m=>ez<|yq m) v n0];have h1:(bb J l)[i]?=ad (aQ d v):=by rw[<-V,rJ,y0];rfl
    rw[rJ,v0,Co,b8 aW,O_]at h1
    grind
    subst e;have i0:E0=aa:=at6;have g0:o=0:=by
     have j:=W.2
     cases I with
     |none=>simpa[wS]using j
     |some c=>
      simp only[wS,bW,iB,nM,Nat.beq_eq_true_eq]at j
      rcases j.2 with h6|h6
      cases h6;exact at6
    exact at6
    cases U with
    |false=>
     rcases hm with hm|hm
     exfalso;by_cases y:k<Z.n;rw[Q.old k y,F k y]at hm;cases hm;rw[(Q.new k aW m0).1]at hm;cases hm;simp[AO.fG]at hm
    |true=>
     by_cases y:k<Z.n;rw[Q.er k y];rw[Q.old k y]at J0;exact F b aY k y J0;have⟨_,s,q,z0⟩:=Q.new k aW m0;rw[z0];have A0:s≠b:=by grind
     have o0:=Q.bh aM s q;exact r0.fJ s b (xf<|AO.ug o0) c0 A0 o0 (by rw[a0];simp)
   refine⟨l0,yo Q.n,λx m=>?_,λx m=>?_,Q.M,λx B0 C0=>?_,λe s q=>?_⟩;have:=Q.n;rw[ez aW];exact Q.er x m;rw[eP<|dc m Q.n];exact Q.old x m;simp only[St.push]at C0;rw[E];by_cases L0:x=X.n;subst L0;rw[kk,eg];exact⟨aM,b,aY,rfl⟩;have p0:x<X.n:=aW;rw[eP p0,ez L0];have⟨h1,s,p,h3⟩:=Q.new x B0 p0
   grind
   rw[E]at q
   rcases dz.1 q with h1|h1
   subst h1;rw[a0]
   rcases W.1 with j|j
   rw[e]at j;cases j;exact j.1;exact Q.bh e s h1;rw[x0];simp only[aQ,eg,bf.at,wG,Nat.zero_div,yr];refine⟨nR _,by rw[eg],k0,?_⟩;rw[eg];exact at6;exact at5;exact auu
  |_=>simp[iQ]at h
inductive fQ where
 |code (c:Code)
 |inBlock (id:Nat)
 |inLoop (body:Code)
 |inScope (body:Code)
 |beginRound
structure hX where
 fn:FuncId
 T:List AV
 todo:List fQ
 defers:List bT
 round:Option Nat
def exitTo(id:Nat):List fQ->Option (List fQ)
 |.inBlock B::k=>if B==id then ad k else exitTo id k
 |_::k=>exitTo id k
 |[]=>ae
def gotoIn(l:Nat):List fQ->Option (List fQ)
 |.inScope G::k=>
  match findLabel G l with
  |ad rest=>ad<|.code rest::.inScope G::k
  |ae=>gotoIn l k
 |_::k=>gotoIn l k
 |[]=>ae
def q6(D:a_)(σ:St)(T:List AV):List ResultVar->R (List AV)
 |[]=>.ok []
 |.tmp t::l=>do
  let r<-q6 D σ T l
  return T.getD t .undef::r
 |.cell a t::l=>do
  let v<-jw D σ t (T.getD a .undef)
  let r<-q6 D σ T l
  return v::r
def Ey(D:a_)(σ:St)(f:FuncId)(T:List AV):R AV:=
 match D.func f with
 |ad fn=>do
  let q<-q6 D σ T fn.results.toList
  match q with
  |[v]=>return v
  |q=>return .tuple q
 |ae=>.error ""
def gF:Nat->List AV
 |0=>[]
 |n+1=>.undef::gF n
def pP(D:a_)(f:FuncId)(args:List AV):R hX:=
 match D.func f with
 |ad fn=>match fn.body with
  |ad c=>.ok {fn:=f,T:=args++gF (fn.ntmps-aA args),todo:=[.code c],defers:=[],round:=ae}
  |ae=>.error ""
 |ae=>.error ""
def mU:List (Tmp×AV)->List AV->List AV
 |[],T=>T
 |(t,a)::l,T=>mU l<|T.set t a
def getLoop(σ:St)(l:Nat):R jB:=
 if l<σ.n then
  match σ.a7 l with
  |.loop r=>.ok r
  |_=>.error ""
 else .error ""
structure gW where
 run:hX->bM->St->R (cY×bM×St)
 finish:FuncId->List AV->List bT->Option AV->bM->St->R (cY×bM×St)
 endLoop:hX->Nat->cY->bM->St->R (cY×bM×St)
 call:iZ
 round:i6
def rQ(F:gW)(h:jj)(σ:St):R (cY×St):=
 match h with
 |.enter f args=>F.call f args σ
 |.round l args=>F.round l args σ
 |_=>.error ""
def jI(F:gW)(fr:hX)(y:Option Code)(c:bM)(σ:St):R (cY×bM×St):=
 match fr.round with
 |ae=>
  match y with
  |ae=>F.finish fr.fn fr.T fr.defers ae c σ
  |ad .ret=>F.finish fr.fn fr.T fr.defers ae c σ
  |_=>.error ""
 |ad l=>
  if fr.defers.isEmpty then do
   let r<-getLoop σ l
   return(.ret<|cO y.isNone,c,σ.set l<|.loop {r with state:=if y.isNone then .ready else .done,pending:=y})
  else .error ""
def p8(F:gW)(fr:hX)(v:AV)(c:bM)(σ:St):R (cY×bM×St):=
 match fr.round with
 |ae=>F.finish fr.fn fr.T fr.defers (ad v) c σ
 |ad _=>if fr.defers.isEmpty then .ok (.panic v,c,σ)else .error ""
def dG(D:a_)(F:gW)(fr:hX)(p:bM)(σ:St):R (cY×bM×St):=
 match fr.todo with
 |[]=>jI F fr ae p σ
 |.inBlock _::k=>F.run {fr with todo:=k} p σ
 |.inScope _::k=>F.run {fr with todo:=k} p σ
 |.inLoop body::k=>F.run {fr with todo:=.code body::.inLoop body::k} p σ
 |.beginRound::k=>
  match fr.round with
  |ad l=>do
   let r<-getLoop σ l
   if r.state=.ready then F.run {fr with todo:=k} p (σ.set l<|.loop {r with state:=.busy})
   else .error ""
  |ae=>.error ""
 |.code c::k=>
  match c with
  |.ret=>jI F fr (ad .ret) p σ
  |.skip=>F.run {fr with todo:=k} p σ
  |.label _=>F.run {fr with todo:=k} p σ
  |.seq a b=>F.run {fr with todo:=.code a::.code b::k} p σ
  |.cond c n J=>do
   let b<-Ap (dV D fr.T c)
   F.run {fr with todo:=.code (if b then n else J)::k} p σ
  |.block id body=>F.run {fr with todo:=.code body::.inBlock id::k} p σ
  |.loop body=>F.run {fr with todo:=.code body::.inLoop body::k} p σ
  |.scope body=>F.run {fr with todo:=.code body::.inScope body::k} p σ
  |.exit id=>
   match exitTo id k with
   |ad k=>F.run {fr with todo:=k} p σ
   |ae=>jI F fr (ad<|.exit id) p σ
  |.goto l=>
   match gotoIn l k with
   |ad k=>F.run {fr with todo:=k} p σ
   |ae=>jI F fr (ad<|.goto l) p σ
  |.region _ ops E=>do
   let r<-q7 D F.call F.round fr.round.isSome ops E fr.T fr.defers p σ
   match r with
   |.go T ds p σ=>F.run {fr with T,defers:=ds,todo:=k} p σ
   |.panic v T ds p σ=>p8 F {fr with T,defers:=ds} v p σ
  |.rangeFunc f params assign body=>
   match fr.round with
   |ad y=>do
    let i<-getLoop σ y
    let h<-pL D (dV D fr.T f) [.yield σ.n]
    let lp:jB:={state:=.ready,pending:=ae,fn:=fr.fn,T:=fr.T,params:=params.toList,assign,body,defers:=i.defers}
    let(e,σ')<-rQ F h (σ.push<|.loop lp)
    F.endLoop {fr with todo:=k} σ.n e p σ'
   |ae=>do
    let h<-pL D (dV D fr.T f) [.yield<|σ.n+1]
    let lp:jB:={state:=.ready,pending:=ae,fn:=fr.fn,T:=fr.T,params:=params.toList,assign,body,defers:=σ.n}
    let(e,σ')<-rQ F h ((σ.push<|.deferred<|ad []).push<|.loop lp)
    F.endLoop {fr with todo:=k,defers:=.collected σ.n::fr.defers} (σ.n+1) e p σ'
  |.refuse _=>.error ""
def tT(F:gW)(fr:hX)(l:Nat)(e:cY)(b:bM)(σ:St):R (cY×bM×St):=
 match e with
 |.ret _=>do
  let r<-getLoop σ l
  if r.state=.busy then .error "" else
  match r.pending with
  |ae=>F.run fr b<|σ.set l<|.loop {r with state:=.exhausted}
  |ad c=>F.run {fr with todo:=.code c::fr.todo} b<|σ.set l<|.loop {r with state:=.exhausted}
 |.panic v=>p8 F fr v b σ
def pR(D:a_)(F:gW)(fn:FuncId)(T:List AV)(ds:List bT)(B:Option AV)(c:bM)(σ:St):R (cY×bM×St):=
 match ds with
 |[]=>
  match B with
  |ae=>do
   let v<-Ey D σ fn T
   return(.ret v,c,σ)
  |ad v=>.ok (.panic v,c,σ)
 |.collected r::ds=>do
  let o<-σ.get r
  match o with
  |.deferred (ad j)=>F.finish fn T (j++ds) B c<|σ.set r<|.deferred ae
  |_=>.error ""
 |.fn g cap args::ds=>do
  let h<-vG D g cap args
  match h with
  |.enter f args=>do
   let fr<-pP D f args
   let(e,p,σ)<-F.run fr (B.map λv=>(v,ab)) σ
   match e with
   |.ret _=>
    match p with
    |ad (v,ab)=>F.finish fn T ds (ad v) c σ
    |_=>F.finish fn T ds ae c σ
   |.panic v=>
    match p with
    |ae=>F.finish fn T ds (ad v) c σ
    |ad _=>.error ""
  |_=>.error ""
def v7(D:a_)(F:gW)(f:FuncId)(args:List AV)(σ:St):R (cY×St):=do
 let fr<-pP D f args
 let(e,_,σ)<-F.run fr ae σ
 return(e,σ)
def jm(M:eb)(l:List AO):St:={n:=aA l,l,M}
def xP(D:a_)(F:gW)(f:FuncId)(args:List AV)(V:St):R (hZ×eb):=do
 let fr<-pP D f args
 let(e,_,d)<-F.run fr ae V
 match e with
 |.ret v=>
  if ti (fY d kh v)then do
   let(y,A)<-iQ aa d kh v (qJ D .e)
   if ti (fY (jm .e A.l) kh y)then return({f,args,heap:=V.l,val:=y,lJ:=A.l},d.M)
   else .error ""
  else .error ""
 |.panic _=>.error ""
def xz(m:hZ)(σ:St):R (cY×St):=do
 let(v,σ)<-iQ aa (jm .e m.lJ) kh m.val σ
 return(.ret v,σ)
def lr(D:a_)(F:gW)(f:FuncId)(args:List AV)(σ:St):R (cY×St):=
 if D.pure f then match D.tn f with
  |ad g=>do
   let r<-g args σ
   return(.ret r.1,r.2)
  |ae=>do
   let(v,V)<-qz (iQ ab σ kh) args (qJ D σ.M)
   match yO f v V.l (V.M.get<|Et f)with
   |ad m=>xz m σ
   |ae=>do
    let(m,M)<-xP D F f v V
    xz m {σ with M:=M.add m (Et f)}
 else v7 D F f args σ
def uG(D:a_)(F:gW)(l:Nat)(args:List AV)(σ:St):R (cY×St):=do
 let r<-getLoop σ l
 match D.func r.fn with
 |ae=>.error ""
 |ad _=>
  if aA r.params=aA args then do
   let(e,_,σ)<-F.run {fn:=r.fn,T:=mU (r.params.zip args) r.T,todo:=[.code r.assign,.beginRound,.code r.body],defers:=[],round:=ad l} ae σ
   return(e,σ)
  else .error ""
def xG:gW where
 run:=λ_ _ _=>.error ""
 finish:=λ_ _ _ _ _ _=>.error ""
 endLoop:=λ_ _ _ _ _=>.error ""
 call:=λ_ _ _=>.error ""
 round:=λ_ _ _=>.error ""
def HA(D:a_)(F:gW):gW where
 run:=dG D F
 finish:=pR D F
 endLoop:=tT F
 call:=lr D F
 round:=uG D F
def cg(D:a_):Nat->gW
 |0=>xG
 |n+1=>HA D<|cg D n
def fw:fQ->Item
 |.code c=>.code c
 |.inBlock id=>.inBlock id
 |.inLoop b=>.inLoop b
 |.inScope b=>.inScope b
 |.beginRound=>.beginRound
def yM(id:Nat):∀k:List fQ,Go.exitTo id (k.map fw)=(exitTo id k).map (aq fw)
 |[]=>rfl
 |.inBlock B::k=>by simp only[cL,fw,Go.exitTo,exitTo];split;rfl;exact yM id k
 |.code c::k=>by simp only[cL,fw,Go.exitTo,exitTo];exact yM id k
 |.inLoop c::k=>by simp only[cL,fw,Go.exitTo,exitTo];exact yM id k
 |.inScope c::k=>by simp only[cL,fw,Go.exitTo,exitTo];exact yM id k
 |.beginRound::k=>by simp only[cL,fw,Go.exitTo,exitTo];exact yM id k
def yT(l:Nat):∀k:List fQ,Go.gotoIn l (k.map fw)=(gotoIn l k).map (aq fw)
 |[]=>rfl
 |.inScope c::k=>by
  simp only[cL,fw,Go.gotoIn,gotoIn]
  cases h:findLabel c l with
  |none=>simpa using yT l k
  |some e=>simp[fw]
 |.code c::k=>by simp only[cL,fw,Go.gotoIn,gotoIn];exact yT l k
 |.inLoop c::k=>by simp only[cL,fw,Go.gotoIn,gotoIn];exact yT l k
 |.inBlock c::k=>by simp only[cL,fw,Go.gotoIn,gotoIn];exact yT l k
 |.beginRound::k=>by simp only[cL,fw,Go.gotoIn,gotoIn];exact yT l k
section
variable{P:Program}{b:Frame}{T:Array Value}{ds:List Deferred}{k:List Item}{cs:List Frame}{w w':World}
def apg:step P (lone (on b T ds<|.code .skip::k) cs w)=.next (lone (on b T ds k) cs w):=step_lone_go aue
def ao_{l:Nat}:step P (lone (on b T ds<|.code (.label l)::k) cs w)=.next (lone (on b T ds k) cs w):=step_lone_go aue
def ao7{l:Nat}:step P (lone (on b T ds<|.inBlock l::k) cs w)=.next (lone (on b T ds k) cs w):=step_lone_go aue
def ao9{c:Code}:step P (lone (on b T ds<|.inScope c::k) cs w)=.next (lone (on b T ds k) cs w):=step_lone_go aue
def ao8{c:Code}:step P (lone (on b T ds<|.inLoop c::k) cs w)=.next (lone (on b T ds<|.code c::.inLoop c::k) cs w):=step_lone_go aue
def apf{x y:Code}:step P (lone (on b T ds<|.code (.seq x y)::k) cs w)=.next (lone (on b T ds<|.code x::.code y::k) cs w):=step_lone_go aue
def ao2{id:Nat}{x:Code}:step P (lone (on b T ds<|.code (.block id x)::k) cs w)=.next (lone (on b T ds<|.code x::.inBlock id::k) cs w):=step_lone_go aue
def apa{x:Code}:step P (lone (on b T ds<|.code (.loop x)::k) cs w)=.next (lone (on b T ds<|.code x::.inLoop x::k) cs w):=step_lone_go aue
def ape{x:Code}:step P (lone (on b T ds<|.code (.scope x)::k) cs w)=.next (lone (on b T ds<|.code x::.inScope x::k) cs w):=step_lone_go aue
def ao3{c:Operand}{x y:Code}{t:Bool}(h:h7 T c=.bool t):
 step P (lone (on b T ds<|.code (.cond c x y)::k) cs w)=.next (lone (on b T ds<|.code (if t then x else y)::k) cs w):=step_lone_go (by
 have:=congrFun (HI b T ds<|.code (.cond c x y)::k) c;simp only[on]at this
 simp[stepG,stepG.exec,on,this,h])
def ao5{id:Nat}{e:List Item}(h:Go.exitTo id k=ad e):step P (lone (on b T ds<|.code (.exit id)::k) cs w)=.next (lone (on b T ds e) cs w):=step_lone_go awK
def ao6{id:Nat}{e:List Item}(h:Go.gotoIn id k=ad e):step P (lone (on b T ds<|.code (.goto id)::k) cs w)=.next (lone (on b T ds e) cs w):=step_lone_go awK
def my(b:Frame)(T:Array Value)(ds:List Deferred)(todo:List Item)(mode:FrameMode):Frame:={on b T ds todo with mode:=mode}
def apb(r:b.roundOf=ae):step P (lone (on b T ds []) cs w)=.next (lone (my b T ds [] .returning) cs w):=step_lone_go (by simp[stepG,stepG.exec,on,r,my])
def apd(r:b.roundOf=ae):step P (lone (on b T ds<|.code .ret::k) cs w)=.next (lone (my b T ds (.code .ret::k) .returning) cs w):=step_lone_go (by simp[stepG,stepG.exec,on,r,my])
def apo{l:Nat}{c:Frame}{v:Value}(r:b.roundOf=ad l)(f:b.kind=.normal)(h:(Instr.endRound l ae).run P w=.ok v w'):
 step P (lone (on b T ds []) (c::cs) w)=.next (lone (c.finish v) cs w'):=
 step_lone_go (by simp[stepG,stepG.exec,on,r,h,doReturn,f])
def apr{l:Nat}{c:Frame}{v:Value}(r:b.roundOf=ad l)(f:b.kind=.normal)(h:(Instr.endRound l<|ad .ret).run P w=.ok v w'):
 step P (lone (on b T ds<|.code .ret::k) (c::cs) w)=.next (lone (c.finish v) cs w'):=
 step_lone_go (by simp[stepG,stepG.exec,on,r,h,doReturn,f])
def apm{l id:Nat}{c:Frame}{v:Value}(r:b.roundOf=ad l)(f:b.kind=.normal)(e:Go.exitTo id k=ae)(h:(Instr.endRound l<|ad<|.exit id).run P w=.ok v w'):
 step P (lone (on b T ds<|.code (.exit id)::k) (c::cs) w)=.next (lone (c.finish v) cs w'):=
 step_lone_go (by simp[stepG,stepG.exec,on,r,e,h,doReturn,f])
def apn{l id:Nat}{c:Frame}{v:Value}(r:b.roundOf=ad l)(f:b.kind=.normal)(e:Go.gotoIn id k=ae)(h:(Instr.endRound l<|ad<|.goto id).run P w=.ok v w'):
 step P (lone (on b T ds<|.code (.goto id)::k) (c::cs) w)=.next (lone (c.finish v) cs w'):=
 step_lone_go (by simp[stepG,stepG.exec,on,r,e,h,doReturn,f])
def apq{c:Frame}{todo:List Item}{chain:List PanicEntry}{fn:Func}(j:P.funcs[b.fn]?=ad fn):
 step P (lone (my b T [] todo<|.panicking chain) (c::cs) w)=.next (lone (c.raise chain) cs w):=
 step_lone_go (by simp[stepG,unwind,my,on,Frame.catches,j])
def aoW{l:Nat}(r:b.roundOf=ad l)(h:(Instr.beginRound l).run P w=.ok () w'):
 step P (lone (on b T ds<|.beginRound::k) cs w)=.next (lone (on b T ds k) cs w'):=
 step_lone_go (by simp[stepG,stepG.exec,stepG.apply,on,r,h,Frame.finish])
def ao0{l:Nat}{j:Option Code}(h:(Instr.endLoop l).run P w=.ok j w'):
 step P (lone (on b T ds<|.endRangeFunc l::k) cs w)=.next (lone (on b T ds<|(j.map Item.code).toList++k) cs w'):=
 step_lone_go awK
def aoX{r:Nat}{args:Array Value}{todo:List Item}{B:FrameMode}{p:List Deferred}(m:B≠.run)(h:(Instr.takeDeferred r).run P w=.ok p w'):
 step P (lone (my b T ({target:=.collected r,args}::ds) todo B) cs w)=.next (lone (my b T (p++ds) todo B) cs w'):=
 step_lone_go (by
  cases B with
  |run=>exact(m aM).elim
  |returning=>simp[stepG,unwind,my,on,h]
  |panicking c=>simp[stepG,unwind,my,on,h])
def aoZ{fn:Fn}{cap args:Array Value}{todo:List Item}{B:FrameMode}{f:FuncId}{I:Array Value}(m:B≠.run)
 (h:(invoke (.fn fn cap) args).run P w=.ok (.enter f I) w):
 step P (lone (my b T ({target:=.fn fn cap,args}::ds) todo B) cs w)=.next (lone (Frame.enter P f I .deferred) (my b T ds todo B::cs) w):=
 step_lone_go (by
  cases B with
  |run=>exact(m aM).elim
  |returning=>simp[stepG,unwind,my,on,h,callDeferred]
  |panicking c=>simp[stepG,unwind,my,on,h,callDeferred])
def apj{f:Operand}{A:Array Tmp}{D G:Code}{l:Nat}{mark:List Deferred}{g:FuncId}{I:Array Value}
 (h:(Instr.enterLoop b.fn T A D G b.roundOf).run P w=.ok (l,mark) w')
 (i:(do let d<-Deferred.ofValue (h7 T f) #[.func (.yield l) #[] #[]];invoke d.target d.args:Sem Next).run P w'=.ok (.enter g I) w'):
 step P (lone (on b T ds<|.code (.rangeFunc f A D G)::k) cs w)=
  .next (lone (Frame.enter P g I .normal) (on b T (mark++ds) (.inRangeFunc l::k)::cs) w'):=by
 refine step_lone_go ?_;have J:({b with tmps:=T,defers:=mark++ds,todo:=.inRangeFunc l::k,mode:=.run}:Frame).eval=h7 T:=HI b T _ _;have e:(do let d<-resolve (h7 T) {callee:=.value f,args:=#[.const (.func (.yield l) #[] #[])],argTypes:=#[]} 0;invoke d.target d.args:Sem Next).run P w'=.ok (.enter g I) w':=by simpa[resolve,h7]using i
 simp[stepG,stepG.exec,on,h,stepG.apply,J,e]
def apk{f:Operand}{A:Array Tmp}{D G:Code}{l N:Nat}{mark:List Deferred}{g:FuncId}{tmps:Array Value}{I r:Code}
 (h:(Instr.enterLoop b.fn T A D G b.roundOf).run P w=.ok (l,mark) w')
 (i:(do let d<-Deferred.ofValue (h7 T f) #[.func (.yield l) #[] #[]];invoke d.target d.args:Sem Next).run P w'=.ok (.round N g tmps I r) w'):
 step P (lone (on b T ds<|.code (.rangeFunc f A D G)::k) cs w)=
  .next (lone (Frame.round N g tmps I r .normal) (on b T (mark++ds) (.inRangeFunc l::k)::cs) w'):=by
 refine step_lone_go ?_;have J:({b with tmps:=T,defers:=mark++ds,todo:=.inRangeFunc l::k,mode:=.run}:Frame).eval=h7 T:=HI b T _ _;have e:(do let d<-resolve (h7 T) {callee:=.value f,args:=#[.const (.func (.yield l) #[] #[])],argTypes:=#[]} 0;invoke d.target d.args:Sem Next).run P w'=.ok (.round N g tmps I r) w':=by simpa[resolve,h7]using i
 simp[stepG,stepG.exec,on,h,stepG.apply,J,e]
end
def Qr(c:Frame):Frame:=
 match c.mode with
 |.panicking ({recovered:=aa, ..}::t)=>
  match t.dropWhile (!·.goexit)with
  |[]=>{c with mode:=.returning}
  |rest=>{c with mode:=.panicking rest}
 |_=>c
def aoV{P:Program}{fr c:Frame}{cs:List Frame}{w:World}{v:Value}{fn:Func}(m:fr.mode=.returning)(C:fr.defers=[])(f:fr.kind=.deferred)
 (j:P.funcs[fr.fn]?=ad fn)(r:(results fn fr.tmps).run P w=.ok v w):step P (lone fr (c::cs) w)=.next (lone (Qr c) cs w):=
 step_lone_go (by
  have l:∀c:Frame,(match c.mode with
   |.panicking ({recovered:=aa, ..}::t)=>
    match t.dropWhile (!·.goexit)with
    |[]=>{c with mode:=.returning}
    |rest=>{c with mode:=.panicking rest}
   |_=>c)=Qr c:=λc=>rfl
  simp[stepG,unwind,doReturn,m,C,f,j,r]
  grind)
def api{P:Program}{fr c:Frame}{cs:List Frame}{w:World}{chain:List PanicEntry}{fn:Func}(m:fr.mode=.panicking chain)(t:fr.defers=[])
 (j:P.funcs[fr.fn]?=ad fn):step P (lone fr (c::cs) w)=.next (lone (c.raise chain) cs w):=
 step_lone_go (by simp[stepG,unwind,Frame.catches,m,t,j])
section
variable[Lo]
section
variable{D:a_}{P:Program}
def xB(ι:Nat->bf):Option AV->FrameMode
 |ae=>.returning
 |ad v=>.panicking [{v:=aQ ι v,recovered:=ab}]
def qp(P:Program)(X:gV)(b:Frame)(ι:Nat->bf)(f:bM)(w:World)(e:cY)(m:Machine):Prop:=
 match b.roundOf with
 |ae=>∃fr,Steps P m (lone fr (X.cs ι f) w)/\ fr.fn=b.fn/\ fr.defers=[]/\ fr.kind=b.kind/\ ∃fn,P.funcs[b.fn]?=ad fn/\
   match e with
   |.ret v=>fr.mode=.returning/\ (results fn fr.tmps).run P w=.ok (aQ ι v) w
   |.panic v=>fr.mode=.panicking [{v:=aQ ι v,recovered:=ab}]
 |ad _=>∀c cs,X.cs ι f=c::cs->Steps P m (lone (after c<|oR ι e) cs w)
omit [Lo]in
def qp.p6{X:gV}{b:Frame}{ι:aI}{f:bM}{w:World}{e:cY}{m m':Machine}(h:Steps P m m')(g:qp P X b ι f w e m'):qp P X b ι f w e m:=by unfold qp at*;split;rename_i x;simp only[x]at g;have⟨J,s,r⟩:=g;exact⟨J,Steps.trans h s,r⟩;rename_i x;simp only[x]at g;exact λc V Q=>Steps.trans h<|g c V Q
structure wy(P:Program)(X:gV)(b:Frame)(fr:hX)(ι:Nat->bf)(σ:St):Prop where
 kind:b.kind=X.kind
 fn:b.fn=fr.fn
 round:b.roundOf=fr.round.map λl=>(ι l).block
 ch:∀l,fr.round=ad l->l<σ.n/\ ∃cs,X=.tj cs
 Ds:∃fn,P.funcs[b.fn]?=ad fn
def wy.ext{X:gV}{b:Frame}{fr fr':hX}{ι ι':aI}{σ σ':St}{w w':World}(B:wy P X b fr ι σ)(E:cj ι σ w ι' σ' w')(j:fr'.fn=fr.fn)(r:fr'.round=fr.round):
 wy P X b fr' ι' σ' where
 kind:=B.kind
 fn:=B.fn.trans j.symm
 round:=by
  rw[B.round,r]
  cases h:fr.round with
  |none=>rfl
  |some l=>simp[E.er l (B.ch l h).1]
 ch:=λl h=>by rw[r]at h;exact⟨dc (B.ch l h).1 E.n,(B.ch l h).2⟩
 Ds:=B.Ds
def kd(D:a_)(P:Program)(X:gV)(b:Frame)(ι:Nat->bf)(σ:St)(w:World)(e:cY)(V:bM)(σ':St)(m:Machine):Prop:=∃ι' w',bz D ι' σ' w'/\ cj ι σ w ι' σ' w'/\ yY ι' (·<σ'.n) e/\ uc ι' (·<σ'.n) V/\ X.A6 V/\ qp P X b ι' V w' e m
def kd.p6{X:gV}{b:Frame}{ι I:aI}{σ σ1 σ':St}{w T:World}{e:cY}{V:bM}{m J:Machine}(h:Steps P m J)(E:cj ι σ w I σ1 T)
 (o:kd D P X b I σ1 T e V σ' J):kd D P X b ι σ w e V σ' m:=by
 have⟨O,n,l,a,d,A,Z,Y⟩:=o;exact⟨O,n,l,E.trans a,d,A,Z,Y.p6 h⟩
def Ps(D:a_)(P:Program)(f:hX->bM->St->R (cY×bM×St)):Prop:=
 ∀fr c σ e V σ',f fr c σ=.ok (e,V,σ')->∀X b ι w,wy P X b fr ι σ->bz D ι σ w->ll ι (·<σ.n) X fr.T fr.defers c->
  kd D P X b ι σ w e V σ' (g' X b ι fr.T fr.defers c (fr.todo.map fw) w)
def ON(D:a_)(P:Program)(i:FuncId->List AV->List bT->Option AV->bM->St->R (cY×bM×St)):Prop:=
 ∀f T ds B c σ e V σ',i f T ds B c σ=.ok (e,V,σ')->∀X b ι w todo,b.kind=X.kind->b.fn=f->b.roundOf=ae->(∃fn,P.funcs[b.fn]?=ad fn)->
  bz D ι σ w->ll ι (·<σ.n) X T ds c->(∀v,B=ad v->bB ι (·<σ.n) v)->
  kd D P X b ι σ w e V σ' (lone (my b (bb ι T).toArray (ds.map<|el ι) todo<|xB ι B) (X.cs ι c) w)
def OM(D:a_)(P:Program)(a:hX->Nat->cY->bM->St->R (cY×bM×St)):Prop:=
 ∀fr l en c σ e V σ',a fr l en c σ=.ok (e,V,σ')->∀X b ι w,wy P X b fr ι σ->bz D ι σ w->ll ι (·<σ.n) X fr.T fr.defers c->l<σ.n->
  yY ι (·<σ.n) en->
  kd D P X b ι σ w e V σ' (lone (after (on b (bb ι fr.T).toArray (fr.defers.map<|el ι)<|.inRangeFunc (ι l).block::fr.todo.map fw)<|oR ι en) (X.cs ι c) w)
structure qo(D:a_)(P:Program)(F:gW):Prop where
 run:Ps D P F.run
 finish:ON D P F.finish
 endLoop:OM D P F.endLoop
 call:zT D P F.call
 round:Af D P F.round
section loops
variable{ι:Nat->bf}{σ:St}{w:World}
omit [Lo]in
def TD{l:Nat}{r:jB}(h:getLoop σ l=.ok r):l<σ.n/\ σ.a7 l=.loop r:=by
 unfold getLoop at h
 grind
omit [Lo]in
def Hm(R:bz D ι σ w){l:Nat}{r:jB}(h:getLoop σ l=.ok r):
 w.heap[(ι l).block]?=ad (.loop<|iP ι r)/\ (ι l).shift=0/\ b5 ι (·<σ.n) r.T/\ r.defers<σ.n:=by
 have⟨V,a⟩:=TD h;have:=R.eS l V;rw[a]at this;exact⟨this.2.1,this.1,this.2.2.1,this.2.2.2⟩
def EF(R:bz D ι σ w){l:Nat}{r:jB}(h:getLoop σ l=.ok r):(Instr.getLoop (ι l).block).run P w=.ok (iP ι r) w:=by have:=wj P w (ι l).block _ (Hm R h).1 aY;simp only[Instr.getLoop,cQ,this,ay,az]
def Mn(R:bz D ι σ w){l:Nat}{r:jB}(h:getLoop σ l=.ok r)(C:jB)(T:C.T=r.T)(t:C.defers=r.defers):
 ∃w',(setObj (ι l).block<|.loop<|iP ι C).run P w=.ok () w'/\ bz D ι (σ.set l<|.loop C) w'/\ cj ι σ w ι (σ.set l<|.loop C) w':=by
 have⟨V,a⟩:=TD h;have⟨J,s,i,W⟩:=Hm R h;have O:(ι l).block<w.heap.size:=(qm.1 J).1;have B:=Em w (ι l).block<|.loop<|iP ι C;have c:=R.set (o:=.loop C) V (by rw[a];rfl) B.size B.uz B.os ⟨s,Dv w _ _ O,T▸i,t▸W⟩;exact⟨_,Ic P w _ _ _ J aY,c.1,c.2⟩
def anv(R:bz D ι σ w){l:Nat}{r:jB}(h:getLoop σ l=.ok r)(y:Option Code):
 ∃w',(Instr.endRound (ι l).block y).run P w=.ok (.bool y.isNone) w'/\
  bz D ι (σ.set l<|.loop {r with state:=if y.isNone then .ready else .done,pending:=y}) w'/\
  cj ι σ w ι (σ.set l<|.loop {r with state:=if y.isNone then .ready else .done,pending:=y}) w':=by
 have⟨w',V,a,d⟩:=Mn (P:=P) R h {r with state:=if y.isNone then .ready else .done,pending:=y} aM aM;refine⟨w',?_,a,d⟩;simp only[Instr.endRound,cQ,EF R h,ay,az];simp only[iP]at V|-;rw[V];rfl
def anl(R:bz D ι σ w){l:Nat}{r:jB}(h:getLoop σ l=.ok r)(s:r.state=.ready):
 ∃w',(Instr.beginRound (ι l).block).run P w=.ok () w'/\ bz D ι (σ.set l<|.loop {r with state:=.busy}) w'/\ cj ι σ w ι (σ.set l<|.loop {r with state:=.busy}) w':=by
 have⟨w',V,a,d⟩:=Mn (P:=P) R h {r with state:=.busy} aM aM;refine⟨w',?_,a,d⟩;simp only[Instr.beginRound,cQ,EF R h,ay];simp only[iP]at V|-;exact at6
def anu(R:bz D ι σ w){l:Nat}{r:jB}(h:getLoop σ l=.ok r)(s:r.state≠.busy):
 ∃w',(Instr.endLoop (ι l).block).run P w=.ok r.pending w'/\ bz D ι (σ.set l<|.loop {r with state:=.exhausted}) w'/\ cj ι σ w ι (σ.set l<|.loop {r with state:=.exhausted}) w':=by
 have⟨w',V,a,d⟩:=Mn (P:=P) R h {r with state:=.exhausted} aM aM;refine⟨w',?_,a,d⟩;simp only[Instr.endLoop,cQ,EF R h,ay];have:((iP ι r).state==LoopState.busy)=ab:=by simpa[iP]using s
 simp only[iP]at V this|-;simp[this,V]
end loops
def He{X:gV}{b:Frame}{fr:hX}{ι:aI}{σ σ':St}{w:World}{f V:bM}{e:cY}{l:Nat}{y:Option Code}{F:gW}{m:Machine}
 (G:fr.round=ad l)(B:wy P X b fr ι σ)(S:bz D ι σ w)(I:ll ι (·<σ.n) X fr.T fr.defers f)(h:jI F fr y f σ=.ok (e,V,σ'))
 (a:∀(c:Frame) (cs:List Frame) (v:Value) (w':World),X.cs ι f=c::cs->(Instr.endRound (ι l).block y).run P w=.ok v w'->Steps P m (lone (c.finish v) cs w')):
 kd D P X b ι σ w e V σ' m:=by
 simp only[jI,G]at h;split at h;simp only[bK,eo,f']at h;obtain⟨r,x,rfl,rfl,rfl⟩:=h;have⟨w',O,p,d⟩:=anv (P:=P) S x y;refine⟨ι,w',p,d,trivial,I.bp,I.kY,?_⟩;unfold qp;have Z:b.roundOf=ad (ι l).block:=by rw[B.round,G];rfl
 simp only[Z];intro c cs Q;simpa[oR,after,cO,aQ]using a c cs _ _ Q O;exact at5
def WU{F:gW}(W:qo D P F){X:gV}{b:Frame}{fr:hX}{ι:aI}{σ σ':St}{w:World}{f V:bM}{e:cY}{v:AV}{todo:List Item}
 (B:wy P X b fr ι σ)(S:bz D ι σ w)(I:ll ι (·<σ.n) X fr.T fr.defers f)(Y:bB ι (·<σ.n) v)(h:p8 F fr v f σ=.ok (e,V,σ')):
 kd D P X b ι σ w e V σ' (DY X b ι fr.T fr.defers f todo v w):=by
 unfold p8 at h;split at h;rename_i r;have p:b.roundOf=ae:=by rw[B.round,r];rfl
 exact W.finish _ _ _ _ _ _ _ _ _ h X b ι w todo B.kind B.fn p B.Ds S I (by intro i E;cases E;exact Y);rename_i l r;split at h;rename_i g;simp at h;obtain⟨rfl,rfl,rfl⟩:=h;have p:b.roundOf=ad (ι l).block:=by rw[B.round,r];rfl
 refine⟨ι,w,S,cj.refl _ _ _,Y,I.bp,I.kY,?_⟩;unfold qp;simp only[p];intro c cs Q;have⟨L,n⟩:=B.Ds;have m:fr.defers=[]:=by simpa using g
 have:=apq (P:=P) (b:=b) (T:=(bb ι fr.T).toArray) (c:=c) (cs:=cs) (w:=w) (todo:=todo) (chain:=[{v:=aQ ι v,recovered:=ab}]) n;unfold DY;rw[Q,m];exact .one this;exact at5
def ae5{F:gW}(W:qo D P F):OM D P (tT F):=by
 intro J l Q f σ e V z h X b ι w B S I G q;unfold tT at h;split at h;rename_i v;simp only[bK]at h;have⟨r,x,h⟩:=h;split at h;exact auu;rename_i s;have⟨T,O,a,d⟩:=anu (P:=P) S x s;have m:Steps P (lone (after (on b (bb ι J.T).toArray (J.defers.map<|el ι)<|.inRangeFunc (ι l).block::J.todo.map fw)<|oR ι<|.ret v) (X.cs ι f) w)
  (lone (on b (bb ι J.T).toArray (J.defers.map<|el ι)<|(r.pending.map Item.code).toList++J.todo.map fw) (X.cs ι f) T):=.one<|ao0 O
 refine kd.p6 m d ?_;have y:ll ι (·<(σ.set l<|.loop {r with state:=.exhausted}).n) X J.T J.defers f:=I;split at h;rename_i M;have p:(r.pending.map Item.code).toList=[]:=by rw[M];rfl
 exact aw4;rename_i c M;have p:(r.pending.map Item.code).toList=[.code c]:=by rw[M];rfl
 exact aw4;rename_i v;exact WU W B S I q h
def H6(T:Array Value):ResultVar->Sem Value
 |.tmp t=>pure (T.getD t undef)
 |.cell a t=>do loadVar t (<-asAddr (T.getD a undef))
omit [Lo]in
def amT(F:fu D P){ι:aI}{σ:St}{w:World}(S:bz D ι σ w){T:aD}(k:b5 ι (·<σ.n) T):∀(l:List ResultVar) (q:aD),q6 D σ T l=.ok q->
 (l.mapM<|H6 (bb ι T).toArray).run P w=.ok (bb ι q) w/\ b5 ι (·<σ.n) q:=by
 intro l
 induction l with
 |nil=>intro q h;simp[q6]at h;subst h;simp[bb,b5]
 |cons x l I=>
  intro q h
  cases x with
  |tmp t=>simp only[q6,bK,eo]at h;obtain⟨r,V,rfl⟩:=h;have⟨j,d⟩:=I r V;refine⟨?_,?_,d⟩;simp only[List.mapM_cons,cQ,az,ay,j,H6,LB,bb];have:=KZ (D:=D) S S.GQ k<|.tmp t;simpa[dV]using this
  |cell a t=>
   simp only[q6,bK,eo]at h;obtain⟨v,Y,r,V,rfl⟩:=h;have⟨j,d⟩:=I r V;have⟨A,Z⟩:=YA F S Y;refine⟨?_,Z,d⟩;have p:∃b o,T.getD a .undef=.aR b o:=by
    unfold jw at Y
    grind
   have⟨b,o,p⟩:=p;rw[p]at A;simp only[Instr.loadAt,aQ,Instr.sureAddr,cQ,az,ay]at A;simp only[List.mapM_cons,cQ,az,ay,H6,LB,p,aQ,asAddr,A,j,bb]
omit [Lo]in
def amU(F:fu D P){ι:aI}{σ:St}{w:World}(S:bz D ι σ w){T:aD}(k:b5 ι (·<σ.n) T){f:FuncId}{v:AV}(h:Ey D σ f T=.ok v):
 ∃fn,P.funcs[f]?=ad fn/\ (results fn (bb ι T).toArray).run P w=.ok (aQ ι v) w/\ bB ι (·<σ.n) v:=by
 unfold Ey at h;split at h;rename_i fn n;simp only[bK]at h;have⟨q,Z,h⟩:=h;have⟨V,a⟩:=amT F S k _ _ Z;refine⟨fn,F.func _ _ n,?_,?_⟩;have m:results fn (bb ι T).toArray=(do let q<-fn.results.mapM (H6 (bb ι T).toArray);pure (if h:q.size=1 then q[0]else .tuple q):Sem Value):=by unfold results;congr
 rw[m,Array.mapM_eq_mapM_toList];simp only[cQ,Sem.run_map,V,ay];split at h;rename_i x;simp at h;subst h;simp[bb];rename_i C;simp at h;subst h;have:aA q≠1:=by intro e;have⟨x,s⟩:=List.length_eq_one_iff.1 e;exact C x s
 simp[this,aQ];split at h;rename_i x;simp at h;subst h;exact a.1;simp at h;subst h;exact a;exact at5
end
end
section
variable[Lo]
section
variable{D:a_}{P:Program}
omit [Lo]in
def X_(ι:aI):∀n,bb ι (gF n)=ak n undef
 |0=>rfl
 |n+1=>by simp[gF,bb,X_ ι n,Fy]
omit [Lo]in
def X7(ι:aI)(A:aE):∀n,b5 ι A<|gF n
 |0=>trivial
 |n+1=>⟨ud _ _,X7 ι A n⟩
omit [Lo]in
def KK(F:fu D P){f:FuncId}{args:aD}{fr:hX}(h:pP D f args=.ok fr)(ι:aI)(A:aE)(M:b5 ι A args)(W:CallKind):
 fr.fn=f/\ fr.round=ae/\ fr.defers=[]/\ b5 ι A fr.T/\ (∃fn,P.funcs[f]?=ad fn)/\
  Frame.enter P f (bb ι args).toArray W=on (Frame.enter P f (bb ι args).toArray W) (bb ι fr.T).toArray [] (fr.todo.map fw):=by
 unfold pP at h;split at h;rename_i fn n;split at h;rename_i c Q;simp at h;subst h;have j:=F.func _ _ n;refine⟨aM,aM,aM,rS.2 ⟨M,X7 _ _ _⟩,⟨fn,j⟩,?_⟩;simp only[Frame.enter,on,j,sE,FC,Cw,Q,cL,i_,fw,Gc,X_];simp;exact at5;exact at5
omit [Lo]in
def ajU(ι:aI)(B:Option AV):zt ι (B.map λv=>(v,ab))=xB ι B:=by cases B<;>rfl
omit [Lo]in
def V5(ι:aI)(B:Option AV):xB ι B≠.run:=by cases B<;>simp[xB]
def af3(s0:fu D P){F:gW}(t0:qo D P F):ON D P (pR D F):=by
 intro f T ds mode u σ e V f0 h X b ι w todo O0 s n C d0 I k;unfold pR at h;split at h
 ·
  split at h;simp only[bK,eo,f']at h;obtain⟨v,Q0,rfl,rfl,rfl⟩:=h;have⟨fn,u0,g0,v0⟩:=amU s0 d0 I.T Q0;refine⟨ι,w,d0,cj.refl _ _ _,v0,I.bp,I.kY,?_⟩;unfold qp;simp only[n];refine⟨_,FI _ _,aM,aM,aM,fn,by rw[s];exact u0,aM,g0⟩;rename_i v;simp at h;obtain⟨rfl,rfl,rfl⟩:=h;have⟨fn,u0⟩:=C;refine⟨ι,w,d0,cj.refl _ _ _,k v aM,I.bp,I.kY,?_⟩;unfold qp;simp only[n];exact⟨_,FI _ _,aM,aM,aM,fn,u0,aM⟩
 ·
  rename_i r ds;simp only[bK]at h;have⟨o,R0,h⟩:=h;have⟨P0,h0⟩:=LD R0;split at h;rename_i j;have Z:=d0.eS r P0;rw[h0]at Z;have⟨S0,W,G⟩:=Z;have w0:(ι r).block<w.heap.size:=(qm.1 W).1;have E:=Em w (ι r).block<|.deferred ae;have l:=d0.set (o:=.deferred ae) P0 (by rw[h0];rfl) E.size E.uz E.os ⟨S0,Dv w _ _ w0,aY⟩;have L:(Instr.takeDeferred (ι r).block).run P w=.ok (j.map<|el ι) {w with heap:=w.heap.setIfInBounds (ι r).block (.deferred ae)}:=by have O:=wj P w (ι r).block _ W aY;have h2:=Ic P w (ι r).block _ (.deferred ae) W aY;simp only[Instr.takeDeferred,cQ,O,ay,sE,h2,az]
  have i:=aoX (P:=P) (b:=b) (T:=(bb ι T).toArray) (ds:=ds.map<|el ι) (cs:=X.cs ι u) (args:=#[]) (todo:=todo) (V5 ι mode) L;refine kd.p6 (.one i) l.2 ?_;have:=t0.finish _ _ _ _ _ _ _ _ _ h X b ι _ todo O0 s n C l.1
   ⟨I.kY,I.T,λd Y=>(mF.1 Y).elim (λO=>G j aM d O)<|λO=>I.ds d<|dR _ O,I.bp⟩ k
  exact at6;exact at5
 ·
  rename_i g B args ds;simp only[bK]at h;have⟨W0,x0,h⟩:=h;have Y:=I.ds (.fn g B args) aY;obtain⟨r0,Q,rfl,i0,j0⟩:=UD s0 (ι:=ι) (A:=(·<σ.n)) w x0 Y.1 Y.2;simp only[bK]at h;have⟨y0,z0,⟨e1,p1,k0⟩,l0,h⟩:=h;have⟨O,h2,h3,h4,h5,h6⟩:=KK s0 z0 ι (·<σ.n) i0 .deferred;have I0:sX ι (·<σ.n) ds:=λd Y=>I.ds d (dR _ Y)
  let m:Frame:=my b (bb ι T).toArray (ds.map<|el ι) todo (xB ι mode)
  let e0:gV:=.C9 m<|X.cs ι u
  have T0:e0.cs ι (mode.map λv=>(v,ab))=m::X.cs ι u:=by simp only[e0,gV.cs,ajU];rfl
  have i:=aoZ (P:=P) (b:=b) (T:=(bb ι T).toArray) (ds:=ds.map<|el ι) (cs:=X.cs ι u) (todo:=todo) (V5 ι mode) j0;have U0:=t0.run _ _ _ _ _ _ l0 e0 (Frame.enter P r0 (bb ι Q).toArray .deferred) ι w
   ⟨aM,O.symm,by rw[h2];rfl,by rw[h2];simp,h5⟩ d0
   ⟨trivial,h4,by rw[h3];intro d Y;simp at Y,by
    cases mode with
    |none=>trivial
    |some v=>exact k v aM⟩
  have⟨N,w1,R1,S,A0,B0,M,C0⟩:=U0;clear M;unfold qp at C0;have D0:(Frame.enter P r0 (bb ι Q).toArray .deferred).roundOf=ae:=rfl;simp only[D0]at C0;have⟨a0,m0,n0,a,t,E0,b0,y⟩:=C0;have c0:g' e0 (Frame.enter P r0 (bb ι Q).toArray .deferred) ι y0.T y0.defers (mode.map λv=>(v,ab)) (y0.todo.map fw) w=
   lone (Frame.enter P r0 (bb ι Q).toArray .deferred) (m::X.cs ι u) w:=by
   unfold g'
   grind
  rw[c0]at m0;have z:Steps P (lone (my b (bb ι T).toArray (aq (el ι)<|.fn g B args::ds) todo<|xB ι mode) (X.cs ι u) w) (lone a0 (e0.cs N p1) w1):=Steps.trans (.one i) m0
  have o0:e0.cs N p1={m with mode:=zt N p1}::X.cs ι u:=rfl;rw[o0]at z;have F0:bb N T=bb ι T:=lx S.er T I.T;have G0:ds.map (el N)=ds.map (el ι):=vh S.er I0;have H0:X.cs N u=X.cs ι u:=X.er S.er I.bp;have U:P.funcs[a0.fn]?=ad E0:=by rw[n0];exact b0
  have J0:∀q,(∀v,q=ad v->bB N (·<k0.n) v)->F.finish f T ds q u k0=.ok (e,V,f0)->
   Steps P (lone a0 ({m with mode:=zt N p1}::X.cs ι u) w1) (lone {m with mode:=xB N q} (X.cs ι u) w1)->
   kd D P X b ι σ w e V f0 (lone (my b (bb ι T).toArray (aq (el ι)<|.fn g B args::ds) todo<|xB ι mode) (X.cs ι u) w):=by
   intro q K0 p0 q0;refine kd.p6 (Steps.trans z q0) S ?_;have:=t0.finish _ _ _ _ _ _ _ _ _ p0 X b N w1 todo O0 s n C R1 ⟨I.kY,ju S.k T I.T,ub S.k I0,vC S.k u I.bp⟩ K0;rw[F0,G0,H0]at this;exact aw0
  cases e1 with
  |ret v=>
   simp only at h y;have J:=aoV (P:=P) (c:={m with mode:=zt N p1}) (cs:=X.cs ι u) y.1 a t U y.2;split at h;rename_i L0;exact J0 (ad L0) (by intro x M0;cases M0;exact B0) h<|.one J;rename_i N0;refine J0 ae aY h<|.one ?_;rw[J]
   cases p1 with
   |none=>rfl
   |some p=>
    have⟨L0,V0⟩:=p
    cases V0 with
    |false=>exact(N0 L0 aM).elim
    |true=>rfl
  |panic v=>simp only at h y;split at h;refine J0 (ad v) (by intro x M0;cases M0;exact A0) h<|.one ?_;have:=api (P:=P) (c:={m with mode:=zt N ae}) (cs:=X.cs ι u) y a U (w:=w1);exact avO;exact auu
end
end
