/- The walks of the functions that QueryMakes reaches, program and reference, first part: sorts, queries, stores, flow. No statement of this seat stands here, and no condition. -/
import Derived.Shelf.SlSortCmp.NoneTotal
import Derived.Shelf.SlGeneric
import Derived.Ground.SlsfProg
import Derived.Test.YtgdldhogfmambaaGreatDoorProg
import Derived.Shelf.SlIterI.Sorted
import Derived.Shelf.SlIterI.Collect
import Derived.Shelf.SortM.Plain
import Derived.Shelf.SortM.SortNone
import Derived.Ground.GgzProg
import Derived.Ground.SlgmProg
import Derived.Test.YtgdldhogfmambaaGreatDoorxC
import Derived.Test.YtgdldhogfmambaaGreatDoorxD
open Bool renaming true->aa,false->ab
open Option renaming some->ad,none->ae
open And renaming intro->af
open Nat renaming beq->ag,blt->ah,ble->ai,shiftLeft->aj
open List renaming replicate->ak,range->ao,map->aq,take->ar,drop->au,length->aA
open Go.IntKind renaming wrap->av
open BitVec renaming ofInt->aw
open Decidable renaming decide->ax
open Go.Result renaming andThen_ok->ay
open Go.Sem renaming run_pure->az
set_option linter.all false
noncomputable section
namespace Go.Proofs
open Go.Shelf Go.RowKit Go.Lib Go.Sort
def CU{P:Program}{f:FuncId}{B:Func}(h:((P.funcs[f]?.map (·.name)).getD ""== "runtime.NumGoroutine")=ab)(e:P.funcs[f]?=ad {B with name:=(P.funcs[f]?.map (·.name)).getD ""}):Bears P f B:=⟨_,h,e⟩
def Tryz.Za:Ren:=⟨λ|6=>403|15=>183|14=>437|28=>240|29=>241|20=>450|21=>451|22=>452|23=>453|24=>454|25=>455|26=>456|27=>457|46=>461|47=>303|48=>304|49=>462|50=>463|57=>471|n=>n,λ|22=>66|24=>3|25=>397|3=>3|39=>262|0=>0|53=>357|55=>23|4=>4|46=>351|45=>350|50=>323|5=>5|9=>9|66=>408|70=>412|76=>466|77=>334|n=>n,λ|n=>n⟩
def Tryz.hS:Go.Proofs.SlLaysF.n6 Tryz.prog Tryz.Za:=by constructor<;>first|kernel_rfl|exact CU (by kernel_rfl) (by kernel_rfl)|(intro w;kernel_rfl)
def Tryz.Zc:Ren:=⟨λ|6=>116|15=>183|14=>182|28=>240|29=>241|20=>232|21=>233|22=>234|23=>235|24=>236|25=>237|26=>238|27=>239|46=>302|47=>303|48=>304|49=>305|50=>306|57=>361|n=>n,λ|22=>125|24=>114|25=>201|3=>3|39=>262|0=>0|53=>357|55=>23|4=>4|46=>351|45=>350|50=>323|5=>5|9=>9|66=>408|70=>412|76=>466|77=>334|n=>n,λ|n=>n⟩
def Tryz.Zb:Go.Proofs.SlLaysF0.n6 Tryz.prog Tryz.Zc:=by constructor<;>first|kernel_rfl|exact CU (by kernel_rfl) (by kernel_rfl)|(intro w;kernel_rfl)
end Go.Proofs
namespace Go.Dt
open Go.Sort Go.Proofs Go.Shelf Go.RowKit Go.Lib
def SS(enc:Nat->List Value)(f:∀i,aA (enc i)=1)(d:Array Nat):flatK enc 1 d=d.map λi=>(enc i)[0]!:=by
 apply Ff;intro t;by_cases D:t<d.size;have h:t<(flatK enc 1 d).size:=by simpa using D
 have:=get_flatK enc 1 d t (by simpa using D);rw[vx (flatK enc 1 d) t h,Nat.div_one,Nat.mod_one,vx d t D]at this;rw[zR h,this,Array.getElem?_map,zR D];rfl;rw[I7<|by simpa using D,I7<|by simpa using D]
def TB(f:Nat->Value)(d:Array Nat)(j:Nat)(h:j<d.size):(d.map f)[j]! =f d[j]!:=by rw[vx (d.map f) j auF,vx d j h,Array.getElem_map]
def alY(enc:Nat->List Value)(f:∀i,aA (enc i)=1)(w:World)(t off:Nat)(d:Array Nat):putRow id w t off (flatK enc 1 d)=putRow (λi=>(enc i)[0]!) w t off d:=by unfold putRow putCells;rw[SS enc f];simp only[Array.size_map];congr 1;funext c;congr 1;funext k x;split;rw[TB _ _ _ aW];rfl;rfl
def ahH{c:List Value}(h:aA c=1):c.headD Go.undef=c[0]!:=by
 match c,h with
 |[v],_=>rfl
def aoy:JF Tryz.prog 403 1 ab:=by
 refine⟨λz w=>AnyF.slices_SortFunc_none (ρ:=Tryz.Za) {Tryz.hS with} ae 0 z w,?_⟩;intro w t Z I n E g U N b O f l X F G A V;have P:∀(w:World) (d:Array Nat),putRow id w t Z (flatK E 1 d)=putRow (λi=>(E i)[0]!) w t Z d:=λw d=>alY E f w t Z d;have h:=Any.slices_SortFunc_eq Tryz.hS (λi=>(E i)[0]!) (λi=>?_) N X g U t Z I (Array.range n) w F (λm S q s x y=>?_) (λj u=>?_) V (by simpa using O);simp only[Fh]at h;refine h.mono ?_;rintro e o ⟨rfl,m,S,rfl⟩;refine⟨aM,m,S,?_⟩;rw[P];rfl;have a:=f i;have:=l i;show(E i)[0]!.oneCell'=aa;revert a this;generalize E i=c;intro a this
 match c,a with
 |[v],_=>show([v]:List Value)[0]!.oneCell'=aa;exact this v aY
 have Q:=G m S q (by simpa using s) x y;rw[P]at Q;simp only[yJ,fR,ff,ahH<|f _]at Q;exact Q;have:=A j (by simpa using u);rw[SS E f,TB _ _ _<|by simpa using u]at this;exact aw0
def aoz:JF Tryz.prog 116 6 aa:=by refine⟨λz w=>AnyF.slices_SortFunc_none (ρ:=Tryz.Zc) {Tryz.Zb with} ae 0 z w,?_⟩;intro w t Z I n E g U N Q O f l X j G F V;have h:=AnyQ.slices_SortFunc_eq Tryz.Zb 6 Tryz.isAgg114 Tryz.sizeOf114 E f l N X g U t Z I (Array.range n) w j (λm S q s x y=>G m S q (by simpa using s) x y) F V (by simpa using O);simp only[Fh]at h;exact h
end Go.Dt
namespace Go.Proofs
open Go.RowKit Go.Maps Go.Sort Go.Shelf
def Tryz.UT:Ren:=⟨λ|7=>98|10=>166|n=>n,λ|23=>184|26=>3|3=>4|28=>182|0=>0|27=>181|33=>105|4=>4|n=>n,λ|n=>n⟩
def Tryz.aiP:Go.Proofs.SlLaysZI.n7 Tryz.prog Tryz.UT:=by constructor<;>first|kernel_rfl|exact CU (by kernel_rfl) (by kernel_rfl)|(intro w;kernel_rfl)
def Tryz.Zf:Ren:=⟨λ|6=>97|8=>164|9=>165|11=>225|13=>183|12=>226|23=>240|24=>241|14=>291|15=>292|16=>293|17=>294|18=>295|19=>296|20=>297|21=>298|22=>299|25=>358|26=>303|27=>304|28=>359|29=>360|30=>357|31=>409|n=>n,λ|26=>3|28=>182|24=>66|0=>0|3=>3|37=>262|48=>357|50=>23|4=>4|40=>351|39=>350|45=>323|5=>5|9=>9|51=>408|55=>412|57=>466|58=>334|33=>105|n=>n,λ|n=>n⟩
def Tryz.aoB:Go.Proofs.SlLaysZI.n6 Tryz.prog Tryz.Zf:=by constructor<;>first|kernel_rfl|exact CU (by kernel_rfl) (by kernel_rfl)|(intro w;kernel_rfl)
def Tryz.aox:Ren:=⟨λ|5=>165|8=>183|7=>226|19=>240|20=>241|10=>291|11=>292|12=>293|13=>294|14=>295|15=>296|16=>297|17=>298|18=>299|30=>358|31=>303|32=>304|33=>359|34=>360|35=>357|40=>409|n=>n,λ|23=>66|25=>3|3=>3|32=>262|22=>66|0=>0|44=>357|46=>23|4=>4|36=>351|35=>350|41=>323|5=>5|9=>9|53=>408|57=>412|63=>466|64=>334|n=>n,λ|n=>n⟩
def Tryz.Y9:Go.Proofs.SlLaysM.n5 Tryz.prog Tryz.aox:=by constructor<;>first|kernel_rfl|exact CU (by kernel_rfl) (by kernel_rfl)|(intro w;kernel_rfl)
def Tryz.aoC(m:Nat):AnyZI.SortsIn Tryz.prog Tryz.Zf Fence.wide m:=
 ⟨λt Z I G W F V c=>callsIn_wide.2<|AnyM.slices_Sort_int Tryz.Y9 t Z I G W F V c,
  λp I W=>callsIn_wide.2<|AnyM.slices_Sort_int_none Tryz.Y9 p I W⟩
end Go.Proofs
namespace Go.Dt
open Go.Proofs Go.RowKit Go.Maps Go.Sort Go.Shelf
def zy:Value->Option (DataW Unit×List MemPlace):=λ_=>ad (.nil,[])
set_option maxRecDepth 100000
def aih(es:List MapEntry)(W:aL)(h:es.map (·.key)=W.map (Value.int .i64))(P:∀k∈W,(Lit.int .i64 k).wf=aa):
 (∀x∈es,∃y,WideElems.rd Tryz.prog 3 zy x=ad y)/\ es.map (WideElems.rg Tryz.prog 3 zy)=W.map λk=>(Lit.int .i64 k,.nil):=by
 induction es generalizing W with
 |nil=>cases W with
  |nil=>exact⟨λx s=>(by cases s),aM⟩
  |cons k W=>cases h
 |cons x es I=>cases W with
  |nil=>cases h
  |cons k W=>
   simp only[cL,Je]at h;have⟨e,g⟩:=I W h.2 λk f=>P k<|dR _ f;have r:WideElems.rd Tryz.prog 3 zy x=ad (Lit.int .i64 k,.nil):=by unfold WideElems.rd;rw[h.1,keyOf_int_mk Tryz.underlying3<|P k aY];rfl
   refine⟨λy Q=>?_,?_⟩
   rcases dz.1 Q with rfl|Q
   exact⟨_,r⟩;exact e y Q;rw[cL,cL,g];congr 1;unfold WideElems.rg;rw[r];rfl
def aiR:OQ Tryz.prog 97 166 3:=by
 intro w r b X d W Q l F m f g q;have⟨O,e⟩:=aih X.toList W f g
 let J:DataW Unit:=.map<|(X.toList.map<|WideElems.rg Tryz.prog 3 zy).foldr DataW.insert []
 have D:w.ownsMap Tryz.prog 3 zy b X.size J:=⟨X,d,F,⟨by simp only[maxLen];omega,m,O⟩,bu _,aM⟩;have V:Maps.size J=X.size:=by simp[J,Maps.size,length_sorted]
 have N:SeqGives Fence.wide 2 Tryz.prog 166 #[.pointer (ad ⟨r,0,ae⟩)] encZ (λG=>G.Perm<|intKeys J) (Maps.size J) w:=AnyZI.keys_gives (ρ:=Tryz.UT) {Tryz.aiP with} Fence.wide _ trivial rfl aW r b X.size J w l Q D
 have o:=AnyZI.sorted_in Tryz.aoB Fence.wide 5 trivial trivial trivial trivial rfl aW (Tryz.aoC _) (enters_of Tryz.func165 aV aM) 166 #[.pointer (ad ⟨r,0,ae⟩)] trivial (enters_of Tryz.func166 aV aM) _ _ (by rw[V];simp only[maxLen];omega) (by rw[V];omega) w N;refine(callsIn_wide.1 o).mono ?_;rintro T n ⟨v,G,rfl,S,j,A,t⟩;have M:G.Perm W:=by
  refine S.trans ?_;have:=(WideShapes.sorted_perm<|X.toList.map<|WideElems.rg Tryz.prog 3 zy).map λp=>intOf p.1;rw[e,pB]at this;have C:(W.map<|(λp:Lit×DataW Unit=>intOf p.1)∘λk=>(Lit.int .i64 k,.nil))=W:=by rw[show((λp:Lit×DataW Unit=>intOf p.1)∘λk=>(Lit.int .i64 k,.nil))=id from aM,List.map_id]
  rw[C]at this;show((((X.toList.map<|WideElems.rg Tryz.prog 3 zy).foldr DataW.insert []).map λp=>intOf p.1).Perm W);rw[e];exact aw0
 have s:G.mergeSort (λx y=>decide (x<=y))=hS W:=by
  have B:∀a b c:Int,ax (a<=b)=aa->ax (b<=c)=aa->ax (a<=c)=aa:=λa b c h k=>aww;have z:∀a b:Int,(ax (a<=b)||ax (b<=a))=aa:=λa b=>by simp only[iB,c_];omega
  unfold hS;refine List.Perm.eq_of_pairwise (le:=λx y=>decide (x<=y)) (λa b _ _ h k=>?_) (Pb B z G) (Pb B z W) ?_;simp only[c_]at h k;omega;exact(Jo _ _).trans<|M.trans (Jo _ _).symm
 have P:aA G=aA (hS W):=by rw[<-s,List.length_mergeSort]
 rw[s,P]at j;refine⟨v,aM,j,?_,t⟩;rw[A,<-List.length_eq_zero_iff,P,List.length_eq_zero_iff]
end Go.Dt
namespace Go.Proofs.YtgdldhogfmambaaGreatDoor
open Go Go.Dt
abbrev oi:Lo:=⟨True⟩
def wu:a_:=@a_.Bc jJ ID Tryz.prog
def ZE:fu wu Tryz.prog:=@af5 jJ _ _ tx
def ZF(m:hZ):wu.jY m↔@nP jJ wu Tryz.prog m:=@agP jJ _ _ m
def ZG:@uZ jJ wu Tryz.prog:=@Wi jJ _ _ λ_=>rfl
def HK:List AV->St->R (AV×St)
 |[],σ=>.ok (cO aa,σ)
 |_,_=>.error ""
def MS(f:Nat):Option (List AV->St->R (AV×St)):=bif ag f 403 then ad (xL wu ab 1)else bif ag f 116 then ad (xL wu aa 6)else bif ag f 97 then ad (xK 166 3)else bif ag f 6 then ad HK else ae
def yw:List (List UInt8):=[[99,111,117,110,116],[115,117,109],[109,105,110],[109,97,120],[102,105,114,115,116],[108,97,115,116]]
def bO:a_:={@a_.Bc oi ID Tryz.prog with tn:=MS,vy:=yw}
def ap4:fu bO Tryz.prog:=⟨tx.func,tx.lz,tx.ma,tx.depth,tx.mixed⟩
def ap5(m:hZ):bO.jY m↔@nP oi bO Tryz.prog m:=by letI:=oi;exact awb
def agI{w w':World}(h:@mY jJ w w'):@mY oi w w':=@mY.mk oi _ _ (@mY.os jJ _ _ h) ⟨(@mY.tape jJ _ _ h).1,.inl trivial⟩ (@mY.output jJ _ _ h) (@mY.size jJ _ _ h)<|@mY.old jJ _ _ h
def VI:@nP oi bO Tryz.prog mA:=by have h:=(ZD mA).1 ajG;refine@nP.mk oi _ _ _ (@nP.nd jJ _ _ _ h) λι w R i m=>?_;refine(@nP.call jJ _ _ _ h ι w R i m).mono ?_;rintro Q n ⟨o,V,a,d,A,Z⟩;exact⟨o,V,a,d,agI A,Z⟩
def alo{args:aD}{σ:St}{v:AV}{σ':St}(h:HK args σ=.ok (v,σ')){ι:Nat->Dt.bf}{w:World}(R:bz bO ι σ w):
 Calls Tryz.prog 6 (bb ι args).toArray w λen w'=>∃ι',en=.returned (aQ ι' v)/\ bz bO ι' σ' w'/\ @cj oi ι σ w ι' σ' w'/\ bB ι' (·<σ'.n) v:=by
 letI:=oi;unfold HK at h;split at h;cases h;have f:=Lv R R.mem;have P:(qJ bO σ.M).l=[.c5]:=by show uF bO.gx=_;rw[show bO.gx=1 by kernel_rfl];rfl
 have c:=f.NX;rw[P]at c
 have Q:=VI.call ι w c (by trivial) (λb e=>by
  have:b=0:=by have:b<1:=e;omega
  subst this;rfl)
 refine Q.mono ?_;rintro en w' ⟨o,rfl,S,z,m,O⟩;have s:xz mA σ=.ok (.ret<|cO aa,σ):=aX;have⟨ι',V,a,d,A⟩:=VW s ⟨aM,aM⟩ R.mem R VI.nd S z m O;exact⟨ι',V.symm,a,d,A⟩;exact avN
def ap6:@uZ oi bO Tryz.prog:=by
 intro f g o args σ v z h ι w R b;change MS f=ad g at o;unfold MS at o
 cases V:ag f 403 with
 |true=>rw[V]at o;cases o;have:=dB V;subst this;exact@WM oi bO Tryz.prog wu aM ZE ZF ZG 403 1 ab aT (λ_=>rfl) aoy _ _ _ _ h _ _ R b
 |false=>
  rw[V]at o;simp only[br]at o
  cases a:ag f 116 with
  |true=>rw[a]at o;cases o;have:=dB a;subst this;exact@WM oi bO Tryz.prog wu aM ZE ZF ZG 116 6 aa aT (λh=>by cases h) aoz _ _ _ _ h _ _ R b
  |false=>
   rw[a]at o;simp only[br]at o
   cases d:ag f 97 with
   |true=>rw[d]at o;cases o;have:=dB d;subst this;exact@alp oi bO Tryz.prog trivial 97 166 3 aiR _ _ _ _ h _ _ R
   |false=>
    rw[d]at o;simp only[br]at o
    cases A:ag f 6 with
    |true=>rw[A]at o;cases o;have:=dB A;subst this;exact alo h R
    |false=>rw[A]at o;cases o
end Go.Proofs.YtgdldhogfmambaaGreatDoor
namespace Go.Proofs.YtgdldhogfmambaaGreatDoor
open Go Go.Dt Go.Dt.Vm
section
structure pw(w:World)(σ:St)(ι:Nat->Dt.bf)(σ':St)(ι':Nat->Dt.bf):Prop where
 n:σ.n<=σ'.n
 old:∀b,b<σ.n->σ'.a7 b=σ.a7 b
 io:∀b,b<σ.n->ι' b=ι b
 eH:bz bO ι' σ' w
 xj:∀b,b<σ'.n->(σ'.a7 b).fG=ab
 M:σ'.M=σ.M
def pw.refl{w:World}{σ:St}{ι:Nat->Dt.bf}(R:bz bO ι σ w)(h:∀b,b<σ.n->(σ.a7 b).fG=ab):pw w σ ι σ ι:=⟨bu _,λ_ _=>rfl,λ_ _=>rfl,R,h,aM⟩
def pw.trans{w:World}{σ σ1 d:St}{ι I B:Nat->Dt.bf}(h:pw w σ ι σ1 I)(k:pw w σ1 I d B):pw w σ ι d B:=⟨jS h.n k.n,λb e=>(k.old b<|dc e h.n).trans<|h.old b e,λb e=>(k.io b<|dc e h.n).trans<|h.io b e,k.eH,k.xj,k.M.trans h.M⟩
def Ad(w:World)(q:List VV)(cs:List Value):Prop:=∀σ ι,bz bO ι σ w->(∀b,b<σ.n->(σ.a7 b).fG=ab)->
 ∃σ' ι' E,pw w σ ι σ' ι'/\ bb ι' E=cs/\ b5 ι' (·<σ'.n) E/\ E.all cT=aa/\ ∀L,RL σ' (λb=>b<σ'.n) L (λ_ _=>False) q E
variable{w:World}
def Ad.nil:Ad w [] []:=λσ ι R h=>⟨σ,ι,[],pw.refl R h,aM,trivial,aM,λ_=>RL.jd⟩
def Ad.aN{v:Value}(h1:lL v=aa)(a:uw v=aa)(d:cT (.aN v)=aa):Ad w [.aN v] [v]:=λσ ι R h=>⟨σ,ι,[.aN v],pw.refl R h,aM,⟨trivial,trivial⟩,by simp[d],λ_=>RL.gb (by simp only[RR];exact⟨trivial,h1,a⟩) RL.jd⟩
def Gc(ι:Nat->Dt.bf)(l r:aD):bb ι (l++r)=bb ι l++bb ι r:=by simp[mK]
def rS{ι:Nat->Dt.bf}{A:aE}{l r:aD}(h:b5 ι A l)(k:b5 ι A r):b5 ι A (l++r):=by
 rw[jF]at h k|-
 grind
def Ad.iO{q s:aC}{cs ds:List Value}(h:Ad w q cs)(k:Ad w s ds):Ad w (q++s) (cs++ds):=λσ ι R m=>by have⟨G,I,E,f,C,Q,N,u⟩:=h σ ι R m;have⟨d,B,a,z,M,g,O,P⟩:=k G I f.eH f.xj;have j:b5 B (·<d.n) E:=ju (λb e=>⟨dc e z.n,z.io b e⟩) E Q;refine⟨d,B,E++a,f.trans z,?_,rS j g,by rw[Fq,N,O];rfl,λL=>RL.append ?_<|P L⟩;rw[Gc,M,lx (λb e=>z.io b e) E Q,C];exact RL.mono z.n (λb e _=>⟨dc e z.n,dc e z.n,z.old b e⟩) (λ_ _ h=>h) _ _<|u L
def Ad.Ym{sz:Nat}:∀{es:aB} {css:List (List Value)},aA es=aA css->(∀i (h1:i<aA es) (a:i<aA css),Ad w es[i] css[i]/\ es[i].length=sz/\ css[i].length=sz)->
 ∀σ ι,bz bO ι σ w->(∀b,b<σ.n->(σ.a7 b).fG=ab)->∃σ' ι' E,pw w σ ι σ' ι'/\ bb ι' E=css.flatten/\ b5 ι' (·<σ'.n) E/\ ∀L,RE σ' (λb=>b<σ'.n) L (λ_ _=>False) sz es E
 |[],[],_,_=>λσ ι R h=>⟨σ,ι,[],pw.refl R h,aM,trivial,λ_=>RE.jd⟩
 |[],_::_,h,_=>auu
 |_::_,[],h,_=>auu
 |e::es,c::css,l,h=>λσ ι R m=>by
  have⟨n,h1,a⟩:=h 0 aY aY;have⟨G,I,E,f,C,Q,N,u⟩:=n σ ι R m;have⟨d,B,M,z,Y,A,P⟩:=Ad.Ym (sz:=sz) (es:=es) (css:=css) (by simpa using l) (λi O o=>h (i+1) aul aul) G I f.eH f.xj;have j:b5 B (·<d.n) E:=ju (λb X=>⟨dc X z.n,z.io b X⟩) E Q;have g:aA E=sz:=by have:=np aA C;rw[mK,bj]at this;omega
  refine⟨d,B,E++M,f.trans z,?_,rS j A,λL=>RE.gb g h1 N ?_<|P L⟩;rw[Gc,Y,lx (λb X=>z.io b X) E Q,C];rfl;exact RL.mono z.n (λb X _=>⟨dc X z.n,dc X z.n,z.old b X⟩) (λ_ _ h=>h) _ _<|u L
def Ad.slice{sz:Nat}{es:aB}{css:List (List Value)}(l:aA es=aA css)(h:∀i (h1:i<aA es) (a:i<aA css),Ad w es[i] css[i]/\ es[i].length=sz/\ css[i].length=sz)(h0:0<sz)
 {b off cap:Nat}(S:aA es<=cap)(P:es≠[]->∃d e fz,w.heap[b]?=ad (.cells d e fz)/\ ∀i v,css.flatten[i]?=ad v->d[off+i]?=ad v):Ad w [.fz es] [.slice (ad ⟨b,off,ae⟩) (aA es) cap]:=λσ ι R m=>by
 by_cases n:es=[];subst n;have q:bz bO (fc ι σ.n ⟨b,off,cap,1⟩) (σ.push .c5) w:=R.JL (by trivial) λx s _ V=>by
  rcases V with V|V
  rw[m x s]at V;cases V;cases V
 have D:pw w σ ι (σ.push .c5) (fc ι σ.n ⟨b,off,cap,1⟩):=⟨wH _,λb X=>eP X,λb X=>ez<|yq X,q,λx s=>by
  by_cases f:x=σ.n;subst f;rw[kk];rfl;have:x<σ.n:=by have:x<σ.n+1:=s;omega
  rw[eP this];exact m x this,aM⟩
 refine⟨_,_,[.ik σ.n 0 0 1],D,?_,?_,by simp[cT,cU,AV.dN],λL=>RL.gb ?_ RL.jd⟩;simp only[bb,aQ,eg];by_cases r:cap=0;subst r;rfl;have:cap-0/1≠0:=aW;rw[cG this];simp[Dt.bf.at];simp only[b5,bB,eg];exact aw2;simp only[RR];exact .inl ⟨trivial,nR _⟩;have⟨G,I,E,B,C,Q,u⟩:=Ad.Ym l h σ ι R m;have⟨d,e,fz,X,y⟩:=P n;have q:bz bO (fc I G.n ⟨b,off,cap,sz⟩) (G.push<|.cells E e ab sz) w:=by
  refine B.eH.JL ?_ λx s _ V=>?_;have j:b5 (fc I G.n ⟨b,off,cap,sz⟩) (·<G.n+1) E:=ju (λb X=>⟨uX X,ez<|yq X⟩) E Q;refine⟨j,aM,d,fz,X,λi v g=>?_,λh=>by cases h⟩;refine y i _ ?_;rw[<-C,mK,hY,g];have Y:=jF.1 Q v<|nO g;show ad (aQ I v)=_;rw[nY (ι':=fc I G.n ⟨b,off,cap,sz⟩) (λb X=>ez<|yq X) v Y]
  rcases V with V|V
  rw[B.xj x s]at V;cases V;cases V
 have z:aA E=aA es*sz:=RE.len<|u 0
 have D:pw w G I (G.push<|.cells E e ab sz) (fc I G.n ⟨b,off,cap,sz⟩):=⟨wH _,λb X=>eP X,λb X=>ez<|yq X,q,λx s=>by
  by_cases f:x=G.n;subst f;rw[kk];rfl;have:x<G.n:=by have:x<G.n+1:=s;omega
  rw[eP this];exact B.xj x this,aM⟩
 refine⟨_,_,[.slice G.n 0 (aA es) (ad cap) sz],B.trans D,?_,⟨nR _,trivial⟩,by simp[cT,cU,AV.dN],λL=>RL.gb ?_ RL.jd⟩;simp only[bb,aQ,eg];rfl;simp only[RR];refine .inr ⟨G.n,0,aA es,ad cap,sz,E,e,ab,sz,E,aM,nR _,nR _,kk,aM,?_,h0,λc O=>by cases O;exact S,?_⟩;unfold fO
 grind
 exact RE.mono (wH _) (λb X _=>⟨uX X,uX X,eP X⟩) (λ_ _ h=>h) sz es E<|u L
end
end Go.Proofs.YtgdldhogfmambaaGreatDoor
namespace Go.Proofs.YtgdldhogfmambaaGreatDoor
open Go Go.Dt Go.Dt.Vm
set_option maxRecDepth 100000
def rg(a b:Nat):List Nat:=List.range' a<|b-a
def HL:List (Nat×Nat×List Nat):=[(3,4,[3,4,5,0,1,2,6,7,8,9,10,11,12,14,15,13,16]),(8,14,[1,2,0,3,4,5,6,7]),(10,14,[1,2,0,3,4,5,6,7]),(11,1,[0,1,4,5,6,2,3,7]),(42,6,[0,1,2,3,4,10,11,12,5,6,7,8,9,13]),(47,1,rg 0 14++rg 15 17++rg 14 15++rg 17 18),(51,6,[0,1,2,3,4,10,11,12,5,6,7,8,9,13]),(52,6,[0,1,2,3,8,9,10,4,5,6,7,11]),(67,11,[0,5,6,1,2,3,4,7]),(75,6,[3,4,0,1,2,5,6]),(79,13,rg 0 2++rg 5 16++rg 2 5++rg 16 18),(140,7,[3,4,5,0,1,2,6,7]),(141,19,[1,2,0,3,4,5]),(142,19,rg 4 6++rg 0 4++rg 6 12),(142,22,[4,5,0,1,2,3,6,7]),(142,23,rg 3 12++rg 0 3++rg 12 15),(142,24,rg 4 7++rg 0 4++rg 7 14),(142,30,[0,1,2,7,8,9,3,4,5,6,10,11,12]),(144,3,[1,2,0,3,4]),(154,21,rg 2 11++rg 0 2++rg 11 17),(154,22,rg 3 12++rg 0 3++rg 12 15),(154,24,[0,1,2,7,8,9,3,4,5,6,10,11,12]),(201,10,[2,3,0,1,4]),(201,19,[2,3,0,1,4]),(203,5,rg 3 10++rg 0 3++rg 10 13),(214,38,rg 1 11++rg 0 1++rg 11 14),(217,1,[2,3,4,5,0,1,6,7]),(224,1,rg 0 14++rg 15 17++rg 14 15++rg 17 18),(228,6,[0,1,2,3,4,10,11,12,5,6,7,8,9,13]),(232,6,rg 0 2++rg 5 16++rg 2 5++rg 16 18),(233,10,rg 0 2++rg 6 18++rg 2 6++rg 18 20),(234,10,rg 0 2++rg 6 18++rg 2 6++rg 18 20),(236,3,rg 0 2++rg 4 14++rg 2 4++rg 14 16),(237,11,rg 0 2++rg 5 16++rg 2 5++rg 16 18),(237,17,rg 0 2++rg 5 16++rg 2 5++rg 16 18),(237,23,rg 0 2++rg 5 16++rg 2 5++rg 16 18),(238,1,rg 0 2++rg 4 14++rg 2 4++rg 14 16),(238,8,rg 0 2++rg 4 14++rg 2 4++rg 14 16),(239,1,rg 0 2++rg 4 14++rg 2 4++rg 14 16),(239,8,rg 0 2++rg 4 14++rg 2 4++rg 14 16),(239,10,rg 0 2++rg 4 14++rg 2 4++rg 14 16),(239,18,rg 0 2++rg 4 14++rg 2 4++rg 14 16),(239,21,rg 0 2++rg 4 14++rg 2 4++rg 14 16),(260,2,[0,2,3,4,5,6,7,8,9,10,11,12,16,17,18,1,13,14,15,19,20,21]),(280,5,rg 6 14++rg 0 6++rg 14 17),(291,6,rg 0 2++rg 5 16++rg 2 5++rg 16 18),(292,10,rg 0 2++rg 6 18++rg 2 6++rg 18 20),(293,10,rg 0 2++rg 6 18++rg 2 6++rg 18 20),(295,3,rg 0 2++rg 4 14++rg 2 4++rg 14 16),(296,11,rg 0 2++rg 5 16++rg 2 5++rg 16 18),(296,17,rg 0 2++rg 5 16++rg 2 5++rg 16 18),(296,23,rg 0 2++rg 5 16++rg 2 5++rg 16 18),(298,1,rg 0 2++rg 4 14++rg 2 4++rg 14 16),(298,8,rg 0 2++rg 4 14++rg 2 4++rg 14 16),(299,1,rg 0 2++rg 4 14++rg 2 4++rg 14 16),(299,8,rg 0 2++rg 4 14++rg 2 4++rg 14 16),(299,10,rg 0 2++rg 4 14++rg 2 4++rg 14 16),(299,18,rg 0 2++rg 4 14++rg 2 4++rg 14 16),(299,21,rg 0 2++rg 4 14++rg 2 4++rg 14 16),(302,6,rg 0 4++rg 8 22++rg 4 8++rg 22 24),(336,9,[1,2,3,4,5,6,7,0,8,9]),(338,6,rg 1 11++rg 0 1++rg 11 14),(338,7,[1,2,3,4,0,5,6,7,8]),(353,5,rg 4 7++rg 0 4++rg 7 12),(358,6,rg 0 4++rg 8 22++rg 4 8++rg 22 24),(393,1,[3,4,0,1,2,5,6]),(405,3,rg 0 2++rg 4 14++rg 2 4++rg 14 16),(450,6,rg 0 2++rg 5 16++rg 2 5++rg 16 18),(451,10,rg 0 2++rg 6 18++rg 2 6++rg 18 20),(452,10,rg 0 2++rg 6 18++rg 2 6++rg 18 20),(454,3,rg 0 2++rg 4 14++rg 2 4++rg 14 16),(455,11,rg 0 2++rg 5 16++rg 2 5++rg 16 18),(455,17,rg 0 2++rg 5 16++rg 2 5++rg 16 18),(455,23,rg 0 2++rg 5 16++rg 2 5++rg 16 18),(456,1,rg 0 2++rg 4 14++rg 2 4++rg 14 16),(456,8,rg 0 2++rg 4 14++rg 2 4++rg 14 16),(457,1,rg 0 2++rg 4 14++rg 2 4++rg 14 16),(457,8,rg 0 2++rg 4 14++rg 2 4++rg 14 16),(457,10,rg 0 2++rg 4 14++rg 2 4++rg 14 16),(457,18,rg 0 2++rg 4 14++rg 2 4++rg 14 16),(457,21,rg 0 2++rg 4 14++rg 2 4++rg 14 16),(461,6,rg 0 4++rg 8 22++rg 4 8++rg 22 24)]
def MT:List (Nat×Nat×List Nat):=HL++[(6,5,[0,1,2,3,4,5,6,7,11,12,8,9,10,13,14,15]),(20,10,[0,1,2,3,4,5,6,7,10,8,9]),(61,8,rg 0 15++rg 16 18++rg 15 16++rg 18 19),(62,11,rg 0 17++rg 18 20++rg 17 18++rg 20 21),(62,15,[0,1,2,3,7,8,4,5,6,9,10]),(62,16,rg 0 1++rg 16 17++rg 1 16++rg 17 19),(64,3,[1,2,3,4,5,6,7,0,8,9,12,13,14,15,10,11]),(64,5,[0,1,2,3,4,5,6,7,8,11,12,13,9,14,10,15]),(128,9,[1,2,3,0,4,5,6]),(130,3,[0,3,1,4,2,5]),(130,5,[0,2,1,3,4]),(130,11,[0,2,1,3,4]),(132,2,[0,1,2,3,4,5,6,7,8,11,12,9,10,13,14]),(245,6,rg 2 13++rg 0 1++rg 13 16++rg 1 2++rg 16 20),(245,12,rg 3 10++rg 0 3++rg 10 13),(245,18,rg 3 10++rg 0 3++rg 10 13),(246,1,rg 1 9++rg 0 1++rg 9 13),(246,10,[1,2,0,3,4]),(246,15,rg 0 15++rg 17 19++rg 15 17++rg 19 21),(246,17,[1,2,0,3,4]),(246,29,[0,2,3,4,5,1,6,7,8,9]),(248,20,[0,1,2,3,4,5,6,7,8,9,10,11,13,14,12,15]),(315,1,[0,1,5,6,2,3,4,7,8]),(316,6,[2,3,4,0,1,5,6,7,8,9,10]),(316,11,rg 8 10++rg 0 8++rg 10 16),(365,10,[1,2,0,3]),(365,12,rg 5 13++rg 0 5++rg 13 16),(366,9,[1,2,0,3]),(411,3,[6,7,1,2,3,4,5,8,9,10,11,0,12,13,14]),(411,12,[1,2,3,4,5,6,7,0,8,9,10]),(414,6,rg 0 2++rg 5 16++rg 2 5++rg 16 18),(415,10,rg 0 2++rg 6 18++rg 2 6++rg 18 20),(416,10,rg 0 2++rg 6 18++rg 2 6++rg 18 20),(418,3,rg 0 2++rg 4 14++rg 2 4++rg 14 16),(419,11,rg 0 2++rg 5 16++rg 2 5++rg 16 18),(419,17,rg 0 2++rg 5 16++rg 2 5++rg 16 18),(419,23,rg 0 2++rg 5 16++rg 2 5++rg 16 18),(420,1,rg 0 2++rg 4 14++rg 2 4++rg 14 16),(420,8,rg 0 2++rg 4 14++rg 2 4++rg 14 16),(421,1,rg 0 2++rg 4 14++rg 2 4++rg 14 16),(421,8,rg 0 2++rg 4 14++rg 2 4++rg 14 16),(421,10,rg 0 2++rg 4 14++rg 2 4++rg 14 16),(421,18,rg 0 2++rg 4 14++rg 2 4++rg 14 16),(421,21,rg 0 2++rg 4 14++rg 2 4++rg 14 16),(443,6,rg 0 4++rg 8 22++rg 4 8++rg 22 24),(446,6,rg 0 2++rg 5 16++rg 2 5++rg 16 18),(447,11,rg 0 2++rg 5 16++rg 2 5++rg 16 18),(447,23,rg 0 2++rg 5 16++rg 2 5++rg 16 18),(470,3,rg 0 4++rg 8 22++rg 4 8++rg 22 24)]
def Eo:List (Nat×Nat×List Nat)->Nat->Nat->List Nat
 |[],_,_=>[]
 |(f,i,o)::l,g,j=>bif ag f g then(bif ag i j then o else Eo l g j)else Eo l g j
def DD(f:Nat):Bool:=[403,116,97,98,394,148,265,208,99,199,260,261,338,405].any<|ag f
def lD(s:Nat):Bool:=[1043,1046,1107,1112,1111,1094,2019,2091,2105,3061,4015,5123].any<|ag s
def R5(s:Nat):Bool:=[3061,4015].any<|ag s
def acK:List (Nat×Nat):=[(142,1),(154,2),(109,3),(230,4),(214,5),(264,6),(157,7),(203,8),(75,9)]
def Qx(f:Nat):List (Nat×Nat)->Nat
 |[]=>0
 |p::l=>bif ag f p.1 then p.2 else Qx f l
def J9(f:Nat):Nat:=Qx f acK
def VZ:VT:={D:=wu,inl:=λ_=>ab,gk:=Eo MT,la:=λ_=>ae,nv:=λ_=>ae,km:=λ_=>ab,xa:=λ_=>ab,h5:=λ_=>0}
def y5(f:Nat):Option (Nat->List VV->H->R (VV×H)):=bif ag f 403 then ad (λ_=>qg VZ ab 1)else bif ag f 116 then ad (λ_=>qg VZ aa 6)else bif ag f 97 then ad (Bn 166 3)else ae
def yF(n:Nat):List VV->R VV
 |[.fz es]=>bif ah (aA es) (2^29)&&fW n es then .ok (.fz es)else .error ""
 |_=>.error ""
def yG(f:Nat):Option Nat:=bif ag f 76 then ad 4 else bif ag f 77||ag f 145 then ad 2 else ae
def mJ(e n:Nat)(b:Nat)(xs:List VV)(h:H):R (VV×H):=
 match xs with
 |[.nil]=>.ok (.nil,h)
 |[x]=>aO (mO h x) λp=>match p.1 with
  |.fz []=>.ok (bif ai 7000 b then .emp n else .fz [],p.2)
  |.fz (c::es)=>bif ah (aA<|c::es) (2^29)&&ag (aA c) n&&!lD (b*1000+5)&&!lD (b*1000+7)then
    (bif ai 7000 b then .ok (.bh (b*1000+5) ((p.2.o<|b*1000+5).ver+2) 0<|aA<|c::es,(p.2.new (b*1000+5)<|.cells ab ab e n []).new (b*1000+5)<|.cells ab ab e n<|c::es)
      else .ok (.fz<|c::es,fM ((p.2.new (b*1000+5)<|.cells ab ab e n []).new (b*1000+5)<|.cells ab ab e n<|c::es)<|b*1000+5))
   else .error ""
  |_=>.error ""
 |_=>.error ""
def CZ(f:Nat):Option (Nat×Nat):=bif ag f 148 then ad (31,9)else bif ag f 265 then ad (68,2)else bif ag f 208 then ad (3,1)else ae
def VQ:VT:={D:=bO,inl:=DD,gk:=Eo MT,la:=λ_=>ae,nv:=y5,km:=lD,xa:=R5,h5:=J9}
def CM:List VV->R VV
 |[]=>.ok<|.aN<|.bool aa
 |_=>.error ""
def VP:VT:={D:=bO,inl:=DD,gk:=Eo MT,la:=λf=>match yG f with|ad n=>ad (yF n)|ae=>bif ag f 6 then ad CM else ae,fL:=λf=>bif ag f 139 then ad (12,[253,254,255,256,257,258])else ae,nv:=λf=>match CZ f with|ad q=>ad (mJ q.1 q.2)|ae=>y5 f,km:=lD,xa:=R5,h5:=J9}
def LX(f:Nat)(h:DD f=ab):og VP f=ab:=h
def Fb:List VV:=[uV 0,iV 0,uV 0,uV 0]++(ak 64 [uV 0,uV 0,uV 0,uV 0,iV 0,iV 0]).flatMap id
def abk:List VV:=ak 64<|bV ab
def P8:lZ VP.D 239 239=.ok (316,1):=aV
def acf:lZ VP.D 26 26=.ok (77,2):=aV
def P9:lZ VP.D 29 29=.ok (31,9):=aV
def JX:lZ VP.D 312 312=.ok (68,2):=aV
def acg:lZ VP.D 32 32=.ok (79,4):=aV
def ach:lZ VP.D 33 33=.ok (75,2):=aV
def FO:lZ VP.D 387 387=.ok (9,1):=aV
def Am:lZ VP.D 66 66=.ok (3,1):=aV
def agf:VP.D.func 109=ad Tryz.f109:=aV
def GH:VP.D.func 142=ad Tryz.f142:=aV
def agi:VP.D.func 147=ad Tryz.f147:=aV
def Tc:VP.D.func 154=ad Tryz.f154:=aV
def Li:VP.D.func 157=ad Tryz.f157:=aV
def agj:VP.D.func 194=ad Tryz.f194:=aV
def agk:VP.D.func 196=ad Tryz.f196:=aV
def agl:VP.D.func 199=ad Tryz.f199:=aV
def agm:VP.D.func 203=ad Tryz.f203:=aV
def Lj:VP.D.func 214=ad Tryz.f214:=aV
def agn:VP.D.func 230=ad Tryz.f230:=aV
def ago:VP.D.func 260=ad Tryz.f260:=aV
def agp:VP.D.func 261=ad Tryz.f261:=aV
def agq:VP.D.func 262=ad Tryz.f262:=aV
def agr:VP.D.func 263=ad Tryz.f263:=aV
def ags:VP.D.func 264=ad Tryz.f264:=aV
def agt:VP.D.func 270=ad Tryz.f270:=aV
def Tf:VP.D.func 338=ad Tryz.f338:=aV
def GI:VP.D.func 394=ad Tryz.f394:=aV
def agu:VP.D.func 396=ad Tryz.f396:=aV
def Tg:VP.D.func 405=ad Tryz.f405:=aV
def agw:VP.D.func 429=ad Tryz.f429:=aV
def agx:VP.D.func 430=ad Tryz.f430:=aV
def Th:VP.D.func 75=ad Tryz.f75:=aV
def agy:VP.D.func 98=ad Tryz.f98:=aV
def agz:VP.D.func 99=ad Tryz.f99:=aV
def aof:gm VP.D 239=.ok (316,1):=aV
def aog:gm VP.D 26=.ok (77,2):=aV
def aoh:gm VP.D 29=.ok (31,9):=aV
def aoi:gm VP.D 299=.ok (125,1):=aV
def Ip:gm VP.D 312=.ok (68,2):=aV
def aoj:gm VP.D 32=.ok (79,4):=aV
def aok:gm VP.D 33=.ok (75,2):=aV
def aol:gm VP.D 406=.ok (4,1):=aV
def aom:gm VP.D 43=.ok (23,1):=aV
def aon:gm VP.D 66=.ok (3,1):=aV
def aoN:oh VP.D 26=ab:=aV
def aoO:oh VP.D 29=ab:=aV
def aoP:oh VP.D 312=ab:=aV
def aoQ:oh VP.D 32=ab:=aV
def aoR:oh VP.D 33=ab:=aV
def aoS:oh VP.D 66=ab:=aV
def apG:fp VP 109 1=aa:=aV
def IB:fp VP 142 1=aa:=aV
def apI:fp VP 147 3=aa:=aV
def Zz:fp VP 154 1=aa:=aV
def NT:fp VP 157 2=aa:=aV
def apJ:fp VP 194 3=aa:=aV
def apK:fp VP 196 2=aa:=aV
def apL:fp VP 199 2=aa:=aV
def apM:fp VP 203 1=aa:=aV
def NU:fp VP 214 2=aa:=aV
def apO:fp VP 230 2=aa:=aV
def apP:fp VP 260 2=aa:=aV
def apQ:fp VP 261 2=aa:=aV
def apR:fp VP 262 2=aa:=aV
def apS:fp VP 263 2=aa:=aV
def apT:fp VP 264 2=aa:=aV
def apU:fp VP 270 3=aa:=aV
def ZA:fp VP 338 6=aa:=aV
def IC:fp VP 394 3=aa:=aV
def apV:fp VP 396 2=aa:=aV
def ZB:fp VP 405 1=aa:=aV
def apX:fp VP 429 2=aa:=aV
def apY:fp VP 430 2=aa:=aV
def ZC:fp VP 75 1=aa:=aV
def apZ:fp VP 98 1=aa:=aV
def ap0:fp VP 99 1=aa:=aV
def ath:jO VP.D 23=.ok [uV 0]:=aV
def ati:jO VP.D 3=.ok [iV 0]:=aV
def atj:jO VP.D 31=.ok [iV 0,iV 0,iV 0,iV 0,bV ab,uV 0,.fz [],sV [],.fz []]:=aV
def atk:jO VP.D 316=.ok [.fz []]:=aV
def atl:jO VP.D 4=.ok [bV ab]:=aV
def abm:jO VP.D 68=.ok [iV 0,.fz []]:=aV
def atm:jO VP.D 75=.ok [iV 0,sV []]:=aV
def atn:jO VP.D 77=.ok [iV 0,iV 0]:=aV
def ato:jO VP.D 79=.ok [iV 0,sV [],iV 0,iV 0]:=aV
def an{a b:Prop}(x:a)(y:b):a/\ b:=⟨x,y⟩
def mX{α:Type}(P:α->Prop):List α->Prop
 |[]=>True
 |a::l=>P a/\ mX P l
def p5{P Q:Prop}(h:P:=by simp only[mX,HL];and_intros<;>first|trivial|kernel_rfl)(e:P=Q:=by simp only[mX,HL,rg,List.range',Nat.reduceSub,Nat.reduceAdd,ck,b7,and_true]<;>exact aM):Q:=e▸h
def im:=p5 (P:=mX (λp=>vv VP.D p.1 p.2.1=.ok p.2.2) [(50,1,1),(50,0,0),(50,2,13),(50,3,14),(48,2,13),(25,0,0),(48,1,1),(42,0,0),(38,0,0),(42,1,1),(42,4,4),(48,3,21),(45,1,1),(48,4,23),(70,2,3),(70,0,0),(68,1,1),(28,3,3),(28,4,4),(72,1,1),(35,0,0),(35,2,10),(35,3,11),(79,0,0),(75,1,1),(48,0,0),(42,2,2),(42,3,3),(42,5,5),(42,6,6),(42,7,7),(45,0,0),(25,1,1),(25,2,2),(25,3,3),(35,1,9),(151,3,3),(31,3,3),(31,4,8),(151,0,0),(114,1,2),(114,2,3),(70,1,2),(70,3,4),(70,4,5),(175,0,0),(119,0,0),(116,1,1),(114,0,0),(112,0,0),(72,2,2),(68,0,0),(28,0,0),(28,1,1),(28,2,2),(116,0,0),(151,1,1),(151,2,2),(151,4,4),(236,0,0),(234,0,0),(114,3,4),(31,0,0),(31,1,1),(31,2,2),(72,0,0),(72,3,3),(270,0,0),(112,1,1),(87,1,1),(236,1,1),(304,0,0),(304,2,2),(316,0,0),(114,4,5),(380,0,0),(310,0,0),(327,1,1),(265,1,1),(265,0,0),(304,1,1),(79,1,2),(75,0,0),(77,0,0),(310,1,9)])
def iq:=p5 (P:=mX (λp=>size VP.D p.1=.ok p.2) [(25,4),(48,24),(50,15),(42,8),(35,12),(38,1),(39,1),(40,1),(43,1),(46,1),(45,2),(31,9),(32,1),(33,1),(119,24),(70,6),(66,1),(36,1),(28,5),(26,1),(72,4),(151,388),(23,1),(29,1),(175,8),(55,1),(116,7),(114,6),(125,1),(222,64),(4,1),(68,2),(184,1),(265,2),(271,56),(87,3),(22,1),(236,2),(304,3),(239,1),(306,1),(314,12),(3,1),(316,1),(245,1),(112,2),(270,7),(380,1),(310,10),(327,14),(324,1),(312,1),(408,1),(73,1),(387,1),(446,1),(79,4),(75,2),(77,2),(493,1),(406,1),(528,1),(448,1),(453,1),(454,1),(455,1),(385,1)])
def ir:=an (p5 (P:=mX (λt=>qe VP.D t=.ok ae) [3,23,22,36,39,40,43,46,66,26,9,32,33,4,29,55,125,232,306,239,312,321,245,2,378,408,73,387,493,406,5,528,184,448,453,454,455,385,446]))<|p5 (P:=mX (λp=>qe VP.D p.1=.ok (ad p.2)) [(25,4),(48,24),(35,12),(42,8),(31,9),(38,1),(28,5),(72,4),(45,2),(116,7),(70,6),(151,388),(79,4),(75,2),(68,2),(114,6),(77,2),(222,64),(112,2),(265,2),(314,12),(316,1),(87,3),(271,56),(270,7),(304,3),(310,10),(327,14)])
def iu:=an (p5 (P:=mX (λp=>zeroCells VP.D p.1=.ok p.2) [(48,[iV 0,iV 0,iV 0,iV 0,iV 0,bV ab,uV 0,.nil,sV [],.nil,uV 0,.nil,.nil,.nil,.nil,uV 0,iV 0,.nil,iV 0,uV 0,bV ab,uV 0,.nil,.nil]),(42,[.nil,.nil,uV 0,iV 0,.nil,iV 0,uV 0,bV ab]),(45,[uV 0,.nil]),(35,[iV 0,iV 0,iV 0,iV 0,bV ab,uV 0,.nil,sV [],.nil,uV 0,.nil,.nil]),(119,[iV 0,iV 0,iV 0,iV 0,iV 0,bV ab,uV 0,.nil,sV [],.nil,uV 0,.nil,.nil,.nil,.nil,uV 0,iV 0,.nil,iV 0,uV 0,bV ab,uV 0,.nil,.nil]),(38,[.nil]),(70,[iV 0,.nil,iV 0,.nil,bV ab,iV 0]),(28,[iV 0,bV ab,uV 0,.nil,sV []]),(72,[iV 0,.nil,uV 0,uV 0]),(151,Fb),(31,[iV 0,iV 0,iV 0,iV 0,bV ab,uV 0,.nil,sV [],.nil]),(175,[.nil,.nil,uV 0,iV 0,.nil,iV 0,uV 0,bV ab]),(55,[iV 0]),(116,[iV 0,uV 0,uV 0,uV 0,uV 0,iV 0,iV 0]),(114,[uV 0,uV 0,uV 0,uV 0,iV 0,iV 0]),(125,[.nil]),(222,abk),(112,[uV 0,uV 0]),(68,[iV 0,.nil]),(265,[.nil,.nil]),(271,[uV 0,uV 0,uV 0,uV 0,iV 0,iV 0,bV ab,uV 0,uV 0,uV 0,uV 0,iV 0,iV 0,bV ab,uV 0,uV 0,uV 0,uV 0,iV 0,iV 0,bV ab,uV 0,uV 0,uV 0,uV 0,iV 0,iV 0,bV ab,uV 0,uV 0,uV 0,uV 0,iV 0,iV 0,bV ab,uV 0,uV 0,uV 0,uV 0,iV 0,iV 0,bV ab,uV 0,uV 0,uV 0,uV 0,iV 0,iV 0,bV ab,uV 0,uV 0,uV 0,uV 0,iV 0,iV 0,bV ab]),(270,[uV 0,uV 0,uV 0,uV 0,iV 0,iV 0,bV ab]),(23,[uV 0]),(236,[uV 0,bV ab]),(304,[iV 0,iV 0,iV 0]),(239,[.nil]),(306,[.aN<|.map ae]),(310,[iV 0,iV 0,iV 0,iV 0,bV ab,uV 0,.nil,sV [],.nil,iV 0]),(314,[iV 0,iV 0,iV 0,iV 0,iV 0,iV 0,iV 0,iV 0,iV 0,iV 0,iV 0,iV 0]),(316,[.nil]),(39,[.nil]),(87,[uV 0,iV 0,iV 0]),(380,[.aN<|.pointer ae]),(327,[iV 0,.aN<|.int .i8 0,.aN<|.int .i8 0,.aN<|.int .i8 0,.aN<|.int .i8 0,.aN<|.int .i8 0,.aN<|.int .i8 0,.aN<|.int .i8 0,.aN<|.int .i8 0,.aN<|.int .i8 0,.aN<|.int .i8 0,.aN<|.int .i8 0,.aN<|.int .i8 0,.aN<|.int .i8 0]),(408,[uV 0]),(3,[iV 0]),(4,[bV ab]),(387,[.nil]),(446,[.aN<|.map ae]),(79,[iV 0,sV [],iV 0,iV 0]),(75,[iV 0,sV []]),(406,[.nil]),(66,[.nil]),(453,[.nil]),(454,[.nil]),(455,[.aN .nilFunc])]))<|p5 (P:=mX (λp=>jO VP.D p.1=.ok p.2) [(28,[iV 0,bV ab,uV 0,.fz [],sV []]),(72,[iV 0,.fz [],uV 0,uV 0]),(23,[uV 0]),(116,[iV 0,uV 0,uV 0,uV 0,uV 0,iV 0,iV 0]),(79,[iV 0,sV [],iV 0,iV 0]),(75,[iV 0,sV []]),(3,[iV 0]),(70,[iV 0,.fz [],iV 0,.fz [],bV ab,iV 0]),(77,[iV 0,iV 0]),(31,[iV 0,iV 0,iV 0,iV 0,bV ab,uV 0,.fz [],sV [],.fz []]),(114,[uV 0,uV 0,uV 0,uV 0,iV 0,iV 0]),(316,[.fz []]),(321,[.aN<|.map ae]),(232,[.aN .nilFunc]),(68,[iV 0,.fz []]),(9,[sV []]),(4,[bV ab]),(310,[iV 0,iV 0,iV 0,iV 0,bV ab,uV 0,.fz [],sV [],.fz [],iV 0]),(66,[.fz []])])
def iv:=an (p5 (P:=mX (λp=>sh VP.D p.1=.ok p.2) [(36,(ae,6)),(39,(ae,5)),(40,(ae,4)),(32,(ae,4)),(33,(ae,2)),(46,(ae,7)),(22,(ae,388)),(43,(ae,1)),(29,(ae,9)),(125,(ae,6)),(66,(ae,1)),(26,(ae,2)),(149,(ad 64,6)),(222,(ad 64,1)),(271,(ad 8,7)),(300,(ae,1)),(312,(ae,2)),(314,(ad 12,1)),(239,(ae,1)),(322,(ae,1)),(274,(ae,7)),(325,(ad 13,1)),(406,(ae,1)),(387,(ae,1)),(534,(ae,1)),(299,(ae,1)),(453,(ae,10)),(454,(ae,1))]))<|an (p5 (P:=mX (λp=>gm VP.D p.1=.ok p.2) [(22,151,388),(36,70,6),(39,28,5),(40,72,4),(43,23,1),(46,116,7),(66,3,1),(26,77,2),(32,79,4),(33,75,2),(125,114,6),(29,31,9),(300,232,1),(312,68,2),(239,316,1),(322,321,1),(274,270,7),(387,9,1),(406,4,1),(534,5,1),(299,125,1),(453,310,10),(454,66,1)]))<|an (p5 (P:=mX (λp=>lZ VP.D p.1 p.1=.ok p.2) [(39,28,5),(40,72,4),(43,23,1),(46,116,7),(32,79,4),(33,75,2),(66,3,1),(36,70,6),(26,77,2),(29,31,9),(125,114,6),(239,316,1),(322,321,1),(312,68,2),(387,9,1),(406,4,1),(453,310,10),(454,66,1)]))<|an (p5 (P:=mX (λt=>oh VP.D t=ab) [22,36,39,40,43,46,66,26,32,33,125,29,271,300,312,239,274,387,534,536,299,453]))<|p5 (P:=mX (λt=>oh VP.D t=aa) [9])
def iw:=p5 (P:=mX (λp=>VP.gk p.1 p.2=[]) [(3,6),(11,7),(33,2),(35,15),(35,23),(35,28),(35,33),(41,6),(41,11),(43,6),(44,6),(45,6),(48,15),(49,11),(50,7),(50,22),(50,26),(52,12),(53,9),(53,14),(54,7),(54,18),(57,8),(67,8),(78,14),(79,11),(85,6),(87,6),(88,6),(90,1),(90,22),(91,2),(91,5),(91,7),(91,9),(103,10),(104,7),(105,15),(108,6),(109,13),(111,5),(112,4),(112,5),(113,5),(113,6),(114,9),(115,7),(154,17),(157,9),(160,1),(162,6),(163,6),(178,4),(179,5),(182,17),(206,18),(213,3),(215,20),(216,6),(223,1),(223,2),(223,9)])
def iy:=p5 (P:=mX (λp=>VP.gk p.1 p.2=[]) [(226,17),(228,12),(230,3),(231,1),(232,4),(237,5),(237,16),(237,22),(238,3),(238,5),(239,3),(239,5),(239,13),(239,15),(258,12),(260,1),(261,1),(261,2),(261,3),(274,10),(275,5),(276,9),(281,23),(282,6),(291,4),(296,5),(296,16),(296,22),(298,3),(298,5),(299,3),(299,5),(299,13),(299,15),(301,4),(301,5),(302,3),(302,5),(304,1),(304,2),(304,3),(358,3),(358,5),(361,1),(409,1),(437,17),(450,4),(455,5),(455,16),(455,22),(456,3),(456,5),(457,3),(457,5),(457,13),(457,15),(461,3),(461,5),(471,1),(196,10),(264,8),(404,1)])
def ix:=p5 (P:=mX (λp=>VP.gk p.1 p.2.1=p.2.2) HL)
end Go.Proofs.YtgdldhogfmambaaGreatDoor
namespace Go.Proofs.YtgdldhogfmambaaGreatDoor
open Go Go.Dt Go.Dt.Vm
structure nf where
 op:Int
 value:Int
structure dZ where
 kind:Int
 fF:Bool
 fe:Int
 cy:List nf
 name:List UInt8
inductive ba where
 |mk (kind min max:Int) (da:dZ) (be:List ba)
structure ln where
 func:Int
 name:List UInt8
structure nS where
 agg:ln
 cond:nf
structure cR where
 bt:ba
 iI:Int
 k_:List nS
 kW:List ln
structure u_ where
 label:Int
 no:Int
structure bJ where
 id:u_
 order:Int
 dy:Int
 kind:Int
 value:Int
structure bo where
 da:Int
 bH:List Int
structure bl where
 bN:bo
 dT:Int
 be:List Int
 dJ:Bool
 cc:Int
structure kv where
 node:Int
 b_:List Int
 first:Int
 blocked:Int
structure i7 where
 dS:List bl
 eX:List dZ
 iI:Int
 cap:Int
 eK:List kv
 tU:Int
 dy:Int
 B':Bool
structure pF where
 pos:Int
 ev:bJ
structure ke where
 number:Int
 ie:cR
 cH:i7
 fx:Int
 next:List Int
 nx:List pF
abbrev iL(l:List Int):VV:=.fz<|l.map λn=>[iV n]
abbrev uL(l:List Int):VV:=.fz<|l.map λn=>[uV n]
abbrev ed(c:nf):List VV:=[iV c.op,iV c.value]
abbrev bQ(a:dZ):List VV:=[iV a.kind,bV a.fF,uV a.fe,.fz<|a.cy.map ed,sV a.name]
mutual
def bc:ba->List VV
 |.mk k M F a W=>[iV k,iV M,iV F,iV a.kind,bV a.fF,uV a.fe,.fz<|a.cy.map ed,sV a.name,.fz<|Ed W]
def Ed:List ba->List (List VV)
 |[]=>[]
 |n::l=>bc n::Ed l
end
def Wk:∀l,Ed l=l.map bc
 |[]=>by simp[Ed]
 |n::l=>by simp[Ed,Wk l]
def bg(k M F:Int)(a:dZ)(W:List ba):bc (.mk k M F a W)=[iV k,iV M,iV F,iV a.kind,bV a.fF,uV a.fe,.fz<|a.cy.map ed,sV a.name,.fz<|W.map bc]:=by rw[bc,Wk]
abbrev bm(s:bo):List VV:=[iV s.da,iL s.bH]
abbrev GY(i:u_):List VV:=[uV i.label,uV i.no]
abbrev cd(s:bJ):List VV:=[uV s.id.label,uV s.id.no,uV s.order,uV s.dy,iV s.kind,iV s.value]
end Go.Proofs.YtgdldhogfmambaaGreatDoor
namespace Go.Proofs.YtgdldhogfmambaaGreatDoor
open Go Go.Dt Go.Dt.Vm
set_option maxRecDepth 100000
set_option maxHeartbeats 4000000
section
universe u
def Eb{α:Type}{l:List α}(h:bk l):ah (aA l) (2^30)=aa:=by unfold bk at h;exact at2
def Hy{α:Type}{l:List α}(h:bk l):ah (0+aA l) (2^30)=aa:=by rw[bZ];exact Eb h
def Lk(I:Vg->H->Prop)(G:R Vo->R Vo)(Q:Vo->Prop):Vo->Prop
 |.bI T h=>I T h
 |o=>ew (G<|.ok o) Q
def ajh(I:Vg->H->Prop)(G:R Vo->R Vo)(Q:Vo->Prop)(T:Vg)(h:H):Lk I G Q (.bI T h)=I T h:=rfl
def ajg(I:Vg->H->Prop)(G:R Vo->R Vo)(Q:Vo->Prop)(i:Nat)(T:Vg)(h:H):Lk I G Q (.exit i T h)=ew (G<|.ok<|.exit i T h) Q:=rfl
def aji(I:Vg->H->Prop)(G:R Vo->R Vo)(Q:Vo->Prop)(T:Vg)(h:H):Lk I G Q (.ret T h)=ew (G<|.ok<|.ret T h) Q:=rfl
def Wz{G:R Vo->R Vo}{Q:Vo->Prop}{step:Vg->H->R Vo}{I:Nat->Vg->H->Prop}(s:∀n T h,I n T h->ew (step T h) (Lk (λT h=>∃m,m<n/\ I m T h) G Q)):∀n {T:Vg} {h:H},I n T h->ew (G<|nA step T h) Q:=by
 intro n T h y
 have⟨o,e,q⟩:=VB (step:=step) I (λo=>ew (G<|.ok o) Q) (λn T h y=>by
  have⟨o,e,q⟩:=s n T h y
  exact⟨o,e,by cases o<;>exact q⟩) n y
 rw[e];exact q
def ot{G:R Vo->R Vo}{Q:Vo->Prop}{step:Vg->H->R Vo}{T:Vg}{h:H}(N:Nat)(I:Nat->Vg->H->Prop)(h0:I 0 T h)(s:∀i T h,i<N->I i T h->ew (step T h) (Lk (I<|i+1) G Q))(f:∀T h,I N T h->ew (step T h) (Lk (λ_ _=>False) G Q)):ew (G<|nA step T h) Q:=by
 refine Wz (I:=λn T h=>∃i,i<=N/\ n=N-i/\ I i T h) (λn T h ⟨i,g,r,y⟩=>?_) N ⟨0,kQ _,aM,h0⟩;by_cases l:i<N;have⟨o,e,q⟩:=s i T h l y;refine⟨o,e,?_⟩
 cases o with
 |bI d Y=>exact⟨N-(i+1),aW,i+1,l,rfl,q⟩
 |exit _ _ _=>exact q
 |ret _ _=>exact q
 have:i=N:=aW;subst this;have⟨o,e,q⟩:=f T h y;refine⟨o,e,?_⟩
 cases o with
 |bI d Y=>exact q.elim
 |exit _ _ _=>exact q
 |ret _ _=>exact q
def aiT{α:Type}(a:α)(l r:List α):List.append (a::l) r=a::List.append l r:=rfl
def aiU{α:Type}(r:List α):List.append [] r=r:=rfl
def BG:List Oper->Nat->List Oper->List Oper
 |[],_,r=>r
 |o::_,0,r=>o::r
 |_::l,n+1,r=>BG l n r
def akL(o:Oper)(l r:aH):BG (o::l) 0 r=o::r:=rfl
def Wm(o:Oper)(l r:aH)(n:Nat):BG (o::l) (n+1) r=BG l n r:=rfl
def age(l:aH)(i:Nat)(x:aK):(i::x).filterMap (λi=>l[i]?)=BG l i (x.filterMap λi=>l[i]?):=by
 have:∀(l:aH) (i:Nat) (r:aH),BG l i r=match l[i]? with|some o=>o::r|none=>r:=by
  intro l
  induction l with
  |nil=>intro i r;rfl
  |cons o l I=>intro i r;cases i with
   |zero=>rfl
   |succ i=>rw[Wm,I,oK]
 rw[this,OW];cases l[i]?<;>rfl
def sne(l:aF):(!(l==l))=ab:=aY
def ER:cP VP.D 4=.ok .bool:=aV
def acL(a b c:Bool):ky VP.D .eql 4 (bV a) (bV b) c=.ok (bV<|a==b):=by
 have h:bX VP.D 10 4 (.aN<|.bool a) (.aN<|.bool b)=.ok (a==b):=by unfold bX;rw[ER];rfl
 show aO (aO (bX VP.D 10 4 (.aN<|.bool a)<|.aN<|.bool b) λr=>.ok<|cO r) k9=_;rw[h];rfl
def acM(a b c:Bool):ky VP.D .neq 4 (bV a) (bV b) c=.ok (bV<|a !=b):=by
 have h:bX VP.D 10 4 (.aN<|.bool a) (.aN<|.bool b)=.ok (a==b):=by unfold bX;rw[ER];rfl
 show aO (aO (bX VP.D 10 4 (.aN<|.bool a)<|.aN<|.bool b) λr=>.ok<|cO<|!r) k9=_;rw[h];rfl
def TW(l:List nf):fW 2 (l.map ed)=aa:=oe (f:=ed) (λ_=>rfl) l
def th(n:ba):aA (bc n)=9:=by cases n;rw[bg];rfl
def aku(n:ba):(bc n).take 9=bc n:=eM<|by rw[th];exact auS
def aks(h:H)(m:Nat)(n:ba):d_ (cq h<|m+1) (bc n)=.ok (bc n,[]):=by cases n;rw[bg];rfl
def ahB(l:aL):fW 1 (l.map λn=>[iV n])=aa:=oe (f:=λn=>[iV n]) (λ_=>rfl) l
def adI{α:Type}(b:Bool)(x y z:α):(bif b then(bif b then x else y)else z)=bif b then x else z:=avc
def adG{α:Type}(b:Bool)(x y z:α):(bif b then x else(bif b then y else z))=bif b then x else z:=avc
def adH{α:Type}(b:Bool)(x y z:α):(bif b then x else(bif !b then y else z))=bif b then x else y:=avc
def pa2(b x:Bool):(bif b then bV x else bV ab)=bV (b&&x):=avc
def po2(b x:Bool):(bif b then bV aa else bV x)=bV (b||x):=avc
def adj(c:Bool)(k:IntKind)(a b:Int)(y:aB):(bif c then(Except.ok (.aN<|.int k a,y):R<|VV×aB)else .ok (.aN<|.int k b,y))=.ok (.aN<|.int k<|bif c then a else b,y):=by cases c<;>rfl
def adi(c:Bool)(a b:Bool)(y:aB):(bif c then(Except.ok (.aN<|.bool a,y):R<|VV×aB)else .ok (.aN<|.bool b,y))=.ok (.aN<|.bool<|bif c then a else b,y):=by cases c<;>rfl
def an2:tw VP.D 9 534=aa:=aV
def akF:(([]:aF)==[])=aa:=rfl
def akE(c:UInt8)(s:aF):((c::s)==[])=ab:=rfl
def ne0:((0:Int)!=0)=ab:=rfl
def ne1:((1:Int)!=0)=aa:=rfl
def ne2:((2:Int)!=0)=aa:=rfl
def ne3:((3:Int)!=0)=aa:=rfl
def ne4:((4:Int)!=0)=aa:=rfl
def ne5:((5:Int)!=0)=aa:=rfl
def ne6:((6:Int)!=0)=aa:=rfl
def ne7:((7:Int)!=0)=aa:=rfl
def ne8:((8:Int)!=0)=aa:=rfl
def MA:((9:Int)!=0)=aa:=rfl
def akb:((10:Int)!=0)=aa:=rfl
def akc:((11:Int)!=0)=aa:=rfl
def akd:((12:Int)!=0)=aa:=rfl
def ake:((13:Int)!=0)=aa:=rfl
def akf:((14:Int)!=0)=aa:=rfl
def akg:((15:Int)!=0)=aa:=rfl
def qe0:((0:Int)==0)=aa:=rfl
def qe1:((1:Int)==0)=ab:=rfl
def qe2:((2:Int)==0)=ab:=rfl
def qe3:((3:Int)==0)=ab:=rfl
def qe4:((4:Int)==0)=ab:=rfl
def qe5:((5:Int)==0)=ab:=rfl
def qe6:((6:Int)==0)=ab:=rfl
def qe7:((7:Int)==0)=ab:=rfl
def qe8:((8:Int)==0)=ab:=rfl
def qe9:((9:Int)==0)=ab:=rfl
def al6:((10:Int)==0)=ab:=rfl
def al7:((11:Int)==0)=ab:=rfl
def al8:((12:Int)==0)=ab:=rfl
def al9:((13:Int)==0)=ab:=rfl
def al_:((14:Int)==0)=ab:=rfl
def ama:((15:Int)==0)=ab:=rfl
def ia:=af ne0<|af ne1<|af ne2<|af ne3<|af ne4<|af ne5<|af ne6<|af ne7<|af ne8<|af MA<|af akb<|af akc<|af akd<|af ake<|af akf<|af akg<|af qe0<|af qe1<|af qe2<|af qe3<|af qe4<|af qe5<|af qe6<|af qe7<|af qe8<|af qe9<|af al6<|af al7<|af al8<|af al9<|af al_<|ama
def ag2{α:Type u}(a b:α):(ad a).getD b=a:=rfl
def ag1{α:Type u}(b:α):(ae:Option α).getD b=b:=rfl
def ij:=af @uO<|af @tD<|af @yj<|af @Fi<|af @oI<|af @mB<|af @px<|af @j'<|af @rm<|af @jP<|af @aiT<|af @aiU<|af @ajh<|af @ajg<|af @aji<|af @Jh.{0,0}<|af @age<|af @akL<|af @Wm<|af @bne_self_eq_false.{0}<|af @a8.{1}<|af @br.{1}<|af @sne<|af @bj.{0,0}<|af @acL<|af @acM<|af @th<|af @aku<|af @aks<|af @TW<|((af @ahB<|af @an2<|af @akF<|af @akE<|af @adI<|af @adG<|af @adH<|af @pa2<|af @po2<|af @LX<|af @atp<|af @atq<|af @adj<|af @adi<|af @ag2.{0}<|@ag1.{0}))
def Z0{A B:Prop}(k:B)(h:A=B:=by simp+contextual (maxSteps:=4000000) (disch:=first|decide|omega)only[Nat.reduceAdd,ij,hR,ih,ig,hE,hC,hB,hy,ht,hd,hg,gS,hh,hp,gT,hq,im,iq,ir,iu,iv,iw,ix,iy,ia, *]<;>exact aM):A:=(h).mpr k
def Z1{A B o:Prop}(c:o)(k:B)(h:o->A=B:=by intro c;simp+contextual (maxSteps:=4000000) (disch:=first|decide|omega)only[Nat.reduceAdd,ij,hR,ih,ig,hE,hC,hB,hy,ht,hd,hg,gS,hh,hp,gT,hq,im,iq,ir,iu,iv,iw,ix,iy,ia,c, *]<;>exact aM):A:=(h c).mpr k
def Z2{A B o p:Prop}(c:o)(C:p)(k:B)(h:o->p->A=B:=by intro c C;simp+contextual (maxSteps:=4000000) (disch:=first|decide|omega)only[Nat.reduceAdd,ij,hR,ih,ig,hE,hC,hB,hy,ht,hd,hg,gS,hh,hp,gT,hq,im,iq,ir,iu,iv,iw,ix,iy,ia,c,C, *]<;>exact aM):A:=(h c C).mpr k
def Z3{A B o p m:Prop}(c:o)(C:p)(f:m)(k:B)(h:o->p->m->A=B:=by intro c C f;simp+contextual (maxSteps:=4000000) (disch:=first|decide|omega)only[Nat.reduceAdd,ij,hR,ih,ig,hE,hC,hB,hy,ht,hd,hg,gS,hh,hp,gT,hq,im,iq,ir,iu,iv,iw,ix,iy,ia,c,C,f, *]<;>exact aM):A:=(h c C f).mpr k
def Z4{A B o p m g:Prop}(c:o)(C:p)(f:m)(S:g)(k:B)(h:o->p->m->g->A=B:=by intro c C f S;simp+contextual (maxSteps:=4000000) (disch:=first|decide|omega)only[Nat.reduceAdd,ij,hR,ih,ig,hE,hC,hB,hy,ht,hd,hg,gS,hh,hp,gT,hq,im,iq,ir,iu,iv,iw,ix,iy,ia,c,C,f,S, *]<;>exact aM):A:=(h c C f S).mpr k
def Z5{A B o p m g O:Prop}(c:o)(C:p)(f:m)(S:g)(V:O)(k:B)(h:o->p->m->g->O->A=B:=by intro c C f S V;simp+contextual (maxSteps:=4000000) (disch:=first|decide|omega)only[Nat.reduceAdd,ij,hR,ih,ig,hE,hC,hB,hy,ht,hd,hg,gS,hh,hp,gT,hq,im,iq,ir,iu,iv,iw,ix,iy,ia,c,C,f,S,V, *]<;>exact aM):A:=(h c C f S V).mpr k
def Z6{A B o p m g O b:Prop}(c:o)(C:p)(f:m)(S:g)(V:O)(l:b)(k:B)(h:o->p->m->g->O->b->A=B:=by intro c C f S V l;simp+contextual (maxSteps:=4000000) (disch:=first|decide|omega)only[Nat.reduceAdd,ij,hR,ih,ig,hE,hC,hB,hy,ht,hd,hg,gS,hh,hp,gT,hq,im,iq,ir,iu,iv,iw,ix,iy,ia,c,C,f,S,V,l, *]<;>exact aM):A:=(h c C f S V l).mpr k
def Z7{A B o p m g O b E:Prop}(c:o)(C:p)(f:m)(S:g)(V:O)(l:b)(t:E)(k:B)(h:o->p->m->g->O->b->E->A=B:=by intro c C f S V l t;simp+contextual (maxSteps:=4000000) (disch:=first|decide|omega)only[Nat.reduceAdd,ij,hR,ih,ig,hE,hC,hB,hy,ht,hd,hg,gS,hh,hp,gT,hq,im,iq,ir,iu,iv,iw,ix,iy,ia,c,C,f,S,V,l,t, *]<;>exact aM):A:=(h c C f S V l t).mpr k
def Z8{A B o p m g O b E x:Prop}(c:o)(C:p)(f:m)(S:g)(V:O)(l:b)(t:E)(x7:x)(k:B)(h:o->p->m->g->O->b->E->x->A=B:=by intro c C f S V l t x7;simp+contextual (maxSteps:=4000000) (disch:=first|decide|omega)only[Nat.reduceAdd,ij,hR,ih,ig,hE,hC,hB,hy,ht,hd,hg,gS,hh,hp,gT,hq,im,iq,ir,iu,iv,iw,ix,iy,ia,c,C,f,S,V,l,t,x7, *]<;>exact aM):A:=(h c C f S V l t x7).mpr k
def Z9{A B o p m g O b E x W:Prop}(c:o)(C:p)(f:m)(S:g)(V:O)(l:b)(t:E)(x7:x)(Q:W)(k:B)(h:o->p->m->g->O->b->E->x->W->A=B:=by intro c C f S V l t x7 Q;simp+contextual (maxSteps:=4000000) (disch:=first|decide|omega)only[Nat.reduceAdd,ij,hR,ih,ig,hE,hC,hB,hy,ht,hd,hg,gS,hh,hp,gT,hq,im,iq,ir,iu,iv,iw,ix,iy,ia,c,C,f,S,V,l,t,x7,Q, *]<;>exact aM):A:=(h c C f S V l t x7 Q).mpr k
def JG{A B o p m g O b E x W s:Prop}(c:o)(C:p)(f:m)(S:g)(V:O)(l:b)(t:E)(x7:x)(Q:W)(d:s)(k:B)(h:o->p->m->g->O->b->E->x->W->s->A=B:=by intro c C f S V l t x7 Q d;simp+contextual (maxSteps:=4000000) (disch:=first|decide|omega)only[Nat.reduceAdd,ij,hR,ih,ig,hE,hC,hB,hy,ht,hd,hg,gS,hh,hp,gT,hq,im,iq,ir,iu,iv,iw,ix,iy,ia,c,C,f,S,V,l,t,x7,Q,d, *]<;>exact aM):A:=(h c C f S V l t x7 Q d).mpr k
def Z11{A B o p m g O b E x W I C:Prop}(c:o)(w:p)(f:m)(S:g)(V:O)(l:b)(t:E)(x7:x)(Q:W)(d:I)(s:C)(k:B)(h:o->p->m->g->O->b->E->x->W->I->C->A=B:=by intro c w f S V l t x7 Q d s;simp+contextual (maxSteps:=4000000) (disch:=first|decide|omega)only[Nat.reduceAdd,ij,hR,ih,ig,hE,hC,hB,hy,ht,hd,hg,gS,hh,hp,gT,hq,im,iq,ir,iu,iv,iw,ix,iy,ia,c,w,f,S,V,l,t,x7,Q,d,s, *]<;>exact aM):A:=(h c w f S V l t x7 Q d s).mpr k
def Pv{A B o p m g O b E x W I C r:Prop}(c:o)(w:p)(f:m)(S:g)(V:O)(l:b)(t:E)(x7:x)(Q:W)(d:I)(s:C)(v:r)(k:B)(h:o->p->m->g->O->b->E->x->W->I->C->r->A=B:=by intro c w f S V l t x7 Q d s v;simp+contextual (maxSteps:=4000000) (disch:=first|decide|omega)only[Nat.reduceAdd,ij,hR,ih,ig,hE,hC,hB,hy,ht,hd,hg,gS,hh,hp,gT,hq,im,iq,ir,iu,iv,iw,ix,iy,ia,c,w,f,S,V,l,t,x7,Q,d,s,v, *]<;>exact aM):A:=(h c w f S V l t x7 Q d s v).mpr k
def S0{A B:Prop}(k:B)(h:A=B:=by simp+contextual (maxSteps:=4000000) (disch:=first|decide|omega)only[Nat.reduceAdd,ij,hR,ih,ig,hE,hC,hB,hy,ht,hd,hg,gS,hh,hp,gT,hq,im,iq,ir,iu,iv,iw,ix,iy,ia]<;>exact aM):A:=(h).mpr k
def S1{A B o:Prop}(c:o)(k:B)(h:o->A=B:=by intro c;simp+contextual (maxSteps:=4000000) (disch:=first|decide|omega)only[Nat.reduceAdd,ij,hR,ih,ig,hE,hC,hB,hy,ht,hd,hg,gS,hh,hp,gT,hq,im,iq,ir,iu,iv,iw,ix,iy,ia,c]<;>exact aM):A:=(h c).mpr k
def S2{A B o p:Prop}(c:o)(C:p)(k:B)(h:o->p->A=B:=by intro c C;simp+contextual (maxSteps:=4000000) (disch:=first|decide|omega)only[Nat.reduceAdd,ij,hR,ih,ig,hE,hC,hB,hy,ht,hd,hg,gS,hh,hp,gT,hq,im,iq,ir,iu,iv,iw,ix,iy,ia,c,C]<;>exact aM):A:=(h c C).mpr k
def S3{A B o p m:Prop}(c:o)(C:p)(f:m)(k:B)(h:o->p->m->A=B:=by intro c C f;simp+contextual (maxSteps:=4000000) (disch:=first|decide|omega)only[Nat.reduceAdd,ij,hR,ih,ig,hE,hC,hB,hy,ht,hd,hg,gS,hh,hp,gT,hq,im,iq,ir,iu,iv,iw,ix,iy,ia,c,C,f]<;>exact aM):A:=(h c C f).mpr k
def S4{A B o p m g:Prop}(c:o)(C:p)(f:m)(S:g)(k:B)(h:o->p->m->g->A=B:=by intro c C f S;simp+contextual (maxSteps:=4000000) (disch:=first|decide|omega)only[Nat.reduceAdd,ij,hR,ih,ig,hE,hC,hB,hy,ht,hd,hg,gS,hh,hp,gT,hq,im,iq,ir,iu,iv,iw,ix,iy,ia,c,C,f,S]<;>exact aM):A:=(h c C f S).mpr k
def S5{A B o p m g O:Prop}(c:o)(C:p)(f:m)(S:g)(V:O)(k:B)(h:o->p->m->g->O->A=B:=by intro c C f S V;simp+contextual (maxSteps:=4000000) (disch:=first|decide|omega)only[Nat.reduceAdd,ij,hR,ih,ig,hE,hC,hB,hy,ht,hd,hg,gS,hh,hp,gT,hq,im,iq,ir,iu,iv,iw,ix,iy,ia,c,C,f,S,V]<;>exact aM):A:=(h c C f S V).mpr k
def S6{A B o p m g O b:Prop}(c:o)(C:p)(f:m)(S:g)(V:O)(l:b)(k:B)(h:o->p->m->g->O->b->A=B:=by intro c C f S V l;simp+contextual (maxSteps:=4000000) (disch:=first|decide|omega)only[Nat.reduceAdd,ij,hR,ih,ig,hE,hC,hB,hy,ht,hd,hg,gS,hh,hp,gT,hq,im,iq,ir,iu,iv,iw,ix,iy,ia,c,C,f,S,V,l]<;>exact aM):A:=(h c C f S V l).mpr k
def S7{A B o p m g O b E:Prop}(c:o)(C:p)(f:m)(S:g)(V:O)(l:b)(t:E)(k:B)(h:o->p->m->g->O->b->E->A=B:=by intro c C f S V l t;simp+contextual (maxSteps:=4000000) (disch:=first|decide|omega)only[Nat.reduceAdd,ij,hR,ih,ig,hE,hC,hB,hy,ht,hd,hg,gS,hh,hp,gT,hq,im,iq,ir,iu,iv,iw,ix,iy,ia,c,C,f,S,V,l,t]<;>exact aM):A:=(h c C f S V l t).mpr k
def S8{A B o p m g O b E x:Prop}(c:o)(C:p)(f:m)(S:g)(V:O)(l:b)(t:E)(x7:x)(k:B)(h:o->p->m->g->O->b->E->x->A=B:=by intro c C f S V l t x7;simp+contextual (maxSteps:=4000000) (disch:=first|decide|omega)only[Nat.reduceAdd,ij,hR,ih,ig,hE,hC,hB,hy,ht,hd,hg,gS,hh,hp,gT,hq,im,iq,ir,iu,iv,iw,ix,iy,ia,c,C,f,S,V,l,t,x7]<;>exact aM):A:=(h c C f S V l t x7).mpr k
def S9{A B o p m g O b E x W:Prop}(c:o)(C:p)(f:m)(S:g)(V:O)(l:b)(t:E)(x7:x)(Q:W)(k:B)(h:o->p->m->g->O->b->E->x->W->A=B:=by intro c C f S V l t x7 Q;simp+contextual (maxSteps:=4000000) (disch:=first|decide|omega)only[Nat.reduceAdd,ij,hR,ih,ig,hE,hC,hB,hy,ht,hd,hg,gS,hh,hp,gT,hq,im,iq,ir,iu,iv,iw,ix,iy,ia,c,C,f,S,V,l,t,x7,Q]<;>exact aM):A:=(h c C f S V l t x7 Q).mpr k
def fm{A B o p m g O b E x W s:Prop}(c:o)(C:p)(f:m)(S:g)(V:O)(l:b)(t:E)(x7:x)(Q:W)(d:s)(k:B)(h:o->p->m->g->O->b->E->x->W->s->A=B:=by intro c C f S V l t x7 Q d;simp+contextual (maxSteps:=4000000) (disch:=first|decide|omega)only[Nat.reduceAdd,ij,hR,ih,ig,hE,hC,hB,hy,ht,hd,hg,gS,hh,hp,gT,hq,im,iq,ir,iu,iv,iw,ix,iy,ia,c,C,f,S,V,l,t,x7,Q,d]<;>exact aM):A:=(h c C f S V l t x7 Q d).mpr k
def eN{A B o p m g O b E x W I C:Prop}(c:o)(w:p)(f:m)(S:g)(V:O)(l:b)(t:E)(x7:x)(Q:W)(d:I)(s:C)(k:B)(h:o->p->m->g->O->b->E->x->W->I->C->A=B:=by intro c w f S V l t x7 Q d s;simp+contextual (maxSteps:=4000000) (disch:=first|decide|omega)only[Nat.reduceAdd,ij,hR,ih,ig,hE,hC,hB,hy,ht,hd,hg,gS,hh,hp,gT,hq,im,iq,ir,iu,iv,iw,ix,iy,ia,c,w,f,S,V,l,t,x7,Q,d,s]<;>exact aM):A:=(h c w f S V l t x7 Q d s).mpr k
def bq{A B o p m g O b E x W I C r:Prop}(c:o)(w:p)(f:m)(S:g)(V:O)(l:b)(t:E)(x7:x)(Q:W)(d:I)(s:C)(v:r)(k:B)(h:o->p->m->g->O->b->E->x->W->I->C->r->A=B:=by intro c w f S V l t x7 Q d s v;simp+contextual (maxSteps:=4000000) (disch:=first|decide|omega)only[Nat.reduceAdd,ij,hR,ih,ig,hE,hC,hB,hy,ht,hd,hg,gS,hh,hp,gT,hq,im,iq,ir,iu,iv,iw,ix,iy,ia,c,w,f,S,V,l,t,x7,Q,d,s,v]<;>exact aM):A:=(h c w f S V l t x7 Q d s v).mpr k
def CA{A B o p:Prop}(c:o)(C:p)(k:B)(h:o->p->A=B:=by intro c C;simp(maxSteps:=4000000) (disch:=first|assumption|decide|omega|exact HE (by assumption)|(simp(disch:=omega)only[dE,gv,qK];done))only[Nat.reduceAdd,ij,hR,ih,ig,hE,hC,hB,hy,ht,hd,hg,gS,hh,hp,gT,hq,im,iq,ir,iu,iv,iw,ix,iy,ia,c,C]<;>exact aM):A:=(h c C).mpr k
def FF{A B o p m:Prop}(c:o)(C:p)(f:m)(k:B)(h:o->p->m->A=B:=by intro c C f;simp(maxSteps:=4000000) (disch:=first|assumption|decide|omega|exact HE (by assumption)|(simp(disch:=omega)only[dE,gv,qK];done))only[Nat.reduceAdd,ij,hR,ih,ig,hE,hC,hB,hy,ht,hd,hg,gS,hh,hp,gT,hq,im,iq,ir,iu,iv,iw,ix,iy,ia,c,C,f]<;>exact aM):A:=(h c C f).mpr k
def aby{A B o p m g O b E x W I C:Prop}(c:o)(w:p)(f:m)(S:g)(V:O)(l:b)(t:E)(x7:x)(Q:W)(d:I)(s:C)(k:B)(h:o->p->m->g->O->b->E->x->W->I->C->A=B:=by intro c w f S V l t x7 Q d s;simp(maxSteps:=4000000) (disch:=first|assumption|decide|omega|exact HE (by assumption)|(simp(disch:=omega)only[dE,gv,qK];done))only[Nat.reduceAdd,ij,hR,ih,ig,hE,hC,hB,hy,ht,hd,hg,gS,hh,hp,gT,hq,im,iq,ir,iu,iv,iw,ix,iy,ia,c,w,f,S,V,l,t,x7,Q,d,s]<;>exact aM):A:=(h c w f S V l t x7 Q d s).mpr k
def Ag{A B o p m g O b E x W I C r:Prop}(c:o)(w:p)(f:m)(S:g)(V:O)(l:b)(t:E)(x7:x)(Q:W)(d:I)(s:C)(v:r)(k:B)(h:o->p->m->g->O->b->E->x->W->I->C->r->A=B:=by intro c w f S V l t x7 Q d s v;simp(maxSteps:=4000000) (disch:=first|assumption|decide|omega|exact HE (by assumption)|(simp(disch:=omega)only[dE,gv,qK];done))only[Nat.reduceAdd,ij,hR,ih,ig,hE,hC,hB,hy,ht,hd,hg,gS,hh,hp,gT,hq,im,iq,ir,iu,iv,iw,ix,iy,ia,c,w,f,S,V,l,t,x7,Q,d,s,v]<;>exact aM):A:=(h c w f S V l t x7 Q d s v).mpr k
def N0{A B:Prop}(k:B)(h:A=B:=by simp(disch:=first|assumption|decide|omega)only[jt,dE,qL,gv,qK,vz]<;>exact aM):A:=h.mpr k
def cC:=@i_.{0,0}
def dW:=@cL.{0,0}
def k6:=@ea.{0}
def Hj:=@b7.{0}
def Me:=@ck.{0}
def DS:=@e6.{0}
def Hq:=@Pe.{0}
def Ww:=@Option.isNone_none.{0}
def bse:=@ve.{0}
def tr:True:=trivial
def gO{f:Nat}{fn F:Func}{xs:aC}{r:VV}(e:fn=F)(h:∀a y,dC VP F.results.toList (cv VP (cW VP a) 0 (VP.gk f) (F.body.getD .skip) (gK xs)<|.empty y)=.ok (r,y)){n:Nat}(l:aA xs=n:=by rfl)(j:VP.D.func f=ad fn:=by kernel_rfl)(c:fp VP f n=aa:=by kernel_rfl)(h0:VP.h5 f=0:=by rfl):aS VP f xs r:=by subst e l;exact GP j c h h0
def lF(k:Nat){rs:List ResultVar}{K:Vg->H->R Vo}{X:R (VV×aB)}{step:Vg->H->R Vo}{T:Vg}{h:H}(N:Nat)(I:Nat->Vg->H->Prop)(h0:I 0 T h)(s:∀i T h,i<N->I i T h->ew (step T h) (Lq (I<|i+1) (λx=>dC VP rs<|dL (cJ k x) K) X))(e:∀T h,I N T h->ew (step T h) (Lq (λ_ _=>False) (λx=>dC VP rs<|dL (cJ k x) K) X)):dC VP rs (dL (cJ k<|nA step T h) K)=X:=vS (F:=λx=>dC VP rs<|dL (cJ k x) K) N I h0 s e
def rF(k:Nat){rs:List ResultVar}{K:Vg->H->R Vo}{X:R (VV×aB)}{P:VT}{a:cV}{g:Nat}{cap n:aC}{S:aK}{T:Vg}{h:H}{O:List Tmp}{L J:Vg->H->R Vo}(l:aB)(y:iK P g (.yield::n) l)(j:d_ (cq h e8) cap=.ok (n,S))
 (I:Nat->H->Prop)(h0:I 0<|cp h S)(s:∀i h (G:i<aA l),I i h->ew (fH T O L J h l[i]) (Lr (I<|i+1) λo=>dC VP rs (dL (cJ k<|.ok o) K)=X))(e:∀h,I (aA l) h->dC VP rs (dL (cJ k<|.ok<|.bI T h) K)=X):dC VP rs (dL (cJ k<|lH (cW P a) (.func g [] cap) T h<|fH T O L J) K)=X:=
 Yc (F:=λx=>dC VP rs<|dL (cJ k x) K) l y j I h0 s e
def oF(k j:Nat){K:Vg->H->R Vo}{Q:Vo->Prop}{step:Vg->H->R Vo}{T:Vg}{h:H}(N:Nat)(I:Nat->Vg->H->Prop)(h0:I 0 T h)(s:∀i T h,i<N->I i T h->ew (step T h) (Lk (I<|i+1) (λx=>dL (cJ k<|cJ j x) K) Q))(e:∀T h,I N T h->ew (step T h) (Lk (λ_ _=>False) (λx=>dL (cJ k<|cJ j x) K) Q)):ew (dL (cJ k<|cJ j<|nA step T h) K) Q:=ot (G:=λx=>dL (cJ k<|cJ j x) K) N I h0 s e
end
end Go.Proofs.YtgdldhogfmambaaGreatDoor
namespace Go.Proofs.YtgdldhogfmambaaGreatDoor
open Go Go.Dt Go.Dt.Vm
set_option maxRecDepth 100000
def w66(l:aL)(P:bk l):aS VP 66 [iL l] (iL l):=by refine gO Tryz.f66.eq_1 λw y=>?_;exact S3 (oe (f:=λn=>[iV n])<|λ_=>rfl) (Eb P) (Hy P) tr
abbrev dr(r:kv):List VV:=[iV r.node,iL r.b_,uV r.first,uV r.blocked]
def w28(r:kv)(l:bk r.b_):aS VP 28 [.agg<|dr r] (.agg<|dr r):=by refine gO Tryz.f28.eq_1 λw y=>?_;exact S1 ((w66 _ l).bE) tr
def w27(a:dZ)(l:bk a.cy):aS VP 27 [.agg<|bQ a] (.agg<|bQ a):=by refine gO Tryz.f27.eq_1 λw y=>?_;exact S2 (Eb l) (Hy l) tr
def akt(n:ba):wc (.agg<|bc n)=ab:=by cases n;rw[bg];rfl
def dt:ba->Prop
 |.mk _ _ _ a W=>bk a.cy/\ bk W/\ ∀k∈W,dt k
def ait(a:dZ)(k M F:Int)(W:List ba)(i:Nat)(J e O N:VV)(E L U:VO)(y y':List<|List VV):Prop:=
 J=.aR 1 1 0 0/\ e=.aR 2 1 0 0/\ N=iV i/\ E=⟨1,1,.cells aa ab 31 9 [bc<|.mk k M F a W]⟩/\ L=⟨1,0,.cells aa ab 31 9 [[iV 0,iV 0,iV 0,iV 0,bV ab,uV 0,.nil,sV [],.nil]]⟩/\ y'=y/\
  ∃v,O=b9 ((W.take i).map bc) 24 v/\ b6 U ((W.take i).map bc) v 31 9
def w34:∀n,dt n->aS VP 34 [.agg<|bc n] (.agg<|bc n)
 |.mk k M F a W,e=>by
  rw[dt]at e;have⟨c,f,r⟩:=e;have I:∀i (G:i<aA W),aS VP 34 [.agg<|bc W[i]] (.agg<|bc W[i]):=λi G=>w34 W[i]<|r _<|bD G;refine gO Tryz.f34.eq_1 λw y=>?_;refine S2 @bg ((w27 a c).bE) ?_;refine lF 0 (aA W) (λi T h=>ait a k M F W i (T 1) (T 2) (T 3) (T 4) (h.o 1) (h.o 2) (h.o 24) y h.y) ?_ ?_ ?_;refine S0 ?_;exact⟨aM,aM,aM,by rw[bg],rfl,rfl,0,rfl,rfl,λh=>absurd aM h⟩;rintro i T h G ⟨g,C,Q,E,O,U,v,A,b⟩;have Z:aA ((W.take i).map bc)<536870912:=by unfold bk at f;exact aul
  refine eN @bg g C A Q E O (a6 G) @bd ((I i G).bE aM<|akt _) (iM b Z) ?_;have X:(W.take<|i+1).map bc=(W.take i).map bc++[bc W[i]]:=by rw[ej G,dg];rfl
  refine⟨aM,aM,aM,by rw[bg],rfl,U,v+1,by rw[X],?_⟩;rw[X,b.1];exact auh;rintro T h ⟨g,C,Q,E,O,U,v,A,b⟩;refine S8 @bg g C A Q E O (gf b) ?_;rw[bP,U]
termination_by n=>SizeOf.sizeOf n
decreasing_by
 have:=j6<|bD G;simp only[ba.mk.sizeOf_spec];omega
abbrev e7(a:ln):List VV:=[iV a.func,sV a.name]
abbrev gw(a:nS):List VV:=[iV a.agg.func,sV a.agg.name,iV a.cond.op,iV a.cond.value]
def bG(q:cR):List VV:=bc q.bt++[uV q.iI,.fz<|q.k_.map gw,.fz<|q.kW.map e7]
def q5(q:cR):Prop:=dt q.bt/\ bk q.k_/\ bk q.kW
def TX(l:List nS):fW 4 (l.map gw)=aa:=oe (f:=gw) (λ_=>rfl) l
def TU(l:List ln):fW 2 (l.map e7)=aa:=oe (f:=e7) (λ_=>rfl) l
def w9:∀q,q5 q->aS VP 9 [.agg<|bG q] (.agg<|bG q)
 |⟨.mk k M F a W,u,v,Z⟩,⟨h,p,d⟩=>by have A:=w34 _ h;refine gO Tryz.f9.eq_1 λw y=>?_;simp only[bG,bg]at A|-;exact S7 @TX @TU (Eb p) (Hy p) (Eb d) (Hy d) A.bE tr
abbrev c8(t:bl):List VV:=[iV t.bN.da,iL t.bN.bH,iV t.dT,iL t.be,bV t.dJ,iV t.cc]
def hU(l:List bl):Prop:=bk l/\ ∀t∈l,bk t.bN.bH/\ bk t.be
abbrev dA(l:List bl):List VV:=[.fz<|l.map c8]
def ais(l:List bl)(i:Nat)(J W O j:VV)(E k s N:VO)(y y':List<|List VV):Prop:=
 J=.aR 1 1 0 0/\ W=.aR 2 1 0 0/\ O=.aR 3 1 0 0/\ j=iV i/\ E=⟨1,0,.cells aa ab 38 1 [dA l]⟩/\ k=⟨1,0,.cells aa ab 38 1 [[.nil]]⟩/\ y'=y/\
  ∃v md,s=⟨1,md,.cells aa ab 38 1 [[b9 ((l.take i).map c8) 34 v]]⟩/\ b6 N ((l.take i).map c8) v 70 6
def w26(l:List bl)(e:hU l):aS VP 26 [.agg<|dA l] (.agg<|dA l):=by
 have⟨P,r⟩:=e;refine gO Tryz.f26.eq_1 λw y=>?_;refine S0 ?_;refine lF 0 (aA l) (λi T h=>ais l i (T 1) (T 2) (T 3) (T 4) (h.o 1) (h.o 2) (h.o 3) (h.o 34) y h.y) ?_ ?_ ?_;refine S0 ?_;exact⟨aM,aM,aM,aM,aM,aM,aM,0,0,aM,aM,λh=>absurd aM h⟩;rintro i T h G ⟨g,C,A,Q,E,O,U,v,o,s,b⟩;have n:aA ((l.take i).map c8)<536870912:=by unfold bk at P;exact aul
 have⟨M,f⟩:=r _<|bD G;refine bq g C A Q E O s (xD M) (Ea M) (xD f) (Ea f) (an (a6 G)<|an @bd<|iM b n) ?_;have X:(l.take<|i+1).map c8=(l.take i).map c8++[c8 l[i]]:=by rw[ej G,dg];rfl
 refine⟨aM,aM,aM,aM,aM,aM,U,v+1,o+1,by rw[X],?_⟩;rw[X,b.1];exact auh;rintro T h ⟨g,C,A,Q,E,O,U,v,o,s,b⟩;refine S8 g C A Q E O s (gf b) ?_;rw[bP,U]
def ES:cP VP.D 9=.ok .string:=aV
def qT(l:aF):xN (sV l) (nz VP.D 9)=.ok (iV<|aA l):=by show aO (nz VP.D 9<|.aN<|.string ⟨⟨l⟩⟩) k9=_;unfold nz;rw[ES];rfl
def eL:Nat->ba->Int
 |0,_=>1000
 |d+1,.mk _ _ _ a W=>if 40<aA W\/ 10<aA a.cy\/ 20<aA a.name then 1000 else W.foldl (λs k=>if s<=40 then s+eL d k else s) 1
def Cd:∀d n,0<=eL d n/\ eL d n<=1000+40*d
 |0,_=>by simp[eL]
 |d+1,.mk _ _ _ a W=>by
  rw[eL];split;omega;have m:∀(l:List ba) (s:Int),0<=s->s<=1040+40*d->0<=l.foldl (λs k=>if s<=40 then s+eL d k else s) s/\ l.foldl (λs k=>if s<=40 then s+eL d k else s) s<=1040+40*d:=by
   intro l
   induction l with
   |nil=>exact λs h p=>⟨h,p⟩
   |cons k l I=>
    intro s h p;rw[gn];have:=Cd d k;split
    grind
    exact I _ h p
  grind
def Lt(d:Nat):∀(l:List ba) (s:Int),0<=s->s<=1040+40*d->0<=l.foldl (λs k=>if s<=40 then s+eL d k else s) s/\ l.foldl (λs k=>if s<=40 then s+eL d k else s) s<=1040+40*d
 |[],s,h,a=>⟨h,a⟩
 |k::l,s,h,a=>by rw[gn];have:=Cd d k;split;exact Lt d l _ aW aW;exact Lt d l _ h a
def GK{d:Nat}:∀(l:List ba) (s:Int),40<s->l.foldl (λs k=>if s<=40 then s+eL d k else s) s=s
 |[],_,_=>rfl
 |k::l,s,h=>by rw[gn,cG aW];exact GK l s h
def aiu(c:List VV)(W:List ba)(d i:Nat)(J U B N:VV)(O:VO)(y y':List<|List VV):Prop:=J=iV (d+1:Nat)/\ U=.aR 2 1 0 0/\ B=iV ((W.take i).foldl (λs k=>if s<=40 then s+eL d k else s) 1)/\ N=iV i/\ O=⟨1,0,.cells aa ab 31 9 [c]⟩/\ y'=y
def w59:∀(d:Nat) n,d<=1000->aS VP 59 [.agg<|bc n,iV d] (iV<|eL d n)
 |0,.mk k M F a W,_=>by refine gO Tryz.f59.eq_1 λw y=>?_;refine S2 @bg @qT ?_;rfl
 |d+1,.mk k M F a W,B=>by
  have I:∀i (g:i<aA W),aS VP 59 [.agg<|bc W[i],iV d] (iV<|eL d W[i]):=λi g=>w59 d W[i] aW;refine gO Tryz.f59.eq_1 λw y=>?_;refine S2 @bg @qT ?_;rw[eL];by_cases x:40<aA W\/ 10<aA a.cy\/ 20<aA a.name;have e:((((d+1:Nat):Int)==0)||ax ((40:Int)<aA W)||ax ((10:Int)<aA a.cy)||ax ((20:Int)<aA a.name))=aa:=by simp only[iB,c_];omega
  rw[e,b8 x];rfl;have e:((((d+1:Nat):Int)==0)||ax ((40:Int)<aA W)||ax ((10:Int)<aA a.cy)||ax ((20:Int)<aA a.name))=ab:=by simp only[gz,cE,As];omega
  rw[e,cG x];simp only[br];refine lF 0 (aA W) (λi T h=>aiu (bc<|.mk k M F a W) W d i (T 1) (T 2) (T 5) (T 6) (h.o 2) y h.y) ?_ ?_ ?_;refine S0 ?_;exact⟨aM,aM,aM,aM,by rw[bg],rfl⟩;rintro i T h g ⟨P,C,Y,N,O,E⟩;have J:=Lt d (W.take i) 1 aW aW
  have X:(W.take<|i+1).foldl (λs k=>if s<=40 then s+eL d k else s) 1=if(W.take i).foldl (λs k=>if s<=40 then s+eL d k else s) 1<=40 then(W.take i).foldl (λs k=>if s<=40 then s+eL d k else s) 1+eL d W[i]else(W.take i).foldl (λs k=>if s<=40 then s+eL d k else s) 1:=by rw[ej g,jQ];rfl
  have f:W.foldl (λs k=>if s<=40 then s+eL d k else s) 1=(W.drop i).foldl (λs k=>if s<=40 then s+eL d k else s) ((W.take i).foldl (λs k=>if s<=40 then s+eL d k else s) 1):=by rw[<-jQ,Jt]
  generalize r:(W.take i).foldl (λs k=>if s<=40 then s+eL d k else s) 1=S at*;have p:=Cd d W[i];have Z:aA W<1048576:=aW;have t:av .i64 (((d+1:Nat):Int)-1)=(d:Int):=au4;have D:av .i64 (S+eL d W[i])=S+eL d W[i]:=d' _ aW aW;by_cases G:S<=40;have u:ax (S<=40)=aa:=gu G;refine bq @bg P C Y N O (a6 g) @bd t D u ((I i g).aP) ?_;rw[b8 G]at X;exact⟨aM,aM,by rw[X],rfl,rfl,E⟩;have u:ax (S<=40)=ab:=kV G;refine S8 @bg P C Y N O (a6 g) u ?_;rw[f,GK _ _ aW,E];rintro T h ⟨P,C,Y,N,O,E⟩;refine S6 @bg P C Y N O ?_;rw[bP,E]
def w18(n:ba):aS VP 18 [.agg<|bc n] (bV<|ax<|eL 8 n<=40):=by
 cases n with
 |mk k M F a W=>have A:aS VP 59 [.agg<|bc<|.mk k M F a W,iV 8] (iV<|eL 8<|.mk k M F a W):=w59 8 _ aT;refine gO Tryz.f18.eq_1 λw y=>?_;simp only[bg]at A|-;exact S1 A.aP tr
def JU{α:Type}{p:α->Bool}{l:List α}{i:Nat}(G:i<aA l)(h:p l[i]=ab):l.all p=ab:=List.all_eq_false.2 ⟨_,bD G,by simp[h]⟩
def JS{α:Type}{p:α->Bool}{l:List α}{i:Nat}(G:i<aA l)(M:(l.take i).all p=aa)(h:p l[i]=aa):(l.take<|i+1).all p=aa:=by rw[ej G,Fq,M];simp[h]
def sm(a:ln):Bool:=ax<|aA a.name<=20
def tc(q:cR):Bool:=ax (eL 8 q.bt<=40)&&ax (aA q.k_<=10)&&ax (aA q.kW<=10)&&q.k_.all (λv=>sm v.agg)&&q.kW.all sm
def w5:∀q,aS VP 5 [.agg<|bG q]<|bV<|tc q
 |⟨.mk k M F a W,u,Y,Z⟩=>by
  have j:=w18<|.mk k M F a W;refine gO Tryz.f5.eq_1 λw y=>?_;simp only[bG,bg]at j|-;refine S1 j.aP ?_;by_cases x:eL 8 (.mk k M F a W)<=40/\ aA Y<=10/\ aA Z<=10;have e:(!ax (eL 8 (.mk k M F a W)<=40)||ax ((10:Int)<aA Y)||ax ((10:Int)<aA Z))=ab:=by simp only[gz,Bool.not_eq_false',c_,cE];omega
  have V:tc ⟨.mk k M F a W,u,Y,Z⟩=(Y.all (λv=>sm v.agg)&&Z.all sm):=by simp only[tc,x.1,x.2.1,x.2.2,vl,oI]
  rw[e,V];simp only[br];generalize Q:bc (.mk k M F a W)=c at*;refine lF 0 (aA Y) (λi T h=>T 1=.aR 1 1 0 0/\ T 3=iV i/\ h=(H.empty y).new 1 (.cells aa ab 35 12 [bG ⟨.mk k M F a W,u,Y,Z⟩])/\ (Y.take i).all (λv=>sm v.agg)=aa) ?_ ?_ ?_;refine S2 bG.eq_1 @bg ?_;exact at1;rintro i T h G ⟨g,A,rfl,s⟩;have:aA Y<1048576:=aW;refine Z5 bG.eq_1 @bg @qT (a6 G) @bd ?_;refine⟨λX=>?_,λX=>?_⟩;rw[JU (p:=λv:nS=>sm v.agg) G<|by simp only[sm,cE];simp only[c_]at X;omega];rfl;exact awl;rintro T h ⟨g,A,rfl,s⟩;rw[bP]at s;refine Z2 bG.eq_1 @bg ?_;refine lF 2 (aA Z) (λi T h=>T 1=.aR 1 1 0 0/\ T 4=iV i/\ h=(H.empty y).new 1 (.cells aa ab 35 12 [bG ⟨.mk k M F a W,u,Y,Z⟩])/\ (Z.take i).all sm=aa) ?_ ?_ ?_;refine Z2 bG.eq_1 @bg ?_;exact at1;rintro i T h G ⟨g,A,rfl,s⟩;have:aA Z<1048576:=aW;refine Z5 bG.eq_1 @bg @qT (a6 G) @bd ?_;refine⟨λX=>?_,λX=>?_⟩;rw[JU (p:=sm) G<|by simp only[sm,cE];simp only[c_]at X;omega];exact awl;rintro T h ⟨g,A,rfl,s⟩;rw[bP]at s;exact Z2 bG.eq_1 @bg tr;have e:(!ax (eL 8 (.mk k M F a W)<=40)||ax ((10:Int)<aA Y)||ax ((10:Int)<aA Z))=aa:=by simp only[iB,nM,c_,cE];omega
  have V:tc ⟨.mk k M F a W,u,Y,Z⟩=ab:=by
   cases N:tc ⟨.mk k M F a W,u,Y,Z⟩with
   |false=>rfl
   |true=>simp only[tc,bW,c_]at N;exact absurd ⟨N.1.1.1.1,N.1.1.1.2,N.1.1.2⟩ x
  rw[e,V];rfl
def w87(a b:aL)(J:bk a):aS VP 87 [iL a,iL b] (bV<|ax<|a=b):=by
 refine gO Tryz.f87.eq_1 λw y=>?_;by_cases l:aA a=aA b;refine S1 l ?_;refine lF 0 (aA a) (λi T h=>T 5=iV i/\ T 0=iL a/\ T 1=iL b/\ h=H.empty y/\ a.take i=b.take i) ?_ ?_ ?_;simp(disch:=decide)only[gS,gT,i'];rfl;rintro i T h G ⟨Y,t,g,rfl,p⟩;refine S5 Y t g (a6 G) @bd ?_;refine⟨λh=>?_,λh=>?_⟩;rw[kV<|by rintro rfl;exact auu];have h:a[i]=b[i]:=auF;rw[ej G,ej aW,p,h];rintro T h ⟨Y,t,g,rfl,p⟩;refine S3 Y t g ?_;rw[gu<|by rw[bP,l,bP]at p;exact p];have:(ax<|a=b)=ab:=by simp;rintro rfl;exact l aM
 have j:((aA a:Int)!=(aA b:Int))=aa:=by simpa using λh:(aA a:Int)=aA b=>l aW
 exact S2 this j tr
def w86(s t:bo)(b:bk s.bH):aS VP 86 [.agg<|bm s,.agg<|bm t] (bV<|(s.da==t.da)&&ax (s.bH=t.bH)):=by refine gO Tryz.f86.eq_1 λw y=>?_;exact S1 (w87 s.bH t.bH b).aP tr
def sq:cP VP.D 3=.ok (.int .i64):=aV
def EP:cP VP.D 23=.ok (.int .u64):=aV
def KU(n:Nat)(a b:Int):bX VP.D (n+1) 3 (.aN<|.int .i64 a) (.aN<|.int .i64 b)=.ok (a==b):=by unfold bX;rw[sq];rfl
def AZ(n:Nat)(a b:Int):bX VP.D (n+1) 23 (.aN<|.int .u64 a) (.aN<|.int .u64 b)=.ok (a==b):=by unfold bX;rw[EP];rfl
def N':cP VP.D 77=.ok (.struct #[{name:= "Op",type:=3,offset:=0,embedded:=ab,tag:= "",pkgPath:= "",byteOffset:=0},{name:= "Value",type:=2,offset:=1,embedded:=ab,tag:= "",pkgPath:= "",byteOffset:=8}]):=aV
def II:cP VP.D 2=.ok (.int .i64):=aV
def TG:o_ VP.D 10 77=aa:=aV
def Wy:VP.D.ma 77=aa:=aV
def Xk(cs:aD)(o:Nat)(v:AV)(h:cs[o]?=ad v):Go.Dt.part VP.D 3 cs o=.ok v:=by unfold Go.Dt.part;rw[sq];exact awG
def Xj(cs:aD)(o:Nat)(v:AV)(h:cs[o]?=ad v):Go.Dt.part VP.D 2 cs o=.ok v:=by unfold Go.Dt.part;rw[II];exact awG
def KW(n:Nat)(a b:Int):bX VP.D (n+1) 2 (.aN<|.int .i64 a) (.aN<|.int .i64 b)=.ok (a==b):=by unfold bX;rw[II];rfl
def xE{t:Nat}{xs ys:aC}{a L:aD}{r:Bool}(q:Bool)(o:o_ VP.D 10 t=aa)(x:eU xs=ad a)(y:eU ys=ad L)(h:bX VP.D 10 t (.agg a) (.agg L)=.ok r):ky VP.D .neq t (.agg xs) (.agg ys) q=.ok (bV<|!r):=by
 have V:hc (.agg xs)=ad (.agg a):=by simp only[hc,x]
 have p:hc (.agg ys)=ad (.agg L):=by simp only[hc,y]
 unfold ky;rw[V,p];show aO (if o_ VP.D 10 t=aa then _ else _) k9=_;rw[b8 o];simp only[mb,h];rfl
def Wd(c d:nf)(q:Bool):ky VP.D .neq 77 (.agg<|ed c) (.agg<|ed d) q=.ok (bV<|!(bif c.op==d.op then c.value==d.value else ab)):=by
 have h:bX VP.D 10 77 (.agg [.aN<|.int .i64 c.op,.aN<|.int .i64 c.value]) (.agg [.aN<|.int .i64 d.op,.aN<|.int .i64 d.value])=.ok (bif c.op==d.op then c.value==d.value else ab):=by unfold bX;rw[N'];simp only[ca,aO,Wy,dj,eqFields];rw[cG aT,cG aT,Xk _ _ (.aN<|.int .i64 c.op) rfl,Xk _ _ (.aN<|.int .i64 d.op) rfl,Xj _ _ (.aN<|.int .i64 c.value) rfl,Xj _ _ (.aN<|.int .i64 d.value) rfl];simp only[KU,KW];cases V:(c.op==d.op)<;>cases a:(c.value==d.value)<;>rfl
 exact xE q TG aM aM h
def Gx(n:Nat)(a:Int):bX VP.D (n+1) 3 (.aN<|.int .i64 a) (.aN<|.int .i64 a)=.ok aa:=by unfold bX;rw[sq];simp[vu,ca,aO]
def BM(cs:aD)(o:Nat):Go.Dt.part VP.D 3 cs o=(match cs[o]? with|some v=>.ok v|none=>.error ""):=by unfold Go.Dt.part;rw[sq];exact awx
def Sr(n:Nat)(a:Int):bX VP.D (n+1) 2 (.aN<|.int .i64 a) (.aN<|.int .i64 a)=.ok aa:=by unfold bX;rw[II];simp[vu,ca,aO]
def HW(cs:aD)(o:Nat):Go.Dt.part VP.D 2 cs o=(match cs[o]? with|some v=>.ok v|none=>.error ""):=by unfold Go.Dt.part;rw[II];exact awx
def Ss(n:Nat)(a:Int):bX VP.D (n+1) 23 (.aN<|.int .u64 a) (.aN<|.int .u64 a)=.ok aa:=by unfold bX;rw[EP];simp[vu,ca,aO]
def se(cs:aD)(o:Nat):Go.Dt.part VP.D 23 cs o=(match cs[o]? with|some v=>.ok v|none=>.error ""):=by unfold Go.Dt.part;rw[EP];exact awx
def afq(n:Nat)(a:aF):bX VP.D (n+1) 9 (.aN<|.string ⟨⟨a⟩⟩) (.aN<|.string ⟨⟨a⟩⟩)=.ok aa:=by unfold bX;rw[ES];simp[vu,ca,aO]
def alT(cs:aD)(o:Nat):Go.Dt.part VP.D 9 cs o=(match cs[o]? with|some v=>.ok v|none=>.error ""):=by unfold Go.Dt.part;rw[ES];exact awx
def ZM:cP VP.D 75=.ok (.struct #[{name:= "Func",type:=3,offset:=0,embedded:=ab,tag:= "",pkgPath:= "",byteOffset:=0},{name:= "Name",type:=9,offset:=1,embedded:=ab,tag:= "",pkgPath:= "",byteOffset:=8}]):=aV
def ak3:VP.D.ma 75=aa:=aV
def ahg:o_ VP.D 10 75=aa:=aV
def atH:size VP.D 75=.ok 2:=aV
def alR(cs:aD)(o:Nat):Go.Dt.part VP.D 75 cs o=.ok (.agg<|(cs.drop o).take 2):=by unfold Go.Dt.part;rw[ZM,atH];rfl
def Su(n:Nat)(S:Int)(B:aF):bX VP.D (n+2) 75 (.agg [.aN<|.int .i64 S,.aN<|.string ⟨⟨B⟩⟩]) (.agg [.aN<|.int .i64 S,.aN<|.string ⟨⟨B⟩⟩])=.ok aa:=by unfold bX;rw[ZM];simp[ca,aO,ak3,eqFields,Gx,afq,BM,alT]
def atI:size VP.D 77=.ok 2:=aV
def alS(cs:aD)(o:Nat):Go.Dt.part VP.D 77 cs o=.ok (.agg<|(cs.drop o).take 2):=by unfold Go.Dt.part;rw[N',atI];rfl
def Sv(n:Nat)(S:Int)(B:Int):bX VP.D (n+2) 77 (.agg [.aN<|.int .i64 S,.aN<|.int .i64 B]) (.agg [.aN<|.int .i64 S,.aN<|.int .i64 B])=.ok aa:=by unfold bX;rw[N'];simp[ca,aO,Wy,eqFields,Sr,Gx,HW,BM]
def aqq:cP VP.D 79=.ok (.struct #[{name:= "Agg",type:=75,offset:=0,embedded:=ab,tag:= "",pkgPath:= "",byteOffset:=0},{name:= "Cond",type:=77,offset:=2,embedded:=ab,tag:= "",pkgPath:= "",byteOffset:=24}]):=aV
def ak4:VP.D.ma 79=aa:=aV
def ahh:o_ VP.D 10 79=aa:=aV
def afp(n:Nat)(O:Int)(Y:aF)(X:Int)(k:Int):bX VP.D (n+3) 79 (.agg [.aN<|.int .i64 O,.aN<|.string ⟨⟨Y⟩⟩,.aN<|.int .i64 X,.aN<|.int .i64 k]) (.agg [.aN<|.int .i64 O,.aN<|.string ⟨⟨Y⟩⟩,.aN<|.int .i64 X,.aN<|.int .i64 k])=.ok aa:=by unfold bX;rw[aqq];simp[ca,aO,ak4,eqFields,Su,Sv,alR,alS]
def IG:cP VP.D 112=.ok (.struct #[{name:= "Label",type:=23,offset:=0,embedded:=ab,tag:= "",pkgPath:= "",byteOffset:=0},{name:= "No",type:=23,offset:=1,embedded:=ab,tag:= "",pkgPath:= "",byteOffset:=8}]):=aV
def MN:VP.D.ma 112=aa:=aV
def ahc:o_ VP.D 10 112=aa:=aV
def atD:size VP.D 112=.ok 2:=aV
def M7(cs:aD)(o:Nat):Go.Dt.part VP.D 112 cs o=.ok (.agg<|(cs.drop o).take 2):=by unfold Go.Dt.part;rw[IG,atD];rfl
def afm(n:Nat)(S:Int)(B:Int):bX VP.D (n+2) 112 (.agg [.aN<|.int .u64 S,.aN<|.int .u64 B]) (.agg [.aN<|.int .u64 S,.aN<|.int .u64 B])=.ok aa:=by unfold bX;rw[IG];simp[ca,aO,MN,eqFields,Ss,se]
def IH:cP VP.D 114=.ok (.struct #[{name:= "Id",type:=112,offset:=0,embedded:=ab,tag:= "",pkgPath:= "",byteOffset:=0},{name:= "Order",type:=23,offset:=2,embedded:=ab,tag:= "",pkgPath:= "",byteOffset:=16},{name:= "Tick",type:=23,offset:=3,embedded:=ab,tag:= "",pkgPath:= "",byteOffset:=24},{name:= "Kind",type:=3,offset:=4,embedded:=ab,tag:= "",pkgPath:= "",byteOffset:=32},{name:= "Value",type:=2,offset:=5,embedded:=ab,tag:= "",pkgPath:= "",byteOffset:=40}]):=aV
def MP:VP.D.ma 114=aa:=aV
def ahd:o_ VP.D 10 114=aa:=aV
def atF:size VP.D 114=.ok 6:=aV
def Xc(cs:aD)(o:Nat):Go.Dt.part VP.D 114 cs o=.ok (.agg<|(cs.drop o).take 6):=by unfold Go.Dt.part;rw[IH,atF];rfl
def afn(n:Nat)(O:Int)(Y:Int)(B:Int)(z:Int)(x:Int)(h:Int):bX VP.D (n+3) 114 (.agg [.aN<|.int .u64 O,.aN<|.int .u64 Y,.aN<|.int .u64 B,.aN<|.int .u64 z,.aN<|.int .i64 x,.aN<|.int .i64 h]) (.agg [.aN<|.int .u64 O,.aN<|.int .u64 Y,.aN<|.int .u64 B,.aN<|.int .u64 z,.aN<|.int .i64 x,.aN<|.int .i64 h])=.ok aa:=by unfold bX;rw[IH];simp[ca,aO,MP,eqFields,afm,Sr,Ss,Gx,M7,HW,se,BM]
def aql:cP VP.D 116=.ok (.struct #[{name:= "Pos",type:=3,offset:=0,embedded:=ab,tag:= "",pkgPath:= "",byteOffset:=0},{name:= "Event",type:=114,offset:=1,embedded:=ab,tag:= "",pkgPath:= "",byteOffset:=8}]):=aV
def ak1:VP.D.ma 116=aa:=aV
def ahe:o_ VP.D 10 116=aa:=aV
def afo(n:Nat)(S:Int)(c:Int)(w:Int)(k:Int)(B:Int)(p:Int)(m:Int):bX VP.D (n+4) 116 (.agg [.aN<|.int .i64 S,.aN<|.int .u64 c,.aN<|.int .u64 w,.aN<|.int .u64 k,.aN<|.int .u64 B,.aN<|.int .i64 p,.aN<|.int .i64 m]) (.agg [.aN<|.int .i64 S,.aN<|.int .u64 c,.aN<|.int .u64 w,.aN<|.int .u64 k,.aN<|.int .u64 B,.aN<|.int .i64 p,.aN<|.int .i64 m])=.ok aa:=by unfold bX;rw[aql];simp[ca,aO,ak1,eqFields,afn,Gx,Xc,BM]
end Go.Proofs.YtgdldhogfmambaaGreatDoor
namespace Go.Proofs.YtgdldhogfmambaaGreatDoor
open Go Go.Dt Go.Dt.Vm
set_option maxRecDepth 100000
set_option maxHeartbeats 4000000
def akI(c:nf)(q:Bool):ky VP.D .neq 77 (.agg<|ed c) (.agg<|ed c) q=.ok (bV ab):=xE q TG aM aM<|Sv 8 _ _
def akJ(v:nS)(q:Bool):ky VP.D .neq 79 (.agg<|gw v) (.agg<|gw v) q=.ok (bV ab):=xE q ahh aM aM<|afp 7 _ _ _ _
def akH(v:ln)(q:Bool):ky VP.D .neq 75 (.agg<|e7 v) (.agg<|e7 v) q=.ok (bV ab):=xE q ahg aM aM<|Su 8 _ _
abbrev kK(k:pF):List VV:=iV k.pos::cd k.ev
def akG(v:pF)(q:Bool):ky VP.D .neq 116 (.agg<|kK v) (.agg<|kK v) q=.ok (bV ab):=xE q ahe aM aM<|afo 6 _ _ _ _ _ _ _
def YI(a:dZ)(c:bk a.cy):aS VP 88 [.agg<|bQ a,.agg<|bQ a] (bV aa):=by refine gO Tryz.f88.eq_1 λw y=>?_;refine S0 ?_;refine lF 0 (aA a.cy) (λi T h=>T 2=.aR 2 1 0 0/\ T 3=.aR 3 1 0 0/\ T 5=iV i/\ h.o 2=⟨1,0,.cells aa ab 28 5 [bQ a]⟩/\ h.o 3=⟨1,0,.cells aa ab 28 5 [bQ a]⟩/\ h.y=y) ?_ ?_ ?_;exact avo;rintro i T h G ⟨C,A,Y,O,s,E⟩;exact Z3 (a6 G) @bd @akI tr;rintro T h ⟨C,A,Y,O,s,E⟩;exact avB
def YG:∀n,dt n->aS VP 85 [.agg<|bc n,.agg<|bc n] (bV aa)
 |.mk k M F a W,e=>by rw[dt]at e;have⟨c,f,r⟩:=e;have I:∀i (G:i<aA W),aS VP 85 [.agg<|bc W[i],.agg<|bc W[i]] (bV aa):=λi G=>YG W[i]<|r _<|bD G;refine gO Tryz.f85.eq_1 λw y=>?_;refine S2 @bg ((YI a c).aP) ?_;refine lF 0 (aA W) (λi T h=>T 2=.aR 2 1 0 0/\ T 3=.aR 3 1 0 0/\ T 5=iV i/\ h.o 2=⟨1,0,.cells aa ab 31 9 [bc<|.mk k M F a W]⟩/\ h.o 3=⟨1,0,.cells aa ab 31 9 [bc<|.mk k M F a W]⟩/\ h.y=y) ?_ ?_ ?_;refine S1 @bg ?_;rfl;rintro i T h G ⟨C,A,Y,O,s,E⟩;exact av7;rintro T h ⟨C,A,Y,O,s,E⟩;exact avq
termination_by n=>SizeOf.sizeOf n
decreasing_by
 have:=j6<|bD G;simp only[ba.mk.sizeOf_spec];omega
def YH(a:aL)(b:bk a):aS VP 87 [iL a,iL a] (bV aa):=by have:=w87 a a b;exact at6
def s86(s:bo)(b:bk s.bH):aS VP 86 [.agg<|bm s,.agg<|bm s] (bV aa):=by have:=w86 s s b;exact at6
def s89(r:kv)(b:bk r.b_):aS VP 89 [.agg<|dr r,.agg<|dr r] (bV aa):=by refine gO Tryz.f89.eq_1 λw y=>?_;exact S2 ((YH _ b).aP) @bse tr
def s41:∀q,q5 q->aS VP 41 [.agg<|bG q,.agg<|bG q] (bV aa)
 |⟨.mk k x F a W,u,v,Z⟩,⟨V,p,d⟩=>by
  have A:=YG _ V;have p:bk v:=p;have d:bk Z:=d;refine gO Tryz.f41.eq_1 λw y=>?_;simp only[bG,bg]at A|-;refine S1 A.aP ?_;generalize M:bG ⟨.mk k x F a W,u,v,Z⟩=c;have O:=M;simp only[bG,bg]at O;refine lF 0 (aA v) (λi T h=>T 2=.aR 2 1 0 0/\ T 3=.aR 3 1 0 0/\ T 5=iV i/\ h.o 2=⟨1,0,.cells aa ab 35 12 [c]⟩/\ h.o 3=⟨1,0,.cells aa ab 35 12 [c]⟩/\ h.y=y) ?_ ?_ ?_;refine S1 O.symm ?_;rfl;rintro i T h g ⟨C,G,Y,L,s,E⟩;have P:i<9223372036854775807:=by unfold bk at p;omega
  subst M;exact eN bG.eq_1 @bg C G Y L s E (a6 g) @bd @akJ tr;rintro T h ⟨C,G,Y,L,s,E⟩;rw[<-O]at L s;refine S6 C G Y L s E ?_;refine lF 2 (aA Z) (λi T h=>T 2=.aR 2 1 0 0/\ T 3=.aR 3 1 0 0/\ T 6=iV i/\ h.o 2=⟨1,0,.cells aa ab 35 12 [c]⟩/\ h.o 3=⟨1,0,.cells aa ab 35 12 [c]⟩/\ h.y=y) ?_ ?_ ?_;refine S6 C G L s O.symm E ?_;rfl;rintro i T h g ⟨C,G,Y,L,s,E⟩;have P:i<9223372036854775807:=by unfold bk at d;omega
  subst M;exact eN bG.eq_1 @bg C G Y L s E (a6 g) @bd @akH tr;rintro T h ⟨C,G,Y,L,s,E⟩;rw[<-O]at L s;exact S6 C G Y L s E tr
def s42(l:List bl)(e:hU l):aS VP 42 [.agg<|dA l,.agg<|dA l] (bV aa):=by have⟨P,r⟩:=e;refine gO Tryz.f42.eq_1 λw y=>?_;refine S0 ?_;refine lF 0 (aA l) (λi T h=>T 2=.aR 2 1 0 0/\ T 3=.aR 3 1 0 0/\ T 5=iV i/\ h.o 2=⟨1,0,.cells aa ab 38 1 [dA l]⟩/\ h.o 3=⟨1,0,.cells aa ab 38 1 [dA l]⟩/\ h.y=y) ?_ ?_ ?_;exact avo;rintro i T h G ⟨C,A,Y,O,s,E⟩;have⟨o,f⟩:=r _<|bD G;exact Z4 (a6 G) @bd ((s86 _ o).aP) ((YH _ f).aP) tr;rintro T h ⟨C,A,Y,O,s,E⟩;exact avB
def s43(l:List dZ)(P:bk l)(r:∀a∈l,bk a.cy):aS VP 43 [.fz<|l.map bQ,.fz<|l.map bQ] (bV aa):=by refine gO Tryz.f43.eq_1 λw y=>?_;refine S0 ?_;refine lF 0 (aA l) (λi T h=>T 0=.fz (l.map bQ)/\ T 1=.fz (l.map bQ)/\ T 5=iV i/\ h=H.empty y) ?_ ?_ ?_;exact avo;rintro i T h G ⟨C,A,Y,rfl⟩;exact Z3 (a6 G) @bd ((YI _<|r _<|bD G).aP) tr;rintro T h ⟨C,A,Y,rfl⟩;exact avB
def s44(l:List kv)(P:bk l)(r:∀a∈l,bk a.b_):aS VP 44 [.fz<|l.map dr,.fz<|l.map dr] (bV aa):=by refine gO Tryz.f44.eq_1 λw y=>?_;refine S0 ?_;refine lF 0 (aA l) (λi T h=>T 0=.fz (l.map dr)/\ T 1=.fz (l.map dr)/\ T 5=iV i/\ h=H.empty y) ?_ ?_ ?_;exact avo;rintro i T h G ⟨C,A,Y,rfl⟩;exact Z3 (a6 G) @bd ((s89 _<|r _<|bD G).aP) tr;rintro T h ⟨C,A,Y,rfl⟩;exact avB
abbrev gi(m:i7):List VV:=[.fz<|m.dS.map c8,.fz<|m.eX.map bQ,uV m.iI,iV m.cap,.fz<|m.eK.map dr,iV m.tU,uV m.dy,bV m.B']
def VS(m:i7):Prop:=hU m.dS/\ (bk m.eX/\ ∀a∈m.eX,bk a.cy)/\ (bk m.eK/\ ∀r∈m.eK,bk r.b_)
def e_(x:ke):List VV:=[iV x.number]++(bG x.ie++(gi x.cH++[uV x.fx,uL x.next,.fz<|x.nx.map kK]))
def xT(x:ke):Prop:=q5 x.ie/\ VS x.cH/\ bk x.next/\ bk x.nx
def w36(n:Int):aS VP 36 [iV n] (bV<|ax<|1<=n/\ n<=1099511627776):=by refine gO Tryz.f36.eq_1 λw y=>?_;exact S1 @Bool.decide_and tr
def s45(l:aL)(P:bk l):aS VP 45 [uL l,uL l] (bV aa):=by refine gO Tryz.f45.eq_1 λw y=>?_;refine S0 ?_;refine lF 0 (aA l) (λi T h=>T 0=uL l/\ T 1=uL l/\ T 5=iV i/\ h=H.empty y) ?_ ?_ ?_;exact avo;rintro i T h G ⟨C,A,Y,rfl⟩;exact Z2 (a6 G) @bd tr;rintro T h ⟨C,A,Y,rfl⟩;exact avB
def YE:∀x,xT x->aS VP 11 [.agg<|e_ x,.agg<|e_ x] (bV aa)
 |⟨n,⟨.mk k M F a W,P,v,Z⟩,⟨t,Y,j,I,s,E,G,O⟩,m,next,u⟩,⟨V,⟨p,d,A⟩,f,l⟩=>by have q:=s41 _ V;have D:=s42 _ p;have b:=s43 _ d.1 d.2;have r:=s44 _ A.1 A.2;have X:=s45 _ f;have l:bk u:=l;simp only[bG,bg,ck,b7]at q D b r X;refine gO Tryz.f11.eq_1 λw y=>?_;simp only[e_,gi,bG,bg,ck,b7];refine S5 q.aP D.aP b.aP r.aP X.aP ?_;generalize Q:[iV n,iV k,iV M,iV F,iV a.kind,bV a.fF,uV a.fe,VV.fz<|a.cy.map ed,sV a.name,.fz<|W.map bc,uV P,.fz<|v.map gw,.fz<|Z.map e7,.fz<|t.map c8,.fz<|Y.map bQ,uV j,iV I,.fz<|s.map dr,iV E,uV G,bV O,uV m,uL next,.fz<|u.map kK]=c;refine lF 0 (aA u) (λi T h=>T 2=.aR 2 1 0 0/\ T 3=.aR 3 1 0 0/\ T 7=iV i/\ h.o 2=⟨1,0,.cells aa ab 48 24 [c]⟩/\ h.o 3=⟨1,0,.cells aa ab 48 24 [c]⟩/\ h.y=y) ?_ ?_ ?_;exact avo;rintro i T h g ⟨C,e,L,z,J,U⟩;subst Q;exact Z3 (a6 g) @bd @akG tr;rintro T h ⟨C,e,L,z,J,U⟩;subst Q;exact avB
def UC(es:List<|List VV)(c z:List VV)(s e sz:Nat)(i:Nat)(J W U x:VV)(E O S:VO)(y y':List<|List VV)(Q:Prop):Prop:=J=.aR 1 1 0 0/\ W=.aR 2 1 0 0/\ x=iV i/\ (∃md,E=⟨1,md,.cells aa ab 48 24 [c]⟩)/\ O=⟨1,0,.cells aa ab 48 24 [z]⟩/\ y'=y/\ Q/\ ∃v,U=b9 es s v/\ b6 S es v e sz
def ahF(l:aL):fW 1 (l.map λn=>[uV n])=aa:=oe (f:=λn=>[uV n]) (λ_=>rfl) l
def ahC(l:List pF):fW 7 (l.map kK)=aa:=oe (f:=kK) (λ_=>rfl) l
def uE(x:ke)(V Y:VV):List VV:=[iV x.number]++(bG x.ie++([.fz<|x.cH.dS.map c8,V,uV x.cH.iI,iV x.cH.cap,Y,iV x.cH.tU,uV x.cH.dy,bV x.cH.B']++[uV x.fx,uL x.next,.fz<|x.nx.map kK]))
def sg:List VV:=[iV 0,iV 0,iV 0,iV 0,iV 0,bV ab,uV 0,.nil,sV [],.nil,uV 0,.nil,.nil,.nil,.nil,uV 0,iV 0,.nil,iV 0,uV 0,bV ab,uV 0,.nil,.nil]
def w7:∀x,xT x->aS VP 7 [.agg<|e_ x] (.agg<|e_ x)
 |⟨n,⟨.mk k M f a W,V,J,S⟩,⟨t,Y,j,I,s,A,l,D⟩,m,next,u⟩,⟨h1,⟨h2,N,c⟩,Z,z⟩=>by
  have q:=w9 _ h1;have B:=w26 _ h2;have L:bk Y:=N.1;have e:bk s:=c.1
  have Z:bk next:=Z
  have z:bk u:=z;simp only[bG,bg,ck,b7]at q B;refine gO Tryz.f7.eq_1 λw y=>?_;simp only[e_,gi,bG,bg,ck,b7];refine S2 q.bE B.bE ?_;refine lF 0 (aA Y) (λi T h=>UC ((Y.take i).map bQ) (uE ⟨n,⟨.mk k M f a W,V,J,S⟩,⟨t,Y,j,I,s,A,l,D⟩,m,next,u⟩ (.fz<|Y.map bQ)<|.fz<|s.map dr) sg 34 28 5 i (T 1) (T 2) (T 3) (T 4) (h.o 1) (h.o 2) (h.o 34) y h.y True) ?_ ?_ ?_;refine S0 ?_;refine⟨aM,aM,aM,⟨2,?_⟩,aM,aM,trivial,0,aM,aM,λh=>absurd aM h⟩;exact avZ;rintro i T h p ⟨g,C,Q,⟨o,E⟩,O,U,_,v,G,b⟩;have P:i<9223372036854775807:=by unfold bk at L;omega
  have r:aA ((Y.take i).map bQ)<536870912:=by unfold bk at L;exact aul
  simp only[uE,bG,bg,ck,b7]at E;refine fm g C G Q E O (a6 p) @bd ((w27 _<|N.2 _<|bD p).bE) (iM b r) ?_;have X:(Y.take<|i+1).map bQ=(Y.take i).map bQ++[bQ Y[i]]:=by rw[ej p,dg];rfl
  refine⟨aM,aM,aM,⟨o,?_⟩,aM,U,trivial,v+1,by rw[X],?_⟩;exact avZ;rw[X,b.1];exact auh;rintro T h ⟨g,C,Q,⟨o,E⟩,O,U,_,v,G,b⟩;simp only[bP]at G b;simp only[uE,bG,bg,ck,b7]at E;refine S6 g C G Q E O ?_;refine lF 2 (aA s) (λi T h=>UC ((s.take i).map dr) (uE ⟨n,⟨.mk k M f a W,V,J,S⟩,⟨t,Y,j,I,s,A,l,D⟩,m,next,u⟩ (b9 (Y.map bQ) 34 v)<|.fz<|s.map dr) sg 55 72 4 i (T 1) (T 2) (T 5) (T 6) (h.o 1) (h.o 2) (h.o 55) y h.y<|b6 (h.o 34) (Y.map bQ) v 28 5) ?_ ?_ ?_;refine S5 g C G E O ?_;refine⟨aM,aM,aM,⟨o+1,?_⟩,aM,U,b,(h.o 55).ver,aM,aM,λh=>absurd aM h⟩;exact avZ;rintro i T h p ⟨g,C,Q,⟨o,E⟩,O,U,F,v2,G,b⟩;have P:i<9223372036854775807:=by unfold bk at e;omega
  have r:aA ((s.take i).map dr)<536870912:=by unfold bk at e;exact aul
  simp only[uE,bG,bg,ck,b7]at E;refine fm g C G Q E O (a6 p) @bd ((w28 _<|c.2 _<|bD p).bE) (iM b r) ?_;have X:(s.take<|i+1).map dr=(s.take i).map dr++[dr s[i]]:=by rw[ej p,dg];rfl
  refine⟨aM,aM,aM,⟨o,?_⟩,aM,U,F,v2+1,by rw[X],?_⟩;exact avZ;rw[X,b.1];exact auh;rintro T h ⟨g,C,Q,⟨o,E⟩,O,U,F,v2,G,d⟩;simp only[bP]at G d;simp only[uE,bG,bg,ck,b7]at E;simp only[sg]at O;exact bq g C G Q E O @ahF @ahC (xD Z) (Ea Z) (xD z) (an (Ea z)<|an (gf F)<|an (gf d) U) tr
structure cf where
 label:Int
 size:Int
 first:Int
 next:Int
 v':List bJ
structure dm where
 bw:List cf
 order:Int
 IE:Int
 GW:Int
def du(r:cf):List VV:=[uV r.label,iV r.size,uV r.first,uV r.next]++r.v'.flatMap cd
abbrev dH(s:dm):List VV:=[.fz<|s.bw.map du,uV s.order,uV s.IE,uV s.GW]
def By(t:bl):Bool:=ax (aA t.be<=20)&&ax (aA t.bN.bH<=5)
def Bz(t:dZ):Bool:=ax (aA t.cy<=10)&&ax (aA t.name<=20)
def BA(t:kv):Bool:=ax<|aA t.b_<=14
def Bu(s:dm)(x:ke):Bool:=ax (aA s.bw<=9)&&tc x.ie&&ax (aA x.cH.dS<=100)&&ax (aA x.cH.eX<=20)&&ax (aA x.cH.eK<=70)&&ax (aA x.next<=12)&&ax (aA x.nx<=100)&&
 x.cH.dS.all By&&x.cH.eX.all Bz&&x.cH.eK.all BA
def Ha(m l:Nat):ax (l<=m)=!ax ((m:Int)<l):=by grind
def JT{α:Type}{p:α->Bool}{l:List α}{i:Nat}(G:i<aA l)(M:(l.take i).all p=aa){b:Bool}(e:p l[i]=!b):(b=aa->l.all p=ab)/\ (b=ab->(l.take<|i+1).all p=aa):=⟨λh=>JU G<|by rw[e,h];rfl,λh=>JS G M<|by rw[e,h];rfl⟩
def w4:∀s x,aS VP 4 [.agg<|dH s,.agg<|e_ x]<|bV<|Bu s x
 |⟨J,B,z,Q⟩,⟨n,⟨.mk k F f a W,S,v,U⟩,⟨t,Y,j,I,q,E,G,D⟩,m,next,u⟩=>by
  have N:=w5 ⟨.mk k F f a W,S,v,U⟩;generalize d:tc ⟨.mk k F f a W,S,v,U⟩=r at N;simp only[bG,bg,ck,b7]at N;refine gO Tryz.f4.eq_1 λw y=>?_;simp only[e_,gi,bG,bg,ck,b7];refine S1 N.aP ?_;generalize X:[iV n,iV k,iV F,iV f,iV a.kind,bV a.fF,uV a.fe,VV.fz<|a.cy.map ed,sV a.name,.fz<|W.map bc,uV S,.fz<|v.map gw,.fz<|U.map e7,.fz<|t.map c8,.fz<|Y.map bQ,uV j,iV I,.fz<|q.map dr,iV E,uV G,bV D,uV m,uL next,.fz<|u.map kK]=c;generalize e:(ax ((9:Int)<aA J)||!r||ax ((100:Int)<aA t)||ax ((20:Int)<aA Y)||ax ((70:Int)<aA q)||ax ((12:Int)<aA next)||ax ((100:Int)<aA u))=b;have C:Bu ⟨J,B,z,Q⟩ ⟨n,⟨.mk k F f a W,S,v,U⟩,⟨t,Y,j,I,q,E,G,D⟩,m,next,u⟩=(!b&&t.all By&&Y.all Bz&&q.all BA):=by subst e;simp only[Bu,d,Ha,Fl,Fk];rfl
  rw[C]
  cases b with
  |true=>rfl
  |false=>
   have V:=e;simp only[gz,cE]at V;have a0:aA t<=100:=by have:=V.1.1.1.1.2;omega
   have b0:aA Y<=20:=by have:=V.1.1.1.2;omega
   have c0:aA q<=70:=by have:=V.1.1.2;omega
   clear V;simp only[br,j',oI];refine lF 0 (aA t) (λi T h=>T 5=.aR 5 1 0 0/\ T 6=iV i/\ h.o 5=⟨1,1,.cells aa ab 42 8 [gi ⟨t,Y,j,I,q,E,G,D⟩]⟩/\ h.y=y/\ (t.take i).all By=aa) ?_ ?_ ?_;subst X;refine S0 ?_;exact at1;rintro i T h g ⟨P,A,l,O,M⟩;have Z:i<9223372036854775807:=aW;refine Z2 (a6 g) @bd ?_;have⟨L,o⟩:=JT (p:=By) g M (b:=ax ((20:Int)<t[i].be.length)||ax ((5:Int)<t[i].bN.bH.length)) (by simp only[By,Ha,Fl];rfl);exact⟨λh=>by rw[L h];rfl,o⟩;rintro T h ⟨P,A,l,O,M⟩;rw[bP]at M;refine Z0 ?_;refine lF 2 (aA Y) (λi T h=>T 5=.aR 5 1 0 0/\ T 7=iV i/\ h.o 5=⟨1,1,.cells aa ab 42 8 [gi ⟨t,Y,j,I,q,E,G,D⟩]⟩/\ h.y=y/\ (Y.take i).all Bz=aa) ?_ ?_ ?_;refine Z0 ?_;exact at1;rintro i T h g ⟨P,A,l,O,M⟩;have Z:i<9223372036854775807:=aW;refine Z3 (a6 g) @bd @qT ?_;have⟨L,o⟩:=JT (p:=Bz) g M (b:=ax ((10:Int)<Y[i].cy.length)||ax ((20:Int)<Y[i].name.length)) (by simp only[Bz,Ha,Fl];rfl);exact⟨λh=>by rw[L h];rfl,o⟩;rintro T h ⟨P,A,l,O,M⟩;rw[bP]at M;refine Z0 ?_;refine lF 4 (aA q) (λi T h=>T 5=.aR 5 1 0 0/\ T 8=iV i/\ h.o 5=⟨1,1,.cells aa ab 42 8 [gi ⟨t,Y,j,I,q,E,G,D⟩]⟩/\ h.y=y/\ (q.take i).all BA=aa) ?_ ?_ ?_;refine Z0 ?_;exact at1;rintro i T h g ⟨P,A,l,O,M⟩;have Z:i<9223372036854775807:=aW;refine Z2 (a6 g) @bd ?_;have⟨L,o⟩:=JT (p:=BA) g M (b:=ax<|(14:Int)<q[i].b_.length) (by simp only[BA,Ha];rfl);exact⟨λh=>by rw[L h],o⟩;rintro T h ⟨P,A,l,O,M⟩;rw[bP]at M;exact avB
def u9(a b:Int):Int:=IntKind.u64.wrap (aw 64 a&&&~~~(aw 64 b)).toNat
def vF(a b:Int):hP .andNot .u64 .u64 a b=.ok (bY .u64<|u9 a b):=aV
def below(a b:Int):Bool:=u9 a b==0
def w71(a b:Int):aS VP 71 [uV a,uV b] (bV<|below a b):=by refine gO Tryz.f71.eq_1 λw y=>?_;exact S2 @vF below.eq_1 tr
def eE(r:cf):Prop:=aA r.v'=64
def dF{r:cf}(h:eE r):aA (du r)=388:=by unfold du eE at*;rw[cN,Dm (k:=6)<|λ_=>rfl,h];rfl
def am2(r:cf):(du r)[0]?=ad (uV r.label):=rfl
def am3(r:cf):(du r)[1]?=ad (iV r.size):=rfl
def am4(r:cf):(du r)[2]?=ad (uV r.first):=rfl
def am5(r:cf):(du r)[3]?=ad (uV r.next):=rfl
def G9{cs:aC}{o:Nat}{v:VV}(h:cs[o]?=ad v)(hn:et v=aa):gg ae cs o=.ok v:=by simp only[gg,h,hn,a8]
def me(r:cf):gg ae (du r) 0=.ok (uV r.label):=G9 (am2 r) aM
def Br(r:cf):gg ae (du r) 1=.ok (iV r.size):=G9 (am3 r) aM
def rY(r:cf):gg ae (du r) 2=.ok (uV r.first):=G9 (am4 r) aM
def qO(r:cf):gg ae (du r) 3=.ok (uV r.next):=G9 (am5 r) aM
def E'(r:cf)(c:Int)(h:eE r):aS VP 83 [.agg<|du r,uV c] (bV<|below r.label c):=by refine gO Tryz.f83.eq_1 λw y=>?_;exact S4 @vF below.eq_1 (dF h) @me tr
def w96(r:cf)(c:Int)(h:eE r):aS VP 96 [.agg<|du r,uV c] (bV<|below r.label c):=by refine gO Tryz.f96.eq_1 λw y=>?_;exact S4 @vF below.eq_1 (dF h) @me tr
def QN(l k v:Int):ga VP.D 87 [(0,uV l),(1,iV k),(2,iV v)]=.ok (.agg [uV l,iV k,iV v]):=aV
abbrev Gy(l k v:Int):List VV:=[uV l,iV k,iV v]
def vN(k:Int):Int:=bif ax (k<0)||ax (26<=k)then 11 else 0
def ara(l k v:Int):aS VP 121 [.agg<|Gy l k v] (iV<|vN k):=by refine gO Tryz.f121.eq_1 λw y=>?_;exact S1 vN.eq_1 tr
def art(l k v:Int):aS VP 168 [.agg<|Gy l k v] (iV<|vN k):=by refine gO Tryz.f168.eq_1 λw y=>?_;exact S1 vN.eq_1 tr
def IT(s:bJ):aS VP 169 [.agg<|cd s] (.agg<|Gy s.id.label s.kind s.value):=by refine gO Tryz.f169.eq_1 λw y=>?_;exact S3 @dW @cC @QN tr
def aaA(s:bJ):aS VP 177 [.agg<|cd s] (.agg<|Gy s.id.label s.kind s.value):=by refine gO Tryz.f177.eq_1 λw y=>?_;exact S3 @dW @cC @QN tr
def uv(n:Int):Int:=bif ax (n<1)||ax (1099511627776<n)then 2 else 0
def ars(i:u_):aS VP 167 [.agg<|GY i] (iV<|uv i.no):=by refine gO Tryz.f167.eq_1 λw y=>?_;exact S1 uv.eq_1 tr
def arx(i:u_):aS VP 176 [.agg<|GY i] (iV<|uv i.no):=by refine gO Tryz.f176.eq_1 λw y=>?_;exact S1 uv.eq_1 tr
def tL(o t:Int):Int:=bif ax (o<1)||ax (1099511627776<o)||ax (1099511627776<t)then 2 else 0
def c7(a b:Int):Int:=bif a==0 then b else a
def ra(s:bJ):Int:=c7 (c7 (uv s.id.no)<|vN s.kind)<|tL s.order s.dy
def Wg(n:Int):uv n=0\/ uv n=2:=by unfold uv;cases(ax (n<1)||ax (1099511627776<n))<;>simp
def UZ(n:Int):vN n=0\/ vN n=11:=by unfold vN;cases(ax (n<0)||ax (26<=n))<;>simp
def q0:((0:Int)==0)=aa:=rfl
def q2:((2:Int)==0)=ab:=rfl
def BO:((11:Int)==0)=ab:=rfl
def n0:((0:Int)!=0)=ab:=rfl
def n2:((2:Int)!=0)=aa:=rfl
def n11:((11:Int)!=0)=aa:=rfl
def aq1(s:bJ):aS VP 102 [.agg<|cd s] (iV<|ra s):=by
 have h:=ars s.id;have a:=art s.id.label s.kind s.value;unfold ra
 rcases Wg s.id.no with e|e<;>rcases UZ s.kind with f|f<;>rw[e]at h|- <;>rw[f]at a|- <;>refine gO Tryz.f102.eq_1 λw y=>?_
 cases C:ax (s.order<1)<;>cases l:ax (1099511627776<s.order)<;>cases j:ax (1099511627776<s.dy)<;>exact Z6 h.aP ((IT s).aP) a.aP @q0 c7.eq_1 tL.eq_1 tr;exact S7 h.aP ((IT s).aP) a.aP @q0 @BO c7.eq_1 tL.eq_1 tr;exact awS;exact awS
def aq6(s:bJ):aS VP 110 [.agg<|cd s] (iV<|ra s):=by
 have h:=arx s.id;have a:=ara s.id.label s.kind s.value;unfold ra
 rcases Wg s.id.no with e|e<;>rcases UZ s.kind with f|f<;>rw[e]at h|- <;>rw[f]at a|- <;>refine gO Tryz.f110.eq_1 λw y=>?_
 refine S7 h.aP ((aaA s).aP) a.aP @q0 @n0 c7.eq_1 tL.eq_1 tr;exact S9 h.aP ((aaA s).aP) a.aP @q0 @n0 @BO @n11 c7.eq_1 tL.eq_1 tr;exact S6 h.aP @q0 @q2 @n2 c7.eq_1 tL.eq_1 tr;exact S6 h.aP @q0 @q2 @n2 c7.eq_1 tL.eq_1 tr
def u7(r:kv)(t d:Int):Bool:=ax (t<r.first)||ax (IntKind.u64.wrap (t-r.first)<=d)
def arn(r:kv)(t d:Int):aS VP 159 [.agg<|dr r,uV t,uV d] (bV<|u7 r t d):=by refine gO Tryz.f159.eq_1 λw y=>?_;exact S1 u7.eq_1 tr
def aq3(r:kv)(t d:Int)(C:0<=d):aS VP 106 [.agg<|dr r,uV t,uV d] (bV<|u7 r t d):=by
 have e:u7 r t d=(ax (t<=r.first)||ax (IntKind.u64.wrap (t-r.first)<=d)):=by
  unfold u7;by_cases h:t=r.first;subst h;have:IntKind.u64.wrap (r.first-r.first)=0:=by rw[Int.sub_self];rfl
  rw[this,gu C];simp;have:ax (t<r.first)=ax (t<=r.first):=by by_cases a:t<r.first;rw[gu a,gu aW];rw[kV a,kV aW]
  rw[this]
 rw[e];refine gO Tryz.f106.eq_1 λw y=>?_;exact aug
def dK{α:Type}(p:α->α->Bool):List α->List α->Bool
 |[],[]=>aa
 |a::l,b::m=>p a b&&dK p l m
 |_,_=>ab
def Sg{α:Type}{p:α->α->Bool}:∀{l m:List α},dK p l m=aa->aA l=aA m
 |[],[],_=>rfl
 |[],_::_,h=>by cases h
 |_::_,[],h=>by cases h
 |a::l,b::m,h=>by simp only[dK,bW]at h;simp[Sg h.2]
def oV{α:Type}{l m:List α}(h:aA l≠aA m)(p:α->α->Bool):dK p l m=ab:=by
 cases e:dK p l m with
 |false=>rfl
 |true=>exact absurd (Sg e) h
def Gu{α:Type}{p:α->α->Bool}:∀{l m:List α} {i:Nat} (G:i<aA l) (u:i<aA m),p l[i] m[i]=ab->dK p l m=ab
 |a::l,b::m,0,_,_,h=>by simp only[m_]at h;simp[dK,h]
 |a::l,b::m,i+1,G,u,h=>by simp only[List.getElem_cons_succ]at h;simp only[dK,Gu (ka G) (ka u) h,Fi]
def Gs{α:Type}{p:α->α->Bool}:∀{l m:List α} {i:Nat} (G:i<aA l) (u:i<aA m),dK p (l.take i) (m.take i)=aa->p l[i] m[i]=aa->dK p (l.take<|i+1) (m.take<|i+1)=aa
 |a::l,b::m,0,_,_,_,h=>by simp only[m_]at h;simp[dK,h]
 |a::l,b::m,i+1,G,u,M,h=>by simp only[List.getElem_cons_succ]at h;simp only[j7,dK,bW]at M|-;exact⟨M.1,Gs (ka G) (ka u) M.2 h⟩
def rN{α:Type}{p:α->α->Bool}{l m:List α}{i:Nat}(G:i<aA l)(u:i<aA m)(M:dK p (l.take i) (m.take i)=aa){b:Bool}(e:p l[i] m[i]=!b):(b=aa->dK p l m=ab)/\ (b=ab->dK p (l.take<|i+1) (m.take<|i+1)=aa):=⟨λh=>Gu G u<|by rw[e,h];rfl,λh=>Gs G u M<|by rw[e,h];rfl⟩
def gZ:List Int->List Int->Bool:=dK λa b=>a==b
def nB{α β:Type}{a:List α}{b:List β}(h:aA a≠aA b):((aA a:Int)!=(aA b:Int))=aa:=by simpa using λp:(aA a:Int)=aA b=>h aW
def Ol(a b:aL)(J:bk a):aS VP 162 [iL a,iL b] (bV<|gZ a b):=by refine gO Tryz.f162.eq_1 λw y=>?_;by_cases l:aA a=aA b;refine Z0 ?_;refine lF 0 (aA a) (λi T h=>T 0=iL a/\ T 1=iL b/\ T 11=iL a/\ T 12=iV (aA a)/\ T 13=iV i/\ h=H.empty y/\ gZ (a.take i) (b.take i)=aa) ?_ ?_ ?_;refine Z0 ?_;exact at1;rintro i T h G ⟨t,g,u,D,U,rfl,M⟩;exact aun;rintro T h ⟨t,g,u,D,U,rfl,M⟩;exact auw;exact awy
def aak(a b:aL)(J:bk a):aS VP 108 [iL a,iL b] (bV<|gZ a b):=by refine gO Tryz.f108.eq_1 λw y=>?_;by_cases l:aA a=aA b;refine Z0 ?_;refine lF 0 (aA a) (λi T h=>T 0=iL a/\ T 1=iL b/\ T 5=iV i/\ h=H.empty y/\ gZ (a.take i) (b.take i)=aa) ?_ ?_ ?_;refine Z0 ?_;exact at1;rintro i T h G ⟨t,g,Y,rfl,M⟩;exact aun;rintro T h ⟨t,g,Y,rfl,M⟩;exact auw;exact awy
def vt(c d:nf):Bool:=bif c.op==d.op then c.value==d.value else ab
def arq(a b:List nf)(J:bk a):aS VP 163 [.fz<|a.map ed,.fz<|b.map ed] (bV<|dK vt a b):=by refine gO Tryz.f163.eq_1 λw y=>?_;by_cases l:aA a=aA b;refine Z0 ?_;refine lF 0 (aA a) (λi T h=>T 0=.fz (a.map ed)/\ T 1=.fz (b.map ed)/\ T 11=.fz (a.map ed)/\ T 12=iV (aA a)/\ T 13=iV i/\ h=H.empty y/\ dK vt (a.take i) (b.take i)=aa) ?_ ?_ ?_;refine Z0 ?_;exact at1;rintro i T h G ⟨t,g,u,D,U,rfl,M⟩;refine Z4 (a6 G) (a6<|l▸G) @bd @Wd ?_;have⟨x,o⟩:=rN (p:=vt) G (l▸G) M (b:=!vt a[i] (b[i]'(l▸G))) aY;exact auk;rintro T h ⟨t,g,u,D,U,rfl,M⟩;exact auw;exact avJ
def qF(s t:bo):Bool:=(s.da==t.da)&&gZ s.bH t.bH
def arp(s t:bo)(h:bk s.bH):aS VP 161 [.agg<|bm s,.agg<|bm t] (bV<|qF s t):=by refine gO Tryz.f161.eq_1 λw y=>?_;exact S2 ((Ol s.bH t.bH h).aP) qF.eq_1 tr
def fV(s t:bl):Bool:=qF s.bN t.bN&&(s.dT==t.dT)&&gZ s.be t.be&&(s.dJ==t.dJ)&&(s.cc==t.cc)
def w93(s t:bl)(h:bk s.bN.bH)(a:bk s.be):aS VP 93 [.agg<|c8 s,.agg<|c8 t] (bV<|fV s t):=by refine gO Tryz.f93.eq_1 λw y=>?_;exact S3 ((Ol s.be t.be a).aP) ((arp s.bN t.bN h).aP) fV.eq_1 tr
def l9(s t:dZ):Bool:=(s.kind==t.kind)&&(s.fF==t.fF)&&(s.fe==t.fe)&&(s.name==t.name)&&dK vt s.cy t.cy
def w95(s t:dZ)(h:bk s.cy):aS VP 95 [.agg<|bQ s,.agg<|bQ t] (bV<|l9 s t):=by refine gO Tryz.f95.eq_1 λw y=>?_;exact S2 ((arq s.cy t.cy h).aP) l9.eq_1 tr
def w92(a b:List bl)(J:bk a)(r:∀t∈a,bk t.bN.bH/\ bk t.be):aS VP 92 [.fz<|a.map c8,.fz<|b.map c8,.func 93 [] []] (bV<|dK fV a b):=by refine gO Tryz.f92.eq_1 λw y=>?_;by_cases l:aA a=aA b;refine Z0 ?_;refine lF 0 (aA a) (λi T h=>T 1=.fz (b.map c8)/\ T 2=.func 93 [] []/\ T 15=.fz (a.map c8)/\ T 16=iV (aA a)/\ T 17=iV i/\ h.y=y/\ dK fV (a.take i) (b.take i)=aa) ?_ ?_ ?_;refine Z0 ?_;exact at1;rintro i T h G ⟨g,C,c,k,V,E,M⟩;have m:=r _<|bD G;refine Z4 (a6 G) (a6<|l▸G) @bd ((w93 a[i] (b[i]'(l▸G)) m.1 m.2).aP) ?_;have⟨x,o⟩:=rN (p:=fV) G (l▸G) M (b:=!fV a[i] (b[i]'(l▸G))) aY;exact auk;rintro T h ⟨g,C,c,k,V,E,M⟩;exact auw;exact avJ
def w94(a b:List dZ)(J:bk a)(r:∀t∈a,bk t.cy):aS VP 94 [.fz<|a.map bQ,.fz<|b.map bQ,.func 95 [] []] (bV<|dK l9 a b):=by refine gO Tryz.f94.eq_1 λw y=>?_;by_cases l:aA a=aA b;refine Z0 ?_;refine lF 0 (aA a) (λi T h=>T 1=.fz (b.map bQ)/\ T 2=.func 95 [] []/\ T 15=.fz (a.map bQ)/\ T 16=iV (aA a)/\ T 17=iV i/\ h.y=y/\ dK l9 (a.take i) (b.take i)=aa) ?_ ?_ ?_;refine Z0 ?_;exact at1;rintro i T h G ⟨g,C,c,k,V,E,M⟩;have m:=r _<|bD G;refine Z4 (a6 G) (a6<|l▸G) @bd ((w95 a[i] (b[i]'(l▸G)) m).aP) ?_;have⟨x,o⟩:=rN (p:=l9) G (l▸G) M (b:=!l9 a[i] (b[i]'(l▸G))) aY;exact auk;rintro T h ⟨g,C,c,k,V,E,M⟩;exact auw;exact avJ
def w51(a b:List bl)(e:hU a):aS VP 51 [.agg<|dA a,.agg<|dA b] (bV<|dK fV a b):=by have⟨J,r⟩:=e;refine gO Tryz.f51.eq_1 λw y=>?_;by_cases l:aA a=aA b;refine Z0 ?_;refine lF 0 (aA a) (λi T h=>T 2=.aR 2 1 0 0/\ T 3=.aR 3 1 0 0/\ T 5=iV i/\ h.o 2=⟨1,0,.cells aa ab 38 1 [dA a]⟩/\ h.o 3=⟨1,0,.cells aa ab 38 1 [dA b]⟩/\ h.y=y/\ dK fV (a.take i) (b.take i)=aa) ?_ ?_ ?_;refine Z0 ?_;exact at1;rintro i T h G ⟨C,A,Y,O,s,E,M⟩;have⟨o,f⟩:=r _<|bD G;refine Z5 (a6 G) (a6<|l▸G) @bd ((aak a[i].bN.bH (b[i]'(l▸G)).bN.bH o).aP) ((aak a[i].be (b[i]'(l▸G)).be f).aP) ?_;have⟨x,d⟩:=rN (p:=fV) G (l▸G) M (b:=(a[i].bN.da !=(b[i]'(l▸G)).bN.da||!gZ a[i].bN.bH (b[i]'(l▸G)).bN.bH||a[i].dT !=(b[i]'(l▸G)).dT||!gZ a[i].be (b[i]'(l▸G)).be||a[i].dJ !=(b[i]'(l▸G)).dJ||a[i].cc !=(b[i]'(l▸G)).cc)) (by simp[fV,qF,bne,Fl]);exact⟨λh=>by rw[x h],d⟩;rintro T h ⟨C,A,Y,O,s,E,M⟩;exact auw;exact avJ
def w52(a b:List dZ)(z:bk a)(r:∀t∈a,bk t.cy):aS VP 52 [.fz<|a.map bQ,.fz<|b.map bQ] (bV<|dK l9 a b):=by
 refine gO Tryz.f52.eq_1 λw y=>?_;by_cases l:aA a=aA b;refine S1 l ?_;refine lF 0 (aA a) (λi T h=>T 0=.fz (a.map bQ)/\ T 1=.fz (b.map bQ)/\ T 5=iV i/\ h.y=y/\ dK l9 (a.take i) (b.take i)=aa) ?_ ?_ ?_;refine S1 l ?_;exact at1;rintro i T h G ⟨Y,g,W,E,M⟩;have x:=r _<|bD G;have d:i<aA b:=l▸G;have V:l9 a[i] b[i]=ab->dK l9 a b=ab:=Gu G d;have j:l9 a[i] b[i]=aa->dK l9 (a.take<|i+1) (b.take<|i+1)=aa:=Gs G d M;refine S7 Y g W E (a6 G) (a6 d) @bd ?_;generalize X:a[i]=u at x V j;generalize O:b[i]=v at V j;have N:∀q,(u.kind !=v.kind||u.fF !=v.fF||u.fe !=v.fe||!u.name==v.name||(aA u.cy:Int)!=aA v.cy)=q->l9 u v=(!q&&dK vt u.cy v.cy):=by intro q C;subst C;by_cases c:aA u.cy=aA v.cy;simp[l9,bne,c];rw[nB c,oV c];simp[l9,oV c]
 refine⟨λe=>?_,λe=>?_⟩;rw[V<|by rw[N aa avF];rfl];have N:=N ab avF;have c:aA u.cy=aA v.cy:=by refine Ja λc=>?_;rw[nB c]at e;simp at e
 simp only[j',oI]at N;rw[N]at V j;refine oF 1 2 (aA u.cy) (λk T h=>T 0=.fz (a.map bQ)/\ T 1=.fz (b.map bQ)/\ T 5=iV i/\ T 8=iV k/\ (∃n m,T 6=.aR 6 n 0 0/\ h.o 6=⟨n,m,.cells aa ab 28 5 [bQ u]⟩)/\ (∃n m,T 7=.aR 7 n 0 0/\ h.o 7=⟨n,m,.cells aa ab 28 5 [bQ v]⟩)/\ h.y=y/\ dK vt (u.cy.take k) (v.cy.take k)=aa) ?_ ?_ ?_;refine S4 Y g W E ?_;exact⟨aM,⟨_,_,aM,aM⟩,⟨_,_,aM,aM⟩,aM⟩;rintro k T h f ⟨Y,g,W,Z,⟨J,D,B,A⟩,⟨P,U,F,o⟩,E,M⟩;refine bq Y g W B F Z A o E (a6 f) (a6<|c▸f) (an @bd @Wd) ?_;have⟨L,s⟩:=rN (p:=vt) f (c▸f) M (b:=!vt u.cy[k] (v.cy[k]'(c▸f))) aY;exact⟨λh=>by rw[V<|L h],λh=>⟨⟨_,_,aM,aM⟩,⟨_,_,aM,aM⟩,s h⟩⟩;rintro T h ⟨Y,g,W,Z,⟨J,D,B,A⟩,⟨P,U,F,o⟩,E,M⟩;rw[bP,c,bP]at M;refine fm Y g W B F Z A o E @bd ?_;exact j M;rintro T h ⟨Y,g,W,E,M⟩;rw[bP,l,bP]at M;exact S6 Y g W E M l tr;exact S3 Tryz.f52.eq_1 (nB l) (oV l) tr
end Go.Proofs.YtgdldhogfmambaaGreatDoor
namespace Go.Proofs.YtgdldhogfmambaaGreatDoor
open Go Go.Dt Go.Dt.Vm
set_option maxRecDepth 100000
def OA{D:a_}(f:Nat)(fn:Func)(N:Nat){args:aD}{s:St}{P:AV->St->Prop}(j:D.func f=ad fn)(p:D.pure f=ab)(c:fn.body.isSome=aa)(G:fn.ntmps=N)(l:aA args<=N)
 (h:pE (gd D (dw D) (fI D) N (fn.body.getD .skip) (vJ D fn.results.toList) (mH args) s) P):pE (dw D f args s) P:=by
 have⟨v,F,e,V⟩:=h;refine⟨v,F,ady j p c G aM l ?_,V⟩;have:sK D f=fn.body.getD .skip:=by simp[sK,j]
 rw[this];exact e
structure FH(D:a_)(T e n:Nat):Prop where
 un:cP D T=.ok (.slice e)
 sl:q9 D T=.ok e
 sz:size D e=.ok n
 pos:0<n
 row:sw D e 0=.ok []
 iO:(match rW D e,zero D e with|.ok i,.ok z=>decide (0<i.bytes/\ i.bytes<2^14/\ 0<n)&&aA z.cells==n|_,_=>ab)=aa
def acp{D:a_}{T e n:Nat}(h:FH D T e n){σ:St}{a:AV}{F:aE}(J:iS σ F a):l_ D (σ.push<|.cells [] e aa n) T T (.slice σ.n 0 0 (ad 0) n) a=.ok (.slice σ.n 0 0 (ad 0) n,σ.push<|.cells [] e aa n):=by
 have d:=h.iO
 cases V:rW D e with
 |error _=>rw[V]at d;cases d
 |ok i=>
 cases p:zero D e with
 |error _=>rw[V,p]at d;cases d
 |ok z=>
 rw[V,p]at d;have s:pr (σ.push<|.cells [] e aa n) n a=.ok ([],0):=by
  cases a<;>try(exact J.elim)
  rename_i w
  cases w<;>try(exact J.elim)
  rename_i x l c;obtain⟨rfl,rfl⟩:=J;rfl;rename_i b o l c r;obtain⟨rfl,C,N,O,B,v,A,j⟩:=J;have:(σ.push<|.cells [] e aa n).a7 b=.cells O B v A:=by rw[eP C,j]
  unfold pr cellsOf;have X:b<(σ.push<|.cells [] e aa n).n:=uX C;simp only[this,ca,aO,fO,kb,i',f_,dj,b8 X];rfl;rfl
 have Q:cellsOf (σ.push<|.cells [] e aa n) σ.n=.ok []:=by unfold cellsOf;rw[kk,b8<|show σ.n<(σ.push _).n from nR _]
 have G:(ax (0<2^30)&&ax (0<i.bytes/\ i.bytes<2^14/\ 0<n)&&!vH (.slice e)&&aA z.cells==n)=aa:=by simp only[bW]at d;simp only[d.1,d.2,vH];rfl
 have m:Go.Dt.storeCells (σ.push<|.cells [] e aa n) σ.n (0+0) []=.ok (σ.push<|.cells [] e aa n):=by rfl
 unfold l_;simp only[ca,aO,h.sl,h.sz,V,p,h.un,s,Q,fO,kb,i',f_,dj,List.drop_nil,List.take_nil];rw[cG<|by rw[G];decide,cG aY,b8 aT];rw[m];rfl
def afl{D:a_}{T e n:Nat}(h:FH D T e n){σ:St}{a:AV}{F:aE}(b:iS σ F a):(a=.aN (.slice ae 0 0)/\ Go.Dt.binOp D .eql T a (.aN<|.slice ae 0 0) aa=.ok (cO aa))\/ Go.Dt.binOp D .eql T a (.aN<|.slice ae 0 0) aa=.ok (cO ab):=by
 have q:∀r,bX D 10 T a (.aN<|.slice ae 0 0)=.ok r->mb D .eql T a (.aN<|.slice ae 0 0)=.ok (cO r):=λr h=>by simp only[mb,h];rfl
 cases a<;>try(exact b.elim)
 rename_i w
 cases w<;>try(exact b.elim)
 rename_i x l c;cases x;obtain⟨rfl,rfl⟩:=b;refine .inl ⟨aM,?_⟩;refine q aa ?_;unfold bX;rw[h.un];rfl;obtain⟨rfl,rfl⟩:=b;exact avy;exact avy;exact avy
def adn{D:a_}{T e n:Nat}(h:FH D T e n)(b:Nat):F5 D T 0 [] b=.ok (.slice b 0 0 (ad 0) n,.cells [] e aa n):=by unfold F5;simp only[ca,aO,h.sl,h.sz,h.row,kb];rfl
def AE(T:Nat):Code:=
 (Code.region 0 #[{dst:=ad 2,op:=Op.assign<|Operand.const<|Value.slice ae 0 0,type:=T,pos:= "slices.go:355",after:=#[],guard:=ae}] ab).seq
   (((Code.region 1 #[{dst:=ad 3,op:=Op.move<|Operand.tmp 0,type:=T,pos:= "slices.go:357",after:=#[],guard:=ae},
       {dst:=ad 4,op:=Op.binOp BinOp.eql T (Operand.tmp 3) (Operand.const<|Value.slice ae 0 0) T,type:=4,pos:= "slices.go:357",after:=#[{on:=0,ground:=Ground.data}],guard:=ae}] ab).seq
     (Code.cond (Operand.tmp 4) ((Code.region 2 #[{dst:=ad 2,op:=Op.assign<|Operand.const<|Value.slice ae 0 0,type:=T,pos:= "slices.go:358",after:=#[],guard:=ae}] ab).seq Code.ret) Code.skip)).seq
   ((Code.region 3 #[{dst:=ad 5,op:=Op.buildSlice T 0 #[],type:=T,pos:= "slices.go:362",after:=#[],guard:=ae},
      {dst:=ad 6,op:=Op.move<|Operand.tmp 0,type:=T,pos:= "slices.go:362",after:=#[],guard:=ae},
      {dst:=ad 7,op:=Op.call {callee:=Callee.builtin Builtin.append,args:=#[Operand.tmp 5,Operand.tmp 6],argTypes:=#[T,T]},type:=T,pos:= "slices.go:362",
       after:=#[{on:=0,ground:=Ground.data},{on:=1,ground:=Ground.data}],guard:=ae},
      {dst:=ad 2,op:=Op.assign<|Operand.tmp 7,type:=T,pos:= "slices.go:362",
       after:=#[{on:=2,ground:=Ground.data},{on:=2,ground:=Ground.chain},{on:=0,ground:=Ground.phase},{on:=1,ground:=Ground.phase},{on:=2,ground:=Ground.phase}],guard:=ae}] ab).seq
     Code.ret))
structure rn(f T e n:Nat):Prop where
 st:FH bO T e n
 fn:∃fn,bO.func f=ad fn/\ fn.body=ad (AE T)/\ fn.ntmps=8/\ fn.results.toList=[.tmp 2]
 pu:bO.pure f=ab
 cb:Vm.hK bO f=aa
 ok:fp VQ f 1=aa
 ss:oh VP.D T=ab
 sl:gm VP.D T=.ok (e,n)
 ap:lZ VP.D T T=.ok (e,n)
 zf:∃z,jO VP.D e=.ok z
 bs:J9 f=0
def Rl{f T e n:Nat}(C:rn f T e n){σ:St}{a:AV}{F:aE}(b:iS σ F a):pE (dw bO f [a] σ) λr σ'=>(σ'=σ/\ r=.aN (.slice ae 0 0))\/ (σ'=σ.push (.cells [] e aa n)/\ r=.slice σ.n 0 0 (ad 0) n):=by
 have⟨i,V,p,d,A⟩:=C.fn;have h:=C.st;refine OA f i 8 V C.pu (by rw[p];rfl) d aY ?_;rw[p,A]
 rcases afl h b with⟨rfl,q⟩|q
 simp(disch:=first|decide|omega)only[AE,Option.getD,xm,sZ,y6,y7,xl,y8,tu,tt,BH,Ef,Dt.Eg,HC,MI,Dt.rU,Dt.tB,IN,Dt.Bg,Dt.Bf,CK,FP,nU,aO,yj,q,C5,AK,xq,xr,vJ,lf,ou,pf,jL,FE,a8,br];exact at6;simp(disch:=first|decide|omega)only[AE,Option.getD,xm,sZ,y6,y7,xl,y8,tu,tt,BH,Ef,Dt.Eg,HC,MI,Dt.rU,Dt.tB,IN,Dt.Bg,Dt.Bf,CK,FP,nU,aO,yj,q,C5,AK,xq,xr,vJ,lf,ou,pf,jL,FE,a8,br,i_,adn h,acp h b];exact at6
def Y_(d:Option Tmp)(x:Operand)(ty:Nat)(p:String)(a:Array Edge)(g:Option<|Nat×Bool)(l:aH):BY (⟨d,.assign x,ty,p,a,g⟩::l)=ab:=rfl
def Y5(d:Option Tmp)(x:Operand)(ty:Nat)(p:String)(a:Array Edge)(g:Option<|Nat×Bool)(l:aH):BY (⟨d,.move x,ty,p,a,g⟩::l)=ab:=rfl
def Y'(d:Option Tmp)(t n:Nat)(O:Array<|Nat×Operand)(ty:Nat)(p:String)(a:Array Edge)(g:Option<|Nat×Bool)(l:aH):BY (⟨d,.buildSlice t n O,ty,p,a,g⟩::l)=ab:=rfl
def ad0{f T e n:Nat}(C:rn f T e n)(c:aC)(es:aB)(hn:aA (c::es)<2^29)(l:fW n (c::es)=aa):aS VQ f [.fz<|c::es] (.fz<|c::es):=by
 have⟨i,h,a,d,A⟩:=C.fn;have h:VQ.D.func f=ad i:=h;have g:VQ.h5 f=0:=C.bs;have⟨z,r⟩:=C.zf;have r:jO VQ.D e=.ok z:=r;have J:ag (aA c) n=aa:=l;have X:ah (aA<|c::es) (2^30)=aa:=at2;have x:ah (0+aA (c::es)) (2^30)=aa:=by rw[bZ];exact X
 have o:ai (0+aA (c::es)) (aA<|c::es)=aa:=aY;refine GP h C.ok (λw y=>?_) g;rw[a,A];have P:oh VQ.D T=ab:=C.ss;have k:gm VQ.D T=.ok (e,n):=C.sl;have G:lZ VQ.D T T=.ok (e,n):=C.ap;simp(maxSteps:=4000000) (disch:=first|decide|omega|exact Y_ ..|exact Y5 ..|exact Y' ..)only[AE,Option.getD,Nat.reduceAdd,hE,hC,hB,hy,ht,hd,hg,gS,hh,hp,gT,hq,oI,mB,px,j',rm,jP,P,k,G,r,QQ k,J,l,X,x,o]
def adZ{xs:aC}{r:VV}{n:Nat}(h:yF n xs=.ok r):∃es,xs=[.fz es]/\ r=.fz es/\ aA es<2^29/\ fW n es=aa:=by unfold yF at h;split at h;rename_i es;rw[dn]at h;simp only[bW]at h;have⟨⟨V,a⟩,d⟩:=h;cases d;exact at6;exact avN
def Ks{f T e n:Nat}(C:rn f T e n)(M:yt VQ)(A:yl VQ){xs:aC}{r:VV}(h:yF n xs=.ok r)(E:Vm.cI)(X K F:aE)(σ:St)(args:aD)(y:aB):wA bO f xs y r y E X K F σ args:=by
 obtain⟨j,rfl,rfl,V,Y⟩:=adZ h
 cases j with
 |cons c j=>have⟨_,W⟩:=(EV M A).1 _ _ _ _ _ _ (ad0 C c j V Y E.iN y);exact W E X K F σ args rfl
 |nil=>
  intro N B s Z k S t U a0 G;simp only[RL]at G;obtain⟨a,_,rfl,J,rfl⟩:=G;have d:iS σ F a:=by
   simp only[RR]at J
   rcases J with⟨_,J⟩|⟨b,o,L,I,b0,l,w,q,p,c0,rfl,O,x,D,rfl,_⟩
   exact J;exact⟨aM,x,O,l,w,q,p,D⟩
  have⟨v,z,g,u⟩:=Rl C d;refine⟨v,z,X,g,?_⟩
  rcases u with⟨rfl,rfl⟩|⟨rfl,rfl⟩
  refine⟨⟨bu _,s,aM,?_,λ_ h=>h,λb P=>⟨S b P,.inl P⟩,λ_ _ _=>rfl⟩,aM,?_⟩;exact E.jN _ _ _ _ z _ B (bu _) s (λ_ _ _=>rfl) aM λb P=>.inl P;simp only[RR];exact awz;have Q:(σ.push<|.cells [] e aa n).n=σ.n+1:=rfl;have i:(σ.push<|.cells [] e aa n).l.length=(σ.push<|.cells [] e aa n).n:=by simp[St.push,s]
  refine⟨⟨aW,i,rfl,?_,λ_ h=>h,λb P=>⟨by have:=S b P;omega,.inl P⟩,λb P _=>eP P⟩,aM,?_⟩;exact E.jN _ _ _ _ σ _ B aW i (λb P _=>eP P) aM λb P=>.inl P;simp only[RR];refine .inl ⟨trivial,aM,aW,.inr ⟨bu _,aW,λm=>?_⟩,_,_,_,_,kk⟩;have:=S _ m;omega
def Rj:rn 76 32 79 4:=⟨⟨aV,aV,aV,aT,aV,aV⟩,⟨Tryz.f76,aV,rfl,rfl,rfl⟩,aV,aV,aV,aoQ,aoj,acg,⟨_,ato⟩,aV⟩
def Rk:rn 77 33 75 2:=⟨⟨aV,aV,aV,aT,aV,aV⟩,⟨Tryz.f77,aV,rfl,rfl,rfl⟩,aV,aV,aV,aoR,aok,ach,⟨_,atm⟩,aV⟩
def Ri:rn 145 26 77 2:=⟨⟨aV,aV,aV,aT,aV,aV⟩,⟨Tryz.f145,aV,rfl,rfl,rfl⟩,aV,aV,aV,aoN,aog,acf,⟨_,atn⟩,aV⟩
def adV:rn 148 29 31 9:=⟨⟨aV,aV,aV,aT,aV,aV⟩,⟨Tryz.f148,aV,rfl,rfl,rfl⟩,aV,aV,aV,aoO,aoh,P9,⟨_,atj⟩,aV⟩
def adW:rn 208 66 3 1:=⟨⟨aV,aV,aV,aT,aV,aV⟩,⟨Tryz.f208,aV,rfl,rfl,rfl⟩,aV,aV,aV,aoS,aon,Am,⟨_,ati⟩,aV⟩
def adX:rn 265 312 68 2:=⟨⟨aV,aV,aV,aT,aV,aV⟩,⟨Tryz.f265,aV,rfl,rfl,rfl⟩,aV,aV,aV,aoP,Ip,JX,⟨_,abm⟩,aV⟩
def Pu:yt VZ:=⟨λf g h=>(by cases h),λf g h=>(by cases h)⟩
def Pt:yl VZ:=λf g h=>(by cases h)
def FJ:yt VQ:=⟨λf g h=>(by cases h),λf g h=>(by cases h)⟩
def CB:yl VQ:=by
 intro f g o;change y5 f=ad g at o;unfold y5 at o
 cases V:ag f 403 with
 |true=>rw[V]at o;cases o;have:=dB V;subst this;exact λb y h r Y e=>Zd (P:=VQ) Pu Pt (λ_=>rfl) aM aM aV aX aV e
 |false=>
  rw[V]at o;simp only[br]at o
  cases a:ag f 116 with
  |true=>rw[a]at o;cases o;have:=dB a;subst this;exact λb y h r Y e=>Zd (P:=VQ) Pu Pt (λh=>by cases h) aM aM aV aX aV e
  |false=>
   rw[a]at o;simp only[br]at o
   cases d:ag f 97 with
   |true=>rw[d]at o;cases o;have:=dB d;subst this;exact λb y h r Y e=>aiQ (P:=VQ) aV aX aV e
   |false=>rw[d]at o;cases o
def ad2{f T e n:Nat}(C:rn f T e n){σ:St}:dw bO f [.aN<|.slice ae 0 0] σ=.ok (.ret<|.aN<|.slice ae 0 0,σ):=by
 have⟨i,V,a,d,A⟩:=C.fn;have h:=C.st;have q:Go.Dt.binOp bO .eql T (.aN<|.slice ae 0 0) (.aN<|.slice ae 0 0) aa=.ok (cO aa):=by
  have:bX bO 10 T (.aN<|.slice ae 0 0) (.aN<|.slice ae 0 0)=.ok aa:=by unfold bX;rw[h.un];rfl
  show mb bO .eql T (.aN<|.slice ae 0 0) (.aN<|.slice ae 0 0)=_;simp only[mb,this];rfl
 have:pE (dw bO f [.aN<|.slice ae 0 0] σ) λr z=>r=.aN (.slice ae 0 0)/\ z=σ:=by refine OA f i 8 V C.pu (by rw[a];rfl) d aY ?_;rw[a,A];simp(disch:=first|decide|omega)only[AE,Option.getD,xm,sZ,y6,y7,xl,y8,tu,tt,BH,Ef,Dt.Eg,HC,MI,Dt.rU,Dt.tB,IN,Dt.Bg,Dt.Bf,CK,FP,nU,aO,yj,q,C5,AK,xq,xr,vJ,lf,ou,pf,jL,FE,a8,br];exact at6
 obtain⟨v,z,V,rfl,rfl⟩:=this;exact V
def ad1{f T e n:Nat}(C:rn f T e n)(c:aC)(es:aB)(hn:aA (c::es)<2^29)(l:ag (aA c) n=aa)(w:cV)(b:Nat)(h:H)(B:lD (b*1000+5)=ab)(a:lD (b*1000+7)=ab)(G:y5 f=ae):
 (vW VQ).i f b [.fz<|c::es] w h=.ok (.bh (b*1000+5) ((h.o<|b*1000+5).ver+2) 0<|aA<|c::es,(h.new (b*1000+5)<|.cells ab ab e n []).new (b*1000+5)<|.cells ab ab e n<|c::es):=by
 have⟨L,V,p,d,A⟩:=C.fn;have V:VQ.D.func f=ad L:=V;have⟨z,r⟩:=C.zf;have r:jO VQ.D e=.ok z:=r;have J:ag (aA c) n=aa:=l;have X:ah (aA<|c::es) (2^30)=aa:=at2;have x:ah (0+aA (c::es)) (2^30)=aa:=by rw[bZ];exact X
 have o:ai (0+aA (c::es)) (aA<|c::es)=aa:=aY;have g:oh VQ.D T=ab:=C.ss;have k:gm VQ.D T=.ok (e,n):=C.sl;have Z:lZ VQ.D T T=.ok (e,n):=C.ap;have s5:dk b (ad 5)=b*1000+5:=rfl;have Y:VQ.km (dk b<|ad 5)=ab:=B;have Q:VQ.km (dk b<|ad 7)=ab:=a;refine pW V C.ok G ?_;rw[p,A];simp(maxSteps:=4000000) (disch:=first|decide|omega|exact Y|exact Q|exact Y_ ..|exact Y5 ..|exact Y' ..)only[AE,Option.getD,Nat.reduceAdd,hR,hE,hC,hB,hy,ht,hd,hg,gS,hh,hp,gT,hq,oI,mB,px,j',rm,jP,g,k,Z,r,QQ k,J,l,X,x,o,s5];exact at6
def Kq{f T e n:Nat}(C:rn f T e n)(i:y5 f=ae){b:Nat}{xs:aC}{h h':H}{r:VV}(A:mJ e n b xs h=.ok (r,h')):Vm.hK bO f=aa/\ ∀(E:Vm.cI) (X Z:aE) (m:Nat->Nat) (σ:St) (args:aD),E.D=bO->SR E X Z m h σ->fl E X Z m h σ xs args->
 ∃a σ' X' m',dw bO f args σ=.ok (.ret a,σ')/\ SR E X' Z m' h' σ'/\ Ex X Z m h σ X' Z m' h' σ'/\ RV E X' Z m' h' σ' r a:=by
 refine⟨C.cb,λE X Z m σ args L S P=>?_⟩;have nil:xs=[.nil]->∃a σ' X' m',dw bO f args σ=.ok (.ret a,σ')/\ SR E X' Z m' h' σ'/\ Ex X Z m h σ X' Z m' h' σ'/\ RV E X' Z m' h' σ' r a:=by rintro rfl;cases A;simp only[RL,RR,Vm.LC]at P;obtain⟨a,_,rfl,rfl,rfl⟩:=P;exact⟨_,σ,X,m,ad2 C,S,Ex.refl _ _ _ _ _ λs y=>(S.ct s y).2.1,by simp only[RR,Vm.LC]⟩
 by_cases U:xs=[.nil];exact nil U;unfold mJ at A;split at A;exact at6;rename_i x U;simp only[RL]at P;obtain⟨a,_,rfl,J,rfl⟩:=P;rw[bF]at A;have⟨p,G,A⟩:=A;have⟨u,N,g⟩:=Lw S (r:=p.1) (h':=p.2) G J;split at A;rename_i j;rw[j]at g;cases A;have k:iS σ (cX X Z m p.2 σ) a:=by
  have g:=g;simp only[RR]at g
  rcases g with⟨_,J⟩|⟨b,o,I,Y,f0,l,a0,b0,Q,g0,rfl,O,w,D,rfl,_⟩
  exact J;exact⟨aM,w,O,l,a0,b0,Q,D⟩
 have⟨v,σ',W,c0⟩:=Rl C k
 rcases c0 with⟨rfl,rfl⟩|⟨rfl,rfl⟩
 refine⟨_,σ',X,m,W,u,N,?_⟩;cases ai 7000 b;simp only[br,RR];exact awz;simp only[a8,RR];exact .inl ⟨ae,aM⟩;have⟨o1,o2,F⟩:=u.WQ<|.cells [] e aa n;refine⟨_,_,X,m,W,o1,N.trans o2,?_⟩;cases ai 7000 b;simp only[br,RR];exact .inl ⟨trivial,aM,nR _,F,_,_,_,_,kk⟩;simp only[a8,RR];exact .inr ⟨σ.n,_,_,_,_,aM,F,nR _,kk⟩;rename_i c t j;rw[j]at g;rw[dn]at A;have⟨d,A⟩:=A;simp only[bW,kz,nM]at d;have⟨⟨⟨c1,c2⟩,c3⟩,c4⟩:=d;have d0:=ad1 C c t c1 c2 E.iN b p.2 c3 c4 i;have⟨_,q⟩:=(EV FJ CB).2 _ _ _ _ _ _ _ d0;have⟨B,σ',X',m',O,w,D,M⟩:=q E X Z m σ [a] L aM u (by simp only[RL];exact⟨a,[],aM,RF.rv g,aM⟩)
 cases z:ai 7000 b with
 |true=>rw[z]at A;cases A;exact⟨B,σ',X',m',O,w,N.trans D,M⟩
 |false=>
  rw[z]at A;cases A;have e0:mO ((p.2.new (b*1000+5)<|.cells ab ab e n []).new (b*1000+5)<|.cells ab ab e n<|c::t) (.bh (b*1000+5) ((p.2.o<|b*1000+5).ver+2) 0<|aA<|c::t)=.ok (.fz<|c::t,fM ((p.2.new (b*1000+5)<|.cells ab ab e n []).new (b*1000+5)<|.cells ab ab e n<|c::t)<|b*1000+5):=by have V:ai (aA<|c::t) (aA<|c::t)=aa:=aY;rw[Ta,Tz,TA];simp only[kJ,jt,jb,aO,br,Sw,bZ,V,a8,e6,bP];rfl
  have⟨q1,q2,q3⟩:=Lw w e0 M;exact⟨B,σ',X',m',O,q1,(N.trans D).trans q2,RF.rv q3⟩
 cases A;cases A
def ad3{f:Nat}{q:Nat×Nat}(h:CZ f=ad q):(f=148/\ q=(31,9))\/ (f=265/\ q=(68,2))\/ (f=208/\ q=(3,1)):=by
 unfold CZ at h;have e:∀k,ag f k=aa->f=k:=λk h=>dB h;cases V:ag f 148<;>rw[V]at h<;>simp only[a8,br]at h
 grind
 cases h;exact .inl ⟨e _ V,aM⟩
def abz:yl VP:=by
 intro f g o;change(match CZ f with|some q=>ad (mJ q.1 q.2)|none=>y5 f)=ad g at o
 cases c:CZ f with
 |none=>rw[c]at o;exact CB f g o
 |some q=>
  rw[c]at o;cases o
  rcases ad3 c with⟨rfl,rfl⟩|⟨rfl,rfl⟩|⟨rfl,rfl⟩
  exact λb y h r Y e=>Kq adV aX e;exact λb y h r Y e=>Kq adX aX e;exact λb y h r Y e=>Kq adW aX e
def ad4{f n:Nat}(h:yG f=ad n):(f=76/\ n=4)\/ (f=77/\ n=2)\/ (f=145/\ n=2):=by
 unfold yG at h;have e:∀k,ag f k=aa->f=k:=λk h=>dB h
 grind
def Xe{P:VT}{f:Nat}{g:aC->R VV}{xs:aC}{r:VV}(p:P.la f=ad g)(o:g xs=.ok r):aS P f xs r:=by
 intro a y;refine Ca ?_
 show(match P.la f with
  |ad g=>aO (g xs) λr=>.ok (r,y)
  |ae=>_)=_
 exact at6
def ahG{α:Type}{n:Nat}{f:α->aC}(j:∀x,aA (f x)=n)(l:List α):fW n (l.map f)=aa:=by
 cases l with
 |nil=>rfl
 |cons a l=>exact(by rw[cL];show ag (aA<|f a) n=aa;rw[j a];exact gX n)
def Kr{f n:Nat}{α:Type}{g:α->aC}(c:yG f=ad n)(o:∀x,aA (g x)=n)(l:List α)(P:aA l<2^29):aS VP f [.fz<|l.map g] (.fz<|l.map g):=by
 refine Xe (g:=yF n) (by show(match yG f with|ad n=>ad (yF n)|ae=>_)=_;rw[c]) ?_;have h:ah (aA<|l.map g) (2^29)=aa:=by rw[bj];exact at2
 show(bif ah (aA<|l.map g) (2^29)&&fW n (l.map g)then _ else _)=_;rw[h,ahG o];rfl
def adN{f:Nat}{n:Nat}{gs:aK}{xs:aC}{r:VV}(p:VP.la f=ae)(B:VP.fL f=ad (n,gs))(q:zp n xs=aa)(o:∀a y,nk (vW VP).z xs a gs y=.ok (r,y)):aS VP f xs r:=by
 intro a y;refine Ca ?_
 show(match VP.la f with
  |ad g=>aO (g xs) λr=>.ok (r,y)
  |ae=>match VP.fL f with
   |ad g=>bif zp g.1 xs then nk (vW VP).z xs a g.2 y else .error ""
   |ae=>_)=_
 exact at6
def AA{xs:aC}{g:Nat}{gs:aK}{n m:Int}(h:aS VP g xs<|.aN<|.int .i64 n)(Y:n=0->∀a y,nk (vW VP).z xs a gs y=.ok (.aN<|.int .i64 m,y))(a:cV)(y:aB):nk (vW VP).z xs a (g::gs) y=.ok (.aN<|.int .i64<|bif n==0 then m else n,y):=by
 show aO ((vW VP).z g xs a y) (λp=>match DE p.1 with
  |ad n=>bif n==0 then nk (vW VP).z xs a gs p.2 else .ok p
  |ae=>.error "")=_
 rw[h a y];show(bif n==0 then nk (vW VP).z xs a gs y else .ok (.aN<|.int .i64 n,y))=_
 grind
end Go.Proofs.YtgdldhogfmambaaGreatDoor
namespace Go.Proofs.YtgdldhogfmambaaGreatDoor
open Go Go.Dt Go.Dt.Vm
set_option maxRecDepth 100000
set_option maxHeartbeats 4000000
def CN(b:UInt8):Bool:=ax ((b.toNat:Int)<97)||ax (122<(b.toNat:Int))
def kwA:List (List UInt8):=[[119,105,116,104,105,110],[104,97,118,105,110,103],[97,110,100],[101,109,105,116],[110,111,116]]
def uj:List (List UInt8):=kwA++yw
def qW(s:List UInt8):Bool:=!(s==[])&&(ax (aA s<=8)&&(!(s.any CN)&&!(uj.any λk=>s==k)))
def Wa{s:aF}(h:¬aA s<=8):qW s=ab:=by simp[qW,h]
def V9{s:aF}(h:s.any CN=aa):qW s=ab:=by simp[qW,h]
def V8{s:aF}(h1:(s==[])=ab)(a:aA s<=8)(d:s.any CN=ab):qW s=!(uj.any λk=>s==k):=by simp[qW,h1,a,d]
def k'{α:Type}(p:α->Bool):List α->Int
 |[]=>-1
 |a::l=>bif p a then 0 else bif l.any p then k' p l+1 else-1
def ahX{α:Type}{p:α->Bool}:∀{l:List α},l.any p=ab->k' p l=-1
 |[],_=>rfl
 |a::l,h=>by simp only[zX,gz]at h;simp[k',h.1,h.2]
def Ul{α:Type}{p:α->Bool}:∀{l:List α} {i:Nat} (G:i<aA l),(l.take i).any p=ab->p l[i]=aa->k' p l=i
 |a::l,0,_,_,h=>by simp only[m_]at h;simp[k',h]
 |a::l,i+1,G,M,h=>by simp only[List.getElem_cons_succ]at h;simp only[j7,zX,gz]at M;have P:=ka G;have b:l.any p=aa:=mD.2 ⟨_,bD P,h⟩;simp[k',M.1,b,Ul P M.2 h]
def vD{α:Type}(p:α->Bool):∀l:List α,ax (0<=k' p l)=l.any p
 |[]=>rfl
 |a::l=>by cases h:p a;cases j:l.any p;simp[k',h,j];have:=vD p l;rw[j]at this;have:=tm this;simp[k',h,j];omega;simp[k',h]
def vc{α:Type}{p:α->Bool}{l:List α}{i:Nat}(G:i<aA l)(M:(l.take i).any p=ab):(p l[i]=aa->k' p l=i)/\ (p l[i]=ab->(l.take<|i+1).any p=ab):=⟨Ul G M,λh=>by rw[List.take_add_one,cx G,zW,M];simp[h]⟩
def wJ{α:Type}{p:α->Bool}{l:List α}(M:(l.take<|aA l).any p=ab):k' p l=-1:=ahX<|by rwa[bP]at M
def asV(l:List nf)(p:nf->Bool)(P:bk l)(M:∀a∈l,aS VP 400 [.agg<|ed a]<|bV<|p a):aS VP 436 [.fz<|l.map ed,.func 400 [] []] (iV<|k' p l):=by refine gO Tryz.f436.eq_1 λw y=>?_;refine S0 ?_;refine lF 0 (aA l) (λi T h=>T 0=.fz (l.map ed)/\ T 1=.func 400 [] []/\ T 7=iV (aA l)/\ T 8=iV i/\ h=H.empty y/\ (l.take i).any p=ab) ?_ ?_ ?_;refine S0 ?_;exact⟨aM,aM⟩;rintro i T h G ⟨t,g,m,n,rfl,q⟩;refine Z3 (a6 G) @bd ((M l[i]<|bD G).aP) ?_;have⟨x,o⟩:=vc (p:=p) G q;exact⟨λh=>by rw[x h],o⟩;rintro T h ⟨t,g,m,n,rfl,q⟩;exact Z1 (wJ q) tr
def asG(l:List nf)(p:nf->Bool)(P:bk l)(M:∀a∈l,aS VP 400 [.agg<|ed a]<|bV<|p a):aS VP 399 [.fz<|l.map ed,.func 400 [] []] (bV<|l.any p):=by refine gO Tryz.f399.eq_1 λw y=>?_;exact S2 ((asV l p P M).aP) @vD tr
def asJ(d:Int)(l:List ba)(p:ba->Bool)(P:bk l)(M:∀a∈l,aS VP 343 [.agg<|bc a,.bA [iV d] 0]<|bV<|p a):aS VP 401 [.fz<|l.map bc,.func 343 [] [.bA [iV d] 0]] (iV<|k' p l):=by refine gO Tryz.f401.eq_1 λw y=>?_;refine S0 ?_;refine lF 0 (aA l) (λi T h=>T 0=.fz (l.map bc)/\ T 1=.func 343 [] [.bA [iV d] 0]/\ T 7=iV (aA l)/\ T 8=iV i/\ h=H.empty y/\ (l.take i).any p=ab) ?_ ?_ ?_;refine S0 ?_;exact⟨aM,aM⟩;rintro i T h G ⟨t,g,m,n,rfl,q⟩;refine Z3 (a6 G) @bd ((M l[i]<|bD G).aP) ?_;have⟨x,o⟩:=vc (p:=p) G q;exact⟨λh=>by rw[x h],o⟩;rintro T h ⟨t,g,m,n,rfl,q⟩;exact Z1 (wJ q) tr
def asp(d:Int)(l:List ba)(p:ba->Bool)(P:bk l)(M:∀a∈l,aS VP 343 [.agg<|bc a,.bA [iV d] 0]<|bV<|p a):aS VP 342 [.fz<|l.map bc,.func 343 [] [.bA [iV d] 0]] (bV<|l.any p):=by refine gO Tryz.f342.eq_1 λw y=>?_;exact S2 ((asJ d l p P M).aP) @vD tr
def asP(l:List nS)(p:nS->Bool)(P:bk l)(M:∀a∈l,aS VP 384 [.agg<|gw a]<|bV<|p a):aS VP 427 [.fz<|l.map gw,.func 384 [] []] (iV<|k' p l):=by refine gO Tryz.f427.eq_1 λw y=>?_;refine S0 ?_;refine lF 0 (aA l) (λi T h=>T 0=.fz (l.map gw)/\ T 1=.func 384 [] []/\ T 7=iV (aA l)/\ T 8=iV i/\ h=H.empty y/\ (l.take i).any p=ab) ?_ ?_ ?_;refine S0 ?_;exact⟨aM,aM⟩;rintro i T h G ⟨t,g,m,n,rfl,q⟩;refine Z3 (a6 G) @bd ((M l[i]<|bD G).aP) ?_;have⟨x,o⟩:=vc (p:=p) G q;exact⟨λh=>by rw[x h],o⟩;rintro T h ⟨t,g,m,n,rfl,q⟩;exact Z1 (wJ q) tr
def asu(l:List nS)(p:nS->Bool)(P:bk l)(M:∀a∈l,aS VP 384 [.agg<|gw a]<|bV<|p a):aS VP 383 [.fz<|l.map gw,.func 384 [] []] (bV<|l.any p):=by refine gO Tryz.f383.eq_1 λw y=>?_;exact S2 ((asP l p P M).aP) @vD tr
def asQ(l:List ln)(p:ln->Bool)(P:bk l)(M:∀a∈l,aS VP 388 [.agg<|e7 a]<|bV<|p a):aS VP 428 [.fz<|l.map e7,.func 388 [] []] (iV<|k' p l):=by refine gO Tryz.f428.eq_1 λw y=>?_;refine S0 ?_;refine lF 0 (aA l) (λi T h=>T 0=.fz (l.map e7)/\ T 1=.func 388 [] []/\ T 7=iV (aA l)/\ T 8=iV i/\ h=H.empty y/\ (l.take i).any p=ab) ?_ ?_ ?_;refine S0 ?_;exact⟨aM,aM⟩;rintro i T h G ⟨t,g,m,n,rfl,q⟩;refine Z3 (a6 G) @bd ((M l[i]<|bD G).aP) ?_;have⟨x,o⟩:=vc (p:=p) G q;exact⟨λh=>by rw[x h],o⟩;rintro T h ⟨t,g,m,n,rfl,q⟩;exact Z1 (wJ q) tr
def asw(l:List ln)(p:ln->Bool)(P:bk l)(M:∀a∈l,aS VP 388 [.agg<|e7 a]<|bV<|p a):aS VP 387 [.fz<|l.map e7,.func 388 [] []] (bV<|l.any p):=by refine gO Tryz.f387.eq_1 λw y=>?_;exact S2 ((asQ l p P M).aP) @vD tr
def aa7(n:Int):aS VP 386 [iV n] (bV<|ax (1<=n)&&ax (n<=6)):=by refine gO Tryz.f386.eq_1 λw y=>?_;exact aug
def qY(c:nf):Bool:=ax (1<=c.op)&&ax (c.op<=6)
def asH(c:nf):aS VP 400 [.agg<|ed c] (bV<|!qY c):=by refine gO Tryz.f400.eq_1 λw y=>?_;exact S2 ((aa7 c.op).aP) qY.eq_1 tr
def aa0(c:nf):aS VP 345 [.agg<|ed c] (bV<|qY c):=by refine gO Tryz.f345.eq_1 λw y=>?_;exact S1 qY.eq_1 tr
def wv(a:dZ):Bool:=(a.kind==0)&&!a.fF&&(a.fe==0)&&((aA a.cy:Int)==0)&&(a.name==[])
def aaY(a:dZ):aS VP 341 [.agg<|bQ a] (bV<|wv a):=by refine gO Tryz.f341.eq_1 λw y=>?_;exact S1 wv.eq_1 tr
def asb(a:dZ):aS VP 284 [.agg<|bQ a] (bV<|wv a):=by refine gO Tryz.f284.eq_1 λw y=>?_;exact S1 wv.eq_1 tr
def asX(s:aF)(l:List aF)(P:bk l):aS VP 449 [.fz<|l.map λs=>[sV s],sV s] (iV<|k' (λk=>s==k) l):=by refine gO Tryz.f449.eq_1 λw y=>?_;refine S0 ?_;refine lF 0 (aA l) (λi T h=>T 0=.fz (l.map λs=>[sV s])/\ T 1=sV s/\ T 7=iV (aA l)/\ T 8=iV i/\ h=H.empty y/\ (l.take i).any (λk=>s==k)=ab) ?_ ?_ ?_;refine S0 ?_;exact at1;rintro i T h G ⟨t,g,m,n,rfl,q⟩;refine Z2 (a6 G) @bd ?_;have⟨x,o⟩:=vc (p:=λk=>s==k) G q;exact auk;rintro T h ⟨t,g,m,n,rfl,q⟩;exact Z1 (wJ q) tr
def asU(s:aF)(l:List aF)(P:bk l):aS VP 435 [.fz<|l.map λs=>[sV s],sV s] (bV<|l.any λk=>s==k):=by refine gO Tryz.f435.eq_1 λw y=>?_;exact S2 ((asX s l P).aP) @vD tr
def Al{α:Type}{p:α->Bool}{l:List α}(M:(l.take<|aA l).any p=ab):l.any p=ab:=by rwa[bP]at M
def gI{α:Type}{p:α->Bool}{l:List α}{i:Nat}(G:i<aA l)(h:p l[i]=aa):l.any p=aa:=mD.2 ⟨_,bD G,h⟩
def gJ{α:Type}{p:α->Bool}{l:List α}{i:Nat}(G:i<aA l)(M:(l.take i).any p=ab)(h:p l[i]=ab):(l.take<|i+1).any p=ab:=(vc G M).2 h
def aa8(s:aF):aS VP 398 [sV s] (bV<|qW s):=by
 have f:=asU s yw (by unfold bk;decide);have o:Dq VP.D 536=.ok (.fz<|yw.map λs=>[sV s]):=aV;have m:(uj.any λk=>s==k)=((s==[119,105,116,104,105,110])||((s==[104,97,118,105,110,103])||((s==[97,110,100])||((s==[101,109,105,116])||((s==[110,111,116])||yw.any λk=>s==k))))):=rfl;generalize J:yw.any (λk=>s==k)=K at f m;by_cases n:(s==[])=aa;have:s=[]:=by simpa using n
 subst this;refine gO Tryz.f398.eq_1 λw y=>?_;exact S2 @qT qW.eq_1 tr;have n:(s==[])=ab:=by simpa using n
 by_cases l:aA s<=8;have C:ax (8<(aA s:Int))=ab:=by simp only[cE];omega
 refine gO Tryz.f398.eq_1 λw y=>?_;refine Z1 @qT ?_;refine lF 0 (aA s) (λi T h=>T 0=sV s/\ T 13=.fz (s.map λb=>[.aN<|.int .u8 b.toNat])/\ T 14=iV (aA s)/\ T 15=iV i/\ h=H.empty y/\ (s.take i).any CN=ab) ?_ ?_ ?_;refine S0 ?_;exact at1;rintro i T h G ⟨t,g,A,v,rfl,q⟩;refine Z2 (a6 G) @bd ?_;exact⟨λh=>by rw[V9<|gI G h],λh=>gJ G q h⟩;rintro T h ⟨t,g,A,v,rfl,q⟩;have q:=Al q;rw[V8 n l q,m];refine Z1 f.aP ?_;cases(s==[119,105,116,104,105,110])<;>cases(s==[104,97,118,105,110,103])<;>cases(s==[97,110,100])<;>cases(s==[101,109,105,116])<;>cases(s==[110,111,116])<;>rfl;have C:ax (8<(aA s:Int))=aa:=by simp only[c_];omega
 rw[Wa l];refine gO Tryz.f398.eq_1 λw y=>?_;exact Z1 @qT tr
def Gd(a:dZ):Bool:=a.cy.any λc=>!qY c
def tI(a:dZ):Bool:=ax (0<=a.kind)&&ax (a.kind<=25)&&(a.fF||a.fe==0)&&(a.name==[]||qW a.name)&&!Gd a
def aaX(a:dZ)(h:bk a.cy):aS VP 340 [.agg<|bQ a] (bV<|tI a):=by have Q:=asG a.cy (λc=>!qY c) h λc _=>asH c;have e:(a.cy.any λc=>!qY c)=Gd a:=rfl;rw[e]at Q;unfold tI;refine gO Tryz.f340.eq_1 λw y=>?_;exact S2 Q.aP ((aa8 a.name).aP) tr
def adm(h:H)(T:Vg):h_ VP.D h (bS T) (Op.buildSlice 387 11
        #[(0,Operand.const<|Value.string {data:=#[119,105,116,104,105,110]}),
          (1,Operand.const<|Value.string {data:=#[104,97,118,105,110,103]}),
          (2,Operand.const<|Value.string {data:=#[97,110,100]}),
          (3,Operand.const<|Value.string {data:=#[101,109,105,116]}),
          (4,Operand.const<|Value.string {data:=#[110,111,116]}),
          (5,Operand.const<|Value.string {data:=#[99,111,117,110,116]}),
          (6,Operand.const<|Value.string {data:=#[115,117,109]}),
          (7,Operand.const<|Value.string {data:=#[109,105,110]}),
          (8,Operand.const<|Value.string {data:=#[109,97,120]}),
          (9,Operand.const<|Value.string {data:=#[102,105,114,115,116]}),
          (10,Operand.const<|Value.string {data:=#[108,97,115,116]})]) 1=.ok (.bh 1 ((h.o 1).ver+1) 0 11,h.new 1<|.cells ab ab 9 1<|uj.map λs=>[sV s]):=aV
def asK:aS VP 402 [] (.fz<|uj.map λs=>[sV s]):=by refine gO Tryz.f402.eq_1 λw y=>?_;refine S1 @adm ?_;rfl
def aiC(s:aF)(i:Nat)(G:i<aA s):vE VP.D 9 (.aN<|.string ⟨⟨s⟩⟩) (.aN<|.int .i64 i)=.ok (bY .u8 s[i].toNat):=by unfold vE;rw[ES];simp[ca,aO,pI,G]
def aa3(s:aF):aS VP 351 [sV s] (bV<|qW s):=by
 by_cases n:aA s=0;have z:ax ((aA s:Int)<1)=aa:=by simp only[c_];omega
 have:s=[]:=by simpa using n
 rw[show qW s=ab from avO];refine gO Tryz.f351.eq_1 λw y=>?_;exact S2 @qT z tr;have z:ax ((aA s:Int)<1)=ab:=by simp only[cE];omega
 have e:(s==[])=ab:=by cases s with|nil=>simp at n|cons c s=>rfl
 by_cases l:aA s<=8;have C:ax (8<(aA s:Int))=ab:=by simp only[cE];omega
 refine gO Tryz.f351.eq_1 λw y=>?_;refine S3 @qT C z ?_;refine lF 0 (aA s) (λi T h=>T 0=sV s/\ T 3=iV i/\ h=H.empty y/\ (s.take i).any CN=ab) ?_ ?_ ?_;refine S0 ?_;exact at1;rintro i T h G ⟨t,A,rfl,q⟩;have P:i<9223372036854775807:=aW;refine S6 t A (a6 G) @bd @qT (aiC s i G) ?_;exact⟨λh=>by rw[V9<|gI G h],λh=>gJ G q h⟩;rintro T h ⟨t,A,rfl,q⟩;have q:=Al q;have m:qW s=!(uj.any λk=>k==s):=by rw[V8 e l q];congr 2;funext k;exact yi
 refine S4 t A @qT asK.bE ?_;refine lF 2 uj.length (λi T h=>T 0=sV s/\ T 4=.fz (uj.map λs=>[sV s])/\ T 5=iV i/\ h.y=y/\ (uj.take i).any (λk=>k==s)=ab) ?_ ?_ ?_;refine S1 t ?_;exact at1;rintro i T h G ⟨t,Q,Y,E,q⟩;have P:i<9223372036854775807:=by have:uj.length=11:=rfl;omega
 refine S6 t Q Y (a6 G) @bd E ?_;exact⟨λh=>by rw[m,gI (p:=λk=>k==s) G h];rfl,λh=>gJ G q h⟩;rintro T h ⟨t,Q,Y,E,q⟩;have q:=Al q;rw[q]at m;exact S6 t Q Y @bd E m tr;have C:ax (8<(aA s:Int))=aa:=by simp only[c_];omega
 rw[Wa l];refine gO Tryz.f351.eq_1 λw y=>?_;exact S3 @qT z C tr
def bR:Nat->ba->Bool
 |0,_=>ab
 |d+1,.mk k M F a W=>
  bif k==1 then tI a&&ax (0<=M)&&ax (M<=99)&&ax (0<=F)&&ax (F<=99)&&((aA W:Int)==0)
  else bif k==2 then tI a&&(M==0)&&(F==0)&&((aA W:Int)==0)
  else bif k==3||k==4 then ax (2<=(aA W:Int))&&(M==0)&&(F==0)&&wv a&&!(W.any λk=>!bR d k)
  else ab
def wm1(d:Nat)(h:d<=300):av .i64 (((d+1:Nat):Int)-1)=(d:Int):=au4
def aaL:∀(d:Nat) (n:ba),dt n->d<=200->aS VP 269 [.agg<|bc n,iV d] (bV<|bR d n)
 |0,n,_,_=>by have t:((((0:Nat):Int))==0)=aa:=rfl;refine gO Tryz.f269.eq_1 λw y=>?_;exact Z2 bR.eq_1 bR.eq_2 tr
 |d+1,.mk k M F a W,e,C=>by
  rw[dt]at e;have⟨c,f,r⟩:=e;have I:∀n∈W,aS VP 343 [.agg<|bc n,.bA [iV ((d+1:Nat):Int)] 0] (bV<|!bR d n):=λn X=>by have:=aaL d n (r n X) aW;refine gO Tryz.f343.eq_1 λw y=>?_;exact S2 (wm1 d aW) this.aP tr
  have P:=asp ((d+1:Nat):Int) W (λn=>!bR d n) f I;generalize u:W.any (λn=>!bR d n)=q at P;have t:((((d+1:Nat):Int))==0)=ab:=aul
  have s:bR (d+1) (.mk k M F a W)=(bif k==1 then tI a&&ax (0<=M)&&ax (M<=99)&&ax (0<=F)&&ax (F<=99)&&((aA W:Int)==0)
   else bif k==2 then tI a&&(M==0)&&(F==0)&&((aA W:Int)==0)
   else bif k==3||k==4 then ax (2<=(aA W:Int))&&(M==0)&&(F==0)&&wv a&&!q
   else ab):=by rw[bR,<-u]
  rw[s];refine gO Tryz.f269.eq_1 λw y=>?_;cases h:(k==1);cases p:(k==2);cases j:(k==3);cases A:(k==4);exact avq;exact Z3 @bg P.aP ((aaY a).aP) tr;exact Z3 @bg P.aP ((aaY a).aP) tr;exact Z2 @bg ((aaX a c).aP) tr;exact Z2 @bg ((aaX a c).aP) tr
def EX(n:ba)(e:dt n):aS VP 209 [.agg<|bc n] (iV<|bif bR 200 n then 0 else 3):=by have h:=aaL 200 n e aW;have h:aS VP 269 [.agg<|bc n,iV 200] (bV<|bR 200 n):=h;refine gO Tryz.f209.eq_1 λw y=>?_;refine S1 h.aP ?_;cases bR 200 n<;>rfl
def pG(a:ln):Bool:=ax (1<=a.func)&&ax (a.func<=6)&&qW a.name
def aa6(a:ln):aS VP 385 [.agg<|e7 a] (bV<|pG a):=by refine gO Tryz.f385.eq_1 λw y=>?_;exact S2 ((aa8 a.name).aP) pG.eq_1 tr
def aaZ(a:ln):aS VP 344 [.agg<|e7 a] (bV<|pG a):=by refine gO Tryz.f344.eq_1 λw y=>?_;exact S2 ((aa3 a.name).aP) pG.eq_1 tr
def asx(a:ln):aS VP 388 [.agg<|e7 a] (bV<|!pG a):=by refine gO Tryz.f388.eq_1 λw y=>?_;exact S1 ((aa6 a).aP) tr
def t_(v:nS):Bool:=!pG v.agg||!qY v.cond
def asv(v:nS):aS VP 384 [.agg<|gw v] (bV<|t_ v):=by refine gO Tryz.f384.eq_1 λw y=>?_;exact S4 ((aa6 v.agg).aP) ((aa7 v.cond.op).aP) t_.eq_1 qY.eq_1 tr
def pM(q:cR):Int:=bif bR 200 q.bt then(bif ax (99999<q.iI)||q.k_.any t_||q.kW.any (λa=>!pG a)then 3 else 0)else 3
def qC(q:cR):∃k M F a W u v Z,q=⟨.mk k M F a W,u,v,Z⟩:=by have⟨⟨k,M,F,a,W⟩,u,v,Z⟩:=q;exact at6
def ase(q:cR)(e:q5 q):aS VP 327 [.agg<|bG q] (iV<|pM q):=by obtain⟨k,M,F,a,W,u,Y,Z,rfl⟩:=qC q;have⟨V,p,d⟩:=e;simp only at V p d;have h:=EX _ V;have o:=asu Y t_ p λv _=>asv v;have D:=asw Z (λa=>!pG a) d λv _=>asx v;simp only[pM];rw[bg]at h;generalize bR 200 (.mk k M F a W)=s at h|-;generalize Y.any t_=r at o|-;generalize Z.any (λa=>!pG a)=t at D|-;cases s;have h:aS _ _ _ (iV 3):=h;refine gO Tryz.f327.eq_1 λw y=>?_;exact S5 bG.eq_1 @bg @Me @Hj h.aP tr;have h:aS _ _ _ (iV 0):=h;refine gO Tryz.f327.eq_1 λw y=>?_;exact S7 bG.eq_1 @bg @Me @Hj h.aP o.aP D.aP tr
def aaP(a:dZ)(h:bk a.cy):aS VP 283 [.agg<|bQ a] (bV<|tI a):=by refine gO Tryz.f283.eq_1 λw y=>?_;refine S0 ?_;refine lF 0 (aA a.cy) (λi T h=>T 1=.aR 1 1 0 0/\ T 3=iV i/\ h=(H.empty y).new 1 (.cells aa ab 28 5 [bQ a])/\ (a.cy.take i).any (λc=>!qY c)=ab) ?_ ?_ ?_;refine S0 ?_;exact at1;rintro i T h G ⟨g,A,rfl,q⟩;refine Z3 (a6 G) @bd ((aa0 a.cy[i]).aP) ?_;exact⟨λh=>by rw[show tI a=ab by have:Gd a=aa:=gI (p:=λc=>!qY c) G h;simp[tI,this]],λh=>gJ (p:=λc=>!qY c) G q h⟩;rintro T h ⟨g,A,rfl,q⟩;have q:Gd a=ab:=Al q;exact Z2 ((aa3 a.name).aP) tI.eq_1 tr
def Oo:∀(d:Nat) (n:ba),dt n->d<=200->aS VP 218 [.agg<|bc n,iV<|201-d] (bV<|bR d n)
 |0,n,_,_=>by have t:ax (200<(201:Int)-((0:Nat):Int))=aa:=rfl;refine gO Tryz.f218.eq_1 λw y=>?_;exact Z2 bR.eq_1 bR.eq_2 tr
 |d+1,.mk k M f a W,e,P=>by
  rw[dt]at e;have⟨c,B,r⟩:=e;have I:∀n∈W,aS VP 218 [.agg<|bc n,iV<|201-d] (bV<|bR d n):=λn X=>Oo d n (r n X) aW;have t:ax (200<(201:Int)-((d+1:Nat):Int))=ab:=by simp only[cE];omega
  have g:av .i64 ((201:Int)-((d+1:Nat):Int)+1)=201-d:=au4;have o:(ax (2<=(aA W:Int))&&(M==0)&&(f==0)&&wv a)=!(ax ((aA W:Int)<2)||(M !=0)||(f !=0)||!wv a):=by rw[show ax (2<=(aA W:Int))=!ax ((aA W:Int)<2) by rw[Cf];simp];simp only[bne,Fl,Fk]
  unfold bR;rw[o];refine gO Tryz.f218.eq_1 λw y=>?_;cases V:(k==1)
  ·cases j:(k==2)
   ·cases U:(k==3)<;>cases E:(k==4);exact avq
    all_goals(
     refine Z2 @bg ((asb a).aP) ?_;cases Q:(ax ((aA W:Int)<2)||(M !=0)||(f !=0)||!wv a);simp only[br,j',oI];refine vS (F:=λx=>dC VP _<|dL (cJ 0<|dL (cJ 1 x) _) _) (aA W) (λi T h=>T 1=iV ((201:Int)-((d+1:Nat):Int))/\ T 2=.aR 2 1 0 0/\ T 5=iV i/\ h=(H.empty y).new 2 (.cells aa ab 31 9 [bc<|.mk k M f a W])/\ (W.take i).any (λk=>!bR d k)=ab) ?_ ?_ ?_;refine S1 @bg ?_;exact at1;rintro i T h G ⟨A,C,Y,rfl,q⟩;refine Z4 @bg (a6 G) @bd ((I W[i]<|bD G).aP) ?_;exact⟨λh=>by rw[gI (p:=λk=>!bR d k) G h];rfl,λh=>gJ G q h⟩;rintro T h ⟨A,C,Y,rfl,q⟩;have q:=Al q;exact avq
     rfl)
   exact Z2 @bg ((aaP a c).aP) tr
  exact Z2 @bg ((aaP a c).aP) tr
def IS(n:ba)(e:dt n):aS VP 155 [.agg<|bc n] (iV<|bif bR 200 n then 0 else 3):=by have h:aS VP 218 [.agg<|bc n,iV 1] (bV<|bR 200 n):=Oo 200 n e aW;refine gO Tryz.f155.eq_1 λw y=>?_;refine S1 h.aP ?_;cases bR 200 n<;>rfl
def IU(n:ba)(d:Int):aS VP 210 [.agg<|bc n,iV d] (.func 270 [] [.bA [iV d] 0,.bA (bc n) 0]):=by refine gO Tryz.f210.eq_1 λw y=>?_;exact aug
mutual
def ft(d:Int):ba->List (Int×ba)
 |.mk k M F a W=>(d,.mk k M F a W)::lP (av .i64<|d+1) W
def lP(d:Int):List ba->List (Int×ba)
 |[]=>[]
 |n::l=>ft d n++lP d l
end
abbrev mW(p:Int×ba):List VV:=[iV p.1,.agg<|bc p.2]
def aqW(d:Int){l:List ba}{i:Nat}(G:i<aA l):lP d (l.drop i)=ft d l[i]++lP d (l.drop<|i+1):=by rw[fD G,lP]
def GX:∀(n:ba) (d:Int),dt n->iK VP 270 [.yield,.bA [iV d] 0,.bA (bc n) 0] ((ft d n).map mW)
 |.mk k M f a W,d,e=>by rw[dt]at e;have⟨S,B,r⟩:=e;have I:∀i (g:i<aA W) d,iK VP 270 [.yield,.bA [iV d] 0,.bA (bc W[i]) 0] ((ft d W[i]).map mW):=λi g d=>GX W[i] d<|r _<|bD g;refine xk agt apU λw y b N Q=>?_;rw[ft,cL]at Q;simp only[dv]at Q;rw[bF]at Q;have⟨L,V,Q⟩:=Q;have V:w (y++[[iV d,.agg<|bc<|.mk k M f a W]])=.ok L:=V;rw[bg]at V;cases L;cases Q;exact S4 Tryz.f270.eq_1 @bg V mW.eq_1 tr;simp only[a8]at Q;refine S3 Tryz.f270.eq_1 @bg V ?_;refine vS (F:=λx=>dC VP _<|cJ 0 x) (aA W) (λi T h=>T 1=.bA [iV d] 0/\ T 3=.aR 3 1 0 0/\ T 14=.fz (W.map bc)/\ T 15=iV (aA W)/\ T 16=iV i/\ h.o 3=⟨1,0,.cells aa ab 385 1 [[.yield]]⟩/\ dv w h.y ((lP (av .i64<|d+1)<|W.drop i).map mW)=.ok (b,N)) ?_ ?_ ?_;exact aw7;rintro i T h g ⟨O,A,m,c,P,s,Q⟩;rw[aqW _ g,dg]at Q;refine fm O A m c P s (a6 g) @bd ((IU W[i]<|av .i64<|d+1).bE) @cm ?_;generalize Z:ft (av .i64<|d+1) W[i]=l at Q;generalize(lP (av .i64<|d+1)<|W.drop<|i+1).map mW=R at Q|-;refine ak8 (G:=λx=>dL (cJ 1<|cJ 2 x) _) (l.map mW) (Z▸I i g _) aM (λj h=>h.o 3=⟨1,0,.cells aa ab 385 1 [[.yield]]⟩/\ dv w h.y ((l.drop j).map mW++R)=.ok (b,N)) ?_ ?_ ?_;refine S1 @cm ?_;exact⟨s,Q⟩;rintro j h u ⟨s,Q⟩;rw[bj]at u;rw[fD u,cL,ck,fK]at*;simp only[dv]at Q;rw[bF]at Q;have⟨L,V,Q⟩:=Q;generalize l[j]=p at*;cases L;cases Q;exact S5 O A s V mW.eq_1 tr;simp only[a8]at Q;refine S5 O A s V mW.eq_1 ?_;exact Q;rintro h ⟨s,Q⟩;rw[bj,fS]at Q;refine S7 O A m c P s @bd ?_;exact Q;rintro T h ⟨O,A,m,c,P,s,Q⟩;rw[fS]at Q;simp only[lP,i_,dv]at Q;cases Q;exact S6 O A m c P s tr
 termination_by n=>n
 decreasing_by
  have:=j6<|bD g;simp only[ba.mk.sizeOf_spec];omega
def ny:ba->Bool
 |.mk k _ _ _ _=>(k==1)||(k==2)
def fE:ba->dZ
 |.mk _ _ _ a _=>a
def bU:ba->Int
 |.mk k _ _ _ _=>k
def arh(n:ba)(e:dt n)(F:Int×ba->Bool)(hn:aA (ft 1 n)<1048576)(M:∀p∈ft 1 n,aS VP 144 [iV p.1,.agg<|bc p.2]<|.bn [.agg<|bQ<|fE p.2,bV<|F p]):aS VP 143 [.agg<|bc n,.func 144 [] []] (.bn [.fz<|bif bR 200 n then((ft 1 n).filter F).map (λp=>bQ<|fE p.2)else[],iV<|bif bR 200 n then 0 else 3]):=by have x:=EX n e;have P:=GX n 1 e;generalize B:bR 200 n=s at x;cases s;have x:aS VP 209 [.agg<|bc n] (iV 3):=x;refine gO Tryz.f143.eq_1 λw y=>?_;exact S1 x.aP tr;have x:aS VP 209 [.agg<|bc n] (iV 0):=x;refine gO Tryz.f143.eq_1 λw y=>?_;refine S3 x.aP ((IU n 1).bE) @cm ?_;generalize z:ft 1 n=l at*;refine rF 0 (l.map mW) P aM (λi h=>h.o 3=⟨1,0,.cells aa ab 245 1 [[.func 144 [] []]]⟩/\ h.y=y/\ ∃v U,h.o 7=⟨1,U,.cells aa ab 39 1 [[b9 (((l.take i).filter F).map<|λp=>bQ<|fE p.2) 32 v]]⟩/\ b6 (h.o 32) (((l.take i).filter F).map<|λp=>bQ<|fE p.2) v 28 5) ?_ ?_ ?_;exact auB;rintro i h G ⟨Z,E,v,U,o,b⟩;rw[bj]at G;rw[fK];have m:=M _<|bD G;have j:aA (((l.take i).filter F).map<|λp=>bQ<|fE p.2)<536870912:=avm;have X:((l.take<|i+1).filter F).map (λp=>bQ<|fE p.2)=((l.take i).filter F).map (λp=>bQ<|fE p.2)++(bif F l[i]then[bQ<|fE l[i].2]else[]):=avf;rw[X];generalize c:((l.take i).filter F).map (λp=>bQ<|fE p.2)=L at*;generalize l[i]=p at*;cases q:F p<;>rw[q]at m;refine Z3 mW.eq_1 m.bE @cm ?_;exact⟨v,U,by rw[ea],by rw[ea];exact b⟩;refine Z4 mW.eq_1 m.bE @cm (iM b j) ?_;exact⟨v+1,U+1,aM,by rw[b.1];exact auh⟩;exact auV
def asC(n:ba)(e:dt n)(F:Int×ba->Bool)(hn:aA (ft 1 n)<1048576)(M:∀p∈ft 1 n,aS VP 393 [iV p.1,.agg<|bc p.2]<|.bn [bV<|bU p.2==2,bV<|F p]):aS VP 392 [.agg<|bc n,.func 393 [] []] (.bn [.fz<|bif bR 200 n then((ft 1 n).filter F).map (λp=>[bV<|bU p.2==2])else[],iV<|bif bR 200 n then 0 else 3]):=by have x:=EX n e;have P:=GX n 1 e;generalize B:bR 200 n=s at x;cases s;have x:aS VP 209 [.agg<|bc n] (iV 3):=x;refine gO Tryz.f392.eq_1 λw y=>?_;exact S1 x.aP tr;have x:aS VP 209 [.agg<|bc n] (iV 0):=x;refine gO Tryz.f392.eq_1 λw y=>?_;refine S3 x.aP ((IU n 1).bE) @cm ?_;generalize z:ft 1 n=l at*;refine rF 0 (l.map mW) P aM (λi h=>h.o 3=⟨1,0,.cells aa ab 493 1 [[.func 393 [] []]]⟩/\ h.y=y/\ ∃v U,h.o 7=⟨1,U,.cells aa ab 406 1 [[b9 (((l.take i).filter F).map<|λp=>[bV<|bU p.2==2]) 32 v]]⟩/\ b6 (h.o 32) (((l.take i).filter F).map<|λp=>[bV<|bU p.2==2]) v 4 1) ?_ ?_ ?_;exact auB;rintro i h G ⟨Z,E,v,U,o,b⟩;rw[bj]at G;rw[fK];have m:=M _<|bD G;have j:aA (((l.take i).filter F).map<|λp=>[bV<|bU p.2==2])<536870912:=avm;have X:((l.take<|i+1).filter F).map (λp=>[bV<|bU p.2==2])=((l.take i).filter F).map (λp=>[bV<|bU p.2==2])++(bif F l[i]then[[bV<|bU l[i].2 ==2]]else[]):=avf;rw[X];generalize c:((l.take i).filter F).map (λp=>[bV<|bU p.2==2])=L at*;exact auf;exact auV
def asR(n:ba)(e:dt n)(F:Int×ba->Bool)(hn:aA (ft 1 n)<1048576)(M:∀p∈ft 1 n,aS VP 432 [iV p.1,.agg<|bc p.2]<|.bn [iV p.1,bV<|F p]):aS VP 431 [.agg<|bc n,.func 432 [] []] (.bn [.fz<|bif bR 200 n then((ft 1 n).filter F).map (λp=>[iV p.1])else[],iV<|bif bR 200 n then 0 else 3]):=by have x:=EX n e;have P:=GX n 1 e;generalize B:bR 200 n=s at x;cases s;have x:aS VP 209 [.agg<|bc n] (iV 3):=x;refine gO Tryz.f431.eq_1 λw y=>?_;exact S1 x.aP tr;have x:aS VP 209 [.agg<|bc n] (iV 0):=x;refine gO Tryz.f431.eq_1 λw y=>?_;refine S3 x.aP ((IU n 1).bE) @cm ?_;generalize z:ft 1 n=l at*;refine rF 0 (l.map mW) P aM (λi h=>h.o 3=⟨1,0,.cells aa ab 528 1 [[.func 432 [] []]]⟩/\ h.y=y/\ ∃v U,h.o 7=⟨1,U,.cells aa ab 66 1 [[b9 (((l.take i).filter F).map<|λp=>[iV p.1]) 32 v]]⟩/\ b6 (h.o 32) (((l.take i).filter F).map<|λp=>[iV p.1]) v 3 1) ?_ ?_ ?_;exact auB;rintro i h G ⟨Z,E,v,U,o,b⟩;rw[bj]at G;rw[fK];have m:=M _<|bD G;have j:aA (((l.take i).filter F).map<|λp=>[iV p.1])<536870912:=avm;have X:((l.take<|i+1).filter F).map (λp=>[iV p.1])=((l.take i).filter F).map (λp=>[iV p.1])++(bif F l[i]then[[iV l[i].1]]else[]):=avf;rw[X];generalize c:((l.take i).filter F).map (λp=>[iV p.1])=L at*;exact auf;exact auV
def aas(n:ba):aS VP 146 [.agg<|bc n] (bV<|ny n):=by have⟨k,M,F,a,W⟩:=n;refine gO Tryz.f146.eq_1 λw y=>?_;exact S2 @bg ny.eq_1 tr
def Rh(l:List nf)(h:bk l):aS VP 145 [.fz<|l.map ed] (.fz<|l.map ed):=Kr (f:=145) (n:=2) (g:=ed) aM (λ_=>rfl) l<|by unfold bk at h;omega
def ari(d:Int)(n:ba)(h:bk (fE n).cy):aS VP 144 [iV d,.agg<|bc n] (.bn [.agg<|bQ<|fE n,bV<|ny n]):=by have g:=aas n;have⟨k,M,F,a,W⟩:=n;rw[bg]at g;refine gO Tryz.f144.eq_1 λw y=>?_;exact S4 @bg fE.eq_1 g.aP ((Rh a.cy h).bE) tr
def asD(d:Int)(n:ba):aS VP 393 [iV d,.agg<|bc n] (.bn [bV<|bU n==2,bV<|ny n]):=by have g:=aas n;have⟨k,M,F,a,W⟩:=n;rw[bg]at g;refine gO Tryz.f393.eq_1 λw y=>?_;exact S3 @bg bU.eq_1 g.aP tr
def asS(d:Int)(n:ba):aS VP 432 [iV d,.agg<|bc n] (.bn [iV d,bV aa]):=by refine gO Tryz.f432.eq_1 λw y=>?_;exact aug
mutual
def lv:ba->Nat
 |.mk _ _ _ _ k=>l7 k+1
def l7:List ba->Nat
 |[]=>0
 |n::l=>lv n+l7 l
end
mutual
def EW(d:Int):∀n,aA (ft d n)=lv n
 |.mk k M F a W=>by simp only[ft,lv,cr,aad _ W]
def aad(d:Int):∀l,aA (lP d l)=l7 l
 |[]=>rfl
 |n::l=>by simp only[lP,l7,cN,EW d n,aad d l]
end
mutual
def gh:ba->List ba
 |.mk k M F a W=>bif (k==1)||(k==2)then[.mk k M F a W]else mf W
def mf:List ba->List ba
 |[]=>[]
 |n::l=>gh n++mf l
end
mutual
def uk:∀n,aA (gh n)<=lv n
 |.mk k M F a W=>by
  have:=Hf W;rw[gh,lv]
  grind
def Hf:∀l,aA (mf l)<=l7 l
 |[]=>bu _
 |n::l=>by have:=uk n;have:=Hf l;simp only[mf,l7,cN];omega
end
def ai1{l:List ba}{i:Nat}(G:i<aA l):mf (l.take<|i+1)=mf (l.take i)++gh l[i]:=by
 induction l generalizing i with
 |nil=>exact absurd G<|gH _
 |cons n l I=>
  cases i with
  |zero=>simp[mf]
  |succ i=>have:=I<|ka G;simp only[j7,mf,this,List.getElem_cons_succ,eF]
def Rn(l:List ba)(i:Nat):l7 (l.take i)<=l7 l:=by
 induction l generalizing i with
 |nil=>simp[l7]
 |cons n l I=>
  cases i with
  |zero=>simp[l7]
  |succ i=>have:=I i;simp only[j7,l7];omega
def AG{l:List ba}{n:ba}(h:n∈l):lv n<=l7 l:=by
 induction l with
 |nil=>cases h
 |cons m l I=>
  simp only[l7]
  rcases dz.1 h with rfl|h
  omega;have:=I h;omega
def Oj:∀n,dt n->lv n<1048576->aS VP 156 [.agg<|bc n] (.fz<|(gh n).map bc)
 |.mk k M F a W,e,m=>by
  rw[dt]at e;have⟨c,f,r⟩:=e;rw[lv]at m;have I:∀i (G:i<aA W),aS VP 156 [.agg<|bc W[i]] (.fz<|(gh W[i]).map bc):=λi G=>Oj W[i] (r _<|bD G) aw8;rw[gh];refine gO Tryz.f156.eq_1 λw y=>?_;cases q:(k==1)||(k==2);refine S2 @bg q ?_;refine lF 0 (aA W) (λi T h=>T 1=.aR 1 1 0 0/\ T 4=iV i/\ h.y=y/\ h.o 1=⟨1,0,.cells aa ab 31 9 [bc<|.mk k M F a W]⟩/\ ∃v,T 3=b9 ((mf<|W.take i).map bc) 29 v/\ b6 (h.o 29) ((mf<|W.take i).map bc) v 31 9) ?_ ?_ ?_;refine S1 @bg ?_;exact⟨aM,0,aM,aM,λh=>absurd aM h⟩;rintro i T h G ⟨g,Q,O,E,v,A,b⟩;have j:aA ((mf<|W.take i).map bc)<536870912:=by rw[bj];have:=Hf<|W.take i;have:=Rn W i;omega
  have U:aA ((gh W[i]).map bc)<536870912:=by rw[bj];have:=uk W[i];exact aw8
  have e:ah (aA<|gh W[i]) (2^30)=aa:=by rw[bj]at U;exact at2
  rw[ai1 G,dg];rw[bg]at E;refine bq @bg g A Q E (a6 G) @bd ((I i G).bE) @cm (Pw _ b j U) (oe th) e ?_;exact⟨O,_,aM,F7 b⟩;exact avr;refine S2 @bg q ?_;simp only[cL,i_,bg]
 termination_by n=>n
 decreasing_by
  have:=j6<|bD G;simp only[ba.mk.sizeOf_spec];omega
def atW(l:List ba):aA (mf l)<=l7 l:=Hf l
def xH(n:ba):Prop:=dt n/\ lv n<1048576
mutual
def Mf:∀(n:ba),dt n->∀x∈gh n,dt x
 |.mk k M F a W,h,x,s=>by have Y:=h;rw[dt]at Y;rw[gh]at s;cases q:(k==1)||(k==2);rw[q]at s;exact Vc W Y.2.2 x s;exact at6
def Vc:∀(l:List ba),(∀n∈l,dt n)->∀x∈mf l,dt x
 |[],_,x,s=>by simp[mf]at s
 |n::l,h,x,s=>by
  rw[mf,mF]at s
  rcases s with s|s
  exact Mf n (h n aY) x s;exact Vc l (λm Y=>h m<|by simp[Y]) x s
end
def IW(n:ba)(e:xH n):aS VP 82 [.agg<|bc n] (.bn [.fz<|bif bR 200 n then((gh n).map fE).map bQ else[],iV<|bif bR 200 n then 0 else 3]):=by
 have⟨e,m⟩:=e;have x:=IS n e;have o:=Oj n e m;have f:=uk n;have r:=Mf n e;generalize bR 200 n=s at*;cases s;have x:aS VP 155 [.agg<|bc n] (iV 3):=x;refine gO Tryz.f82.eq_1 λw y=>?_;exact S1 x.aP tr;have x:aS VP 155 [.agg<|bc n] (iV 0):=x;generalize M:gh n=l at*;refine gO Tryz.f82.eq_1 λw y=>?_;refine S3 x.aP o.bE @cm ?_;refine lF 0 (aA l) (λi T h=>T 5=.fz (l.map bc)/\ T 7=iV i/\ h.y=y/\ ∃v,T 6=b9 (((l.take i).map fE).map bQ) 35 v/\ b6 (h.o 35) (((l.take i).map fE).map bQ) v 28 5) ?_ ?_ ?_;exact auH;rintro i T h G ⟨Y,A,E,v,N,b⟩;have P:i<9223372036854775807:=aW;have j:aA (((l.take i).map fE).map bQ)<536870912:=aw9;have X:((l.take<|i+1).map fE).map bQ=((l.take i).map fE).map bQ++[bQ<|fE l[i]]:=by rw[ej G,dg,dg];rfl
 have U:=r _<|bD G;rw[X];generalize((l.take i).map fE).map bQ=L at*;generalize O:l[i]=p at*;have⟨k,F,B,a,W⟩:=p;rw[dt]at U;have d:=U.1;refine Z6 (a6 G) @bd (iM b j) @bg (xD d) (Ea d) ?_;exact⟨v+1,aM,by rw[b.1];exact auh⟩;exact awh
def aa2(n:ba)(e:xH n):aS VP 348 [.agg<|bc n] (.bn [.fz<|bif bR 200 n then(gh n).map (λx=>[bV<|bU x==2])else[],iV<|bif bR 200 n then 0 else 3]):=by
 have⟨e,m⟩:=e;have t:=IS n e;have o:=Oj n e m;have U:=uk n;generalize bR 200 n=s at*;cases s;have t:aS VP 155 [.agg<|bc n] (iV 3):=t;refine gO Tryz.f348.eq_1 λw y=>?_;exact S1 t.aP tr;have t:aS VP 155 [.agg<|bc n] (iV 0):=t;generalize M:gh n=l at*;refine gO Tryz.f348.eq_1 λw y=>?_;refine S3 t.aP o.bE @cm ?_;refine lF 0 (aA l) (λi T h=>T 5=.fz (l.map bc)/\ T 7=iV i/\ h.y=y/\ ∃v,T 6=b9 ((l.take i).map<|λx=>[bV<|bU x==2]) 29 v/\ b6 (h.o 29) ((l.take i).map<|λx=>[bV<|bU x==2]) v 4 1) ?_ ?_ ?_;exact auH;rintro i T h G ⟨Y,A,E,v,N,b⟩;have P:i<9223372036854775807:=aW;have j:aA ((l.take i).map<|λx=>[bV<|bU x==2])<536870912:=by rw[bj,ep];omega
 have X:(l.take<|i+1).map (λx=>[bV<|bU x==2])=(l.take i).map (λx=>[bV<|bU x==2])++[[bV<|bU l[i]==2]]:=by rw[ej G,dg];rfl
 rw[X];generalize(l.take i).map (λx=>[bV<|bU x==2])=L at*;generalize O:l[i]=p at*;have⟨k,F,f,a,W⟩:=p;refine Z5 (a6 G) @bd (iM b j) @bg bU.eq_1 ?_;exact⟨v+1,aM,by rw[b.1];exact auh⟩;exact awh
mutual
def fy:ba->Int
 |.mk _ _ _ _ k=>av .i64<|l8 0 k+1
def l8(d:Int):List ba->Int
 |[]=>d
 |n::l=>l8 (bif ax (d<fy n)then fy n else d) l
end
def aeI{l:List ba}{i:Nat}(G:i<aA l)(d:Int):l8 d (l.take<|i+1)=bif ax (l8 d (l.take i)<fy l[i])then fy l[i]else l8 d (l.take i):=by
 induction l generalizing i d with
 |nil=>exact absurd G<|gH _
 |cons n l I=>
  cases i with
  |zero=>simp[l8]
  |succ i=>
   have:=I (ka G)<|bif ax (d<fy n)then fy n else d
   simp only[j7,l8,this,List.getElem_cons_succ]
def aa1:∀n,dt n->aS VP 347 [.agg<|bc n] (iV<|fy n)
 |.mk k M F a W,e=>by rw[dt]at e;have⟨c,f,r⟩:=e;have I:∀i (G:i<aA W),aS VP 347 [.agg<|bc W[i]] (iV<|fy W[i]):=λi G=>aa1 W[i]<|r _<|bD G;rw[fy];refine gO Tryz.f347.eq_1 λw y=>?_;refine S1 @bg ?_;refine lF 0 (aA W) (λi T h=>T 1=.aR 1 1 0 0/\ T 4=iV i/\ T 3=iV (l8 0<|W.take i)/\ h=(H.empty y).new 1 (.cells aa ab 31 9 [bc<|.mk k M F a W])) ?_ ?_ ?_;refine S1 @bg ?_;exact at1;rintro i T h G ⟨g,Q,A,rfl⟩;rw[aeI G];exact av7;rintro T h ⟨g,Q,A,rfl⟩;rw[bP]at A;exact avq
 termination_by n=>n
 decreasing_by
  have:=j6<|bD G;simp only[ba.mk.sizeOf_spec];omega
def ar6(n:ba)(e:dt n):aS VP 273 [.agg<|bc n] (.bn [iV<|bif bR 200 n then fy n else 0,iV<|bif bR 200 n then 0 else 3]):=by have h:=IS n e;have o:=aa1 n e;generalize bR 200 n=s at*;cases s;have h:aS VP 155 [.agg<|bc n] (iV 3):=h;refine gO Tryz.f273.eq_1 λw y=>?_;exact S1 h.aP tr;have h:aS VP 155 [.agg<|bc n] (iV 0):=h;refine gO Tryz.f273.eq_1 λw y=>?_;exact S2 h.aP o.aP tr
def zH{d:Nat}{k M F:Int}{a:dZ}{W:List ba}(h:bR (d+1) (.mk k M F a W)=aa):(((k==1)||(k==2))=aa->W=[])/\ ∀x∈W,bR d x=aa:=by rw[bR]at h;cases V:k==1;cases p:k==2;exact at6;exact at6;exact at6
def aac{d:Nat}(I:∀n,bR d n=aa->∀c,((ft c n).filter λp=>ny p.2).map Prod.snd=gh n):∀(l:List ba),(∀x∈l,bR d x=aa)->∀c,((lP c l).filter λp=>ny p.2).map Prod.snd=mf l
 |[],_,c=>rfl
 |n::l,h,c=>by rw[lP,mf,ry,dg,I n<|h n aY,aac I l<|λx s=>h x<|by simp[s]]
def Of:∀(d:Nat) (n:ba),bR d n=aa->∀c,((ft c n).filter λp=>ny p.2).map Prod.snd=gh n
 |0,n,h,c=>by simp[bR]at h
 |d+1,.mk k M F a W,h,c=>by have⟨V,j⟩:=zH h;have X:=aac (λn r c=>Of d n r c) W j<|av .i64<|c+1;rw[ft,gh];cases q:(k==1)||(k==2);rw[List.filter_cons_of_neg<|by simp only[ny];rw[q];simp];exact X;rw[List.filter_cons_of_pos<|by simp only[ny];exact q];have:=V q;subst this;rfl
mutual
def aae:∀(n:ba) (c:Int),dt n->∀p∈ft c n,dt p.2
 |.mk k A F a W,c,h,p,M=>by
  have Y:=h;rw[dt]at Y;rw[ft]at M
  rcases dz.1 M with rfl|M
  exact h;exact aaf W _ Y.2.2 p M
def aaf:∀(l:List ba) (c:Int),(∀n∈l,dt n)->∀p∈lP c l,dt p.2
 |[],c,_,p,M=>by simp[lP]at M
 |n::l,c,h,p,M=>by
  rw[lP,mF]at M
  rcases M with M|M
  exact aae n c (h n aY) p M;exact aaf l c (λm Y=>h m<|by simp[Y]) p M
end
def acy{n:ba}(h:dt n):bk (fE n).cy:=by have⟨k,M,F,a,W⟩:=n;rw[dt]at h;exact h.1
abbrev qw(n:ba):List dZ:=(gh n).map fE
def Vb{β:Type}(n:ba)(f:ba->β):(bif bR 200 n then((ft 1 n).filter λp=>ny p.2).map (λp=>f p.2)else[])=(bif bR 200 n then(gh n).map f else[]):=by cases h:bR 200 n;rfl;have:=Of 200 n h 1;show(_:List β)=_;rw[a8,a8,<-this,pB];rfl
def EZ(n:ba)(X:xH n):aS VP 73 [.agg<|bc n] (.bn [.fz<|bif bR 200 n then(qw n).map bQ else[],iV<|bif bR 200 n then 0 else 3]):=by have g:=arh n X.1 (λp=>ny p.2) (by rw[EW];exact X.2) λp M=>ari p.1 p.2<|acy<|aae n 1 X.1 p M;rw[Vb n λx=>bQ<|fE x]at g;have e:(qw n).map bQ=(gh n).map λx=>bQ (fE x):=pB;rw[e];refine gO Tryz.f73.eq_1 λw y=>?_;exact S2 g.bE @cm tr
def asl(n:ba)(e:xH n):aS VP 334 [.agg<|bc n] (.bn [.fz<|bif bR 200 n then(gh n).map (λx=>[bV<|bU x==2])else[],iV<|bif bR 200 n then 0 else 3]):=by have g:=asC n e.1 (λp=>ny p.2) (by rw[EW];exact e.2) λp M=>asD p.1 p.2;rw[Vb n λx=>[bV<|bU x==2]]at g;refine gO Tryz.f334.eq_1 λw y=>?_;exact S2 g.bE @cm tr
def asz(n:ba)(e:xH n):aS VP 390 [.agg<|bc n] (.bn [.fz<|bif bR 200 n then(ft 1 n).map (λp=>[iV p.1])else[],iV<|bif bR 200 n then 0 else 3]):=by have g:=asR n e.1 (λp=>aa) (by rw[EW];exact e.2) λp M=>asS p.1 p.2;rw[show(ft 1 n).filter (λ_=>aa)=ft 1 n from OZ.2 λ_ _=>rfl]at g;refine gO Tryz.f390.eq_1 λw y=>?_;exact S2 g.bE @cm tr
def zj(m x:Int):Int:=bif ax (m<x)then x else m
def Ht(a:Int)(l:List Int):Int:=l.foldl zj a
def asA(a:Int)(l:aL)(P:bk<|a::l):aS VP 391 [iL<|a::l] (iV<|Ht a l):=by
 have V:ax ((aA (a::l):Int)<1)=ab:=by simp only[cE,cr];omega
 have b:∀h,cF h (ae,1) (iL<|a::l) 0=.ok (.bA [iV a] 0):=λh=>rfl;have o:∀i (G:i<aA l) (u:i+1<aA (a::l)),(a::l)[i+1]=l[i]:=λi G u=>rfl;have n:aA (a::l)=aA l+1:=rfl;generalize a::l=L at*;refine gO Tryz.f391.eq_1 λw y=>?_;refine S2 V b ?_;refine lF 0 (aA l) (λi T h=>T 0=iL L/\ T 4=iV (i+1:Nat)/\ T 3=iV ((l.take i).foldl zj a)/\ h=H.empty y) ?_ ?_ ?_;refine S0 ?_;exact at1;rintro i T h G ⟨t,Q,A,rfl⟩;have u:i+1<aA L:=aW;rw[ej G,jQ];refine S6 t A Q (a6 u) @bd (o i G u) ?_;rfl;rintro T h ⟨t,Q,A,rfl⟩;rw[bP]at A;rw[<-n]at Q;exact S4 t A Q Ht.eq_1 tr
def BE(m x:Int):zj m x=max m x:=by
 unfold zj
 grind
def Gi:∀(l:List ba) (d:Int),0<=d->l8 d l=max d (l8 0 l)/\ 0<=l8 0 l:=by
 intro l
 induction l with
 |nil=>intro d t;simp only[l8];omega
 |cons n l I=>intro d t;have e:∀d,(bif ax (d<fy n)then fy n else d)=max d (fy n):=λd=>BE d<|fy n;simp only[l8,e];have h:=I (max d (fy n)) aW;have a:=I (max 0 (fy n)) aW;omega
def KD{d:Nat}(I:∀n,bR d n=aa->1<=fy n/\ fy n<=d):∀l:List ba,(∀x∈l,bR d x=aa)->l8 0 l<=d
 |[],_=>by simp only[l8];omega
 |n::l,h=>by have V:=I n<|h n aY;have a:=KD I l λx s=>h x (by simp[s]);have e:(bif ax ((0:Int)<fy n)then fy n else 0)=max 0 (fy n):=BE 0<|fy n;have X:=(Gi l (max 0 (fy n)) aW).1;simp only[l8,e];omega
def Gj:∀(d:Nat) (n:ba),d<=200->bR d n=aa->1<=fy n/\ fy n<=d
 |0,n,_,h=>by simp[bR]at h
 |d+1,.mk k M F a W,t,h=>by have p:=KD (λn r=>Gj d n aW r) W (zH h).2;have X:=(Gi W 0 aW).2;rw[fy,d' _ aW aW];omega
def aah{d:Nat}(t:d<=200)(I:∀n,bR d n=aa->∀c m:Int,0<=c->c<=1000-d->c-1<=m->((ft c n).map Prod.fst).foldl zj m=max m (c+fy n-1)):∀(l:List ba),(∀x∈l,bR d x=aa)->∀c m:Int,0<=c->c<=1000-d->c-1<=m->((lP c l).map Prod.fst).foldl zj m=max m (c+l8 0 l-1)
 |[],_,c,m,_,_,Y=>by simp only[lP,i_,List.foldl_nil,l8];omega
 |n::l,h,c,m,Q,S,Y=>by have V:=Gj d n t<|h n aY;have e:(bif ax ((0:Int)<fy n)then fy n else 0)=max 0 (fy n):=BE 0<|fy n;have X:=(Gi l (max 0 (fy n)) aW).1;rw[lP,dg,jQ,I n (h n aY) c m Q S Y,aah t I l (λx s=>h x<|by simp[s]) c _ Q S aW];simp only[l8,e];omega
def aag:∀(d:Nat) (n:ba),d<=200->bR d n=aa->∀c m:Int,0<=c->c<=1000-d->c-1<=m->((ft c n).map Prod.fst).foldl zj m=max m (c+fy n-1)
 |0,n,_,h,c,m,_,_,_=>by simp[bR]at h
 |d+1,.mk k M F a W,t,h,c,m,Q,S,Y=>by have P:av .i64 (c+1)=c+1:=d' _ aW aW;have V:=(zH h).2;have p:=KD (λn r=>Gj d n aW r) W V;have X:=(Gi W 0 aW).2;rw[ft,cL,gn,P,aah aW (λn r=>aag d n aW r) W V (c+1) _ aW aW<|by rw[BE];omega,BE,fy,d' _ aW aW];omega
def asg(n:ba)(X:xH n):aS VP 330 [.agg<|bc n] (.bn [iV<|bif bR 200 n then fy n else 0,iV<|bif bR 200 n then 0 else 3]):=by
 have g:=asz n X;cases s:bR 200 n<;>rw[s]at g;have g:aS _ _ _ (.bn [.fz [],iV 3]):=g;refine gO Tryz.f330.eq_1 λw y=>?_;exact S2 g.bE @cm tr;have m:=aag 200 n aW s 1 0 aW aW aW;have t:=Gj 200 n aW s;have c:aA ((ft 1 n).map Prod.fst)<1048576:=by rw[bj,EW];exact X.2
 have g:aS VP 390 [.agg<|bc n] (.bn [iL<|(ft 1 n).map Prod.fst,iV 0]):=by
  have e:(ft 1 n).map (λp=>[iV p.1])=((ft 1 n).map Prod.fst).map λn=>[iV n]:=by rw[pB];rfl
  rw[e]at g;exact g
 obtain⟨a,l,P⟩:∃a l,(ft 1 n).map Prod.fst=a::l:=by have⟨k,M,F,a,W⟩:=n;rw[ft];exact⟨_,_,aM⟩
 rw[P]at g m c;have o:=asA a l c;have e:Ht a l=fy n:=by
  have:a=1:=by have⟨k,M,F,b,W⟩:=n;rw[ft,cL]at P;exact(List.cons.inj P).1.symm
  rw[gn,BE]at m;have T:max 0 a=a:=aW;rw[T]at m;unfold Ht;rw[m];omega
 rw[e]at o;refine gO Tryz.f330.eq_1 λw y=>?_;exact S3 g.bE @cm o.aP tr
def Zt(a:cV):∀(l r y:aB),dv a y (l++r)=aO (dv a y l) λq=>bif q.1 then dv a q.2 r else .ok (ab,q.2)
 |[],r,y=>rfl
 |e::l,r,y=>by
  simp only[ck,dv]
  cases a (y++[e])with
  |error x=>rfl
  |ok b=>cases b<;>simp[aO,Zt a l r]
def Cj(P:VT)(f:Nat)(xs:List VV)(l:List<|List VV):Prop:=∀a y b y',dv a y l=.ok (b,y')->(vW P).z f xs a y=.ok (bV b,y')
def Cj.call{P:VT}{a:cV}{h:H}{f:Nat}{xs:aC}{l:aB}(y:Cj P f xs l)(hn:zm xs=ab){b:Bool}{y':aB}(Q:dv a h.y l=.ok (b,y'))(S:aK):zP P a h f (xs,S)=.ok (bV b,⟨(cp h S).o,y'⟩):=by unfold zP;simp only[hn,br,y a h.y b y' Q,aO]
def aiA{f:Nat}{fn:Func}{xs:aC}{l:aB}(j:VP.D.func f=ad fn)(c:fp VP f (aA xs)=aa)(h:∀a y b y',dv a y l=.ok (b,y')->dC VP fn.results.toList (cv VP (cW VP a) 0 (VP.gk f) (fn.body.getD .skip) (gK xs)<|.empty y)=.ok (bV b,y'))(h0:VP.h5 f=0:=by rfl):Cj VP f xs l:=by
 intro a y b y' Q;refine Ca ?_;unfold fp at c;rw[j]at c
 cases e:fn.body with
 |none=>simp only[e]at c;cases c
 |some v=>
  simp only[e,bW]at c;have⟨⟨⟨⟨⟨z,I⟩,E⟩,T⟩,u⟩,U⟩:=c;have p:VP.la f=ae:=by simpa using u
  have B:VP.fL f=ae:=by simpa using U
  have h:=h a y b y' Q;rw[e]at h;show(match VP.la f with|some g=>_|none=>match VP.fL f with|some P=>_|none=>aO (jf VP (cW VP a) (VP.h5 f) f xs<|.empty y) _)=_;rw[p];simp only;rw[B];show aO (jf VP (cW VP a) (VP.h5 f) f xs<|.empty y) _=_;rw[h0];unfold jf;rw[j];simp only[e,z,I,E,T,iJ,a8];exact h
mutual
def eA:ba->List ba
 |.mk k M F a W=>.mk k M F a W::hI W
def hI:List ba->List ba
 |[]=>[]
 |n::l=>eA n++hI l
end
def ab8{l:List ba}{i:Nat}(G:i<aA l):hI (l.drop i)=eA l[i]++hI (l.drop<|i+1):=by rw[fD G,hI]
abbrev yx(n:ba):List VV:=[.agg<|bc n]
def aa9:∀n,dt n->Cj VP 430 [.agg<|bc n,.yield] ((eA n).map yx)
 |.mk k M F a W,e=>by rw[dt]at e;have⟨c,f,r⟩:=e;have I:∀i (G:i<aA W),Cj VP 430 [.agg<|bc W[i],.yield] ((eA W[i]).map yx):=λi G=>aa9 W[i]<|r _<|bD G;refine aiA agx apY λw y b y' Q=>?_;rw[eA,cL]at Q;simp only[dv]at Q;rw[bF]at Q;have⟨L,V,Q⟩:=Q;have V:w (y++[[.agg<|bc<|.mk k M F a W]])=.ok L:=V;rw[bg]at V;cases L;cases Q;exact S4 Tryz.f430.eq_1 @bg V yx.eq_1 tr;simp only[a8]at Q;refine S3 Tryz.f430.eq_1 @bg V ?_;refine lF 0 (aA W) (λi T h=>T 1=.yield/\ T 12=.fz (W.map bc)/\ T 13=iV (aA W)/\ T 14=iV i/\ dv w h.y ((hI<|W.drop i).map yx)=.ok (b,y')) ?_ ?_ ?_;exact aw7;rintro i T h G ⟨g,D,U,m,Q⟩;rw[ab8 G,dg,Zt,bF]at Q;have⟨⟨o,P⟩,p,Q⟩:=Q;have p:=λ(Y:H) (J:Y.y=h.y)=>(I i G).call (a:=w) (h:=Y) aM (b:=o) (y':=P) (by rw[J];exact p) [];have d:=p ((h.new 6<|VK.cells aa ab 31 9 [[iV 0,iV 0,iV 0,iV 0,bV ab,uV 0,VV.nil,sV [],VV.nil]]).mod 6<|VK.cells aa ab 31 9 [bc W[i]]) aM;cases o;cases Q;exact S8 g D U m (a6 G) @bd d @cm tr;simp only[a8]at Q;refine S8 g D U m (a6 G) @bd d @cm ?_;exact Q;rintro T h ⟨g,D,U,m,Q⟩;rw[fS]at Q;simp only[hI,i_,dv]at Q;cases Q;exact S4 g D U m tr
 termination_by n=>n
 decreasing_by
  have:=j6<|bD G;simp only[ba.mk.sizeOf_spec];omega
def ahT(n:ba)(e:dt n):iK VP 429 [.yield,.bA (bc n) 0] ((eA n).map yx):=by have g:=aa9 n e;refine xk agw apX λw y b N Q=>?_;have p:=g.call (a:=w) (h:=H.empty y) aM Q [];exact Z2 Tryz.f429.eq_1 @cm tr
def asy(n:ba):aS VP 389 [.agg<|bc n] (.func 429 [] [.bA (bc n) 0]):=by refine gO Tryz.f389.eq_1 λw y=>?_;exact aug
def Ot(q:cR)(g:Nat)(e:dt q.bt)(p:ba->Bool)(o:DD g=ab)(O:∀x∈eA q.bt,aS VP g [.agg<|bc x]<|bV<|p x):aS VP 328 [.agg<|bG q,.func g [] []] (bV<|(eA q.bt).any p):=by obtain⟨k,A,F,a,W,u,v,Z,rfl⟩:=qC q;simp only at O e|-;have P:=ahT _ e;have V:=asy<|.mk k A F a W;generalize z:eA (.mk k A F a W)=l at*;rw[bg]at V P;refine gO Tryz.f328.eq_1 λw y=>?_;refine S6 bG.eq_1 @bg @Me @Hj V.bE @cm ?_;refine rF 0 (l.map yx) P aM (λi h=>h.o 3=⟨1,0,.cells aa ab 73 1 [[.func g [] []]]⟩/\ h.y=y/\ h.o 4=⟨1,0,.cells aa ab 4 1 [[bV ab]]⟩/\ (l.take i).any p=ab) ?_ ?_ ?_;refine S1 @cm ?_;rfl;rintro i h G ⟨s,E,T,M⟩;rw[bj]at G;rw[fK];have m:=O _<|bD G;have s1:=λh=>gI (p:=p) G h;have s2:=gJ (p:=p) G M;generalize l[i]=x at*;refine S7 yx.eq_1 s E T m.aP @cm (LX g o) ?_;exact⟨λh=>by rw[s1 h],s2⟩;rintro h ⟨s,E,T,M⟩;rw[bj]at M;have M:=Al M;exact S4 s T E M tr
def arV(q:cR)(e:q5 q):aS VP 253 [.agg<|bG q] (iV<|pM q):=by have g:=ase q e;obtain⟨k,M,F,a,W,u,v,Z,rfl⟩:=qC q;simp only[bG,bg,ck,b7]at g|-;refine gO Tryz.f253.eq_1 λw y=>?_;exact S1 g.aP tr
def pK:ba->Bool
 |.mk _ _ _ a k=>decide (8<(aA k:Int))||ax (4<(aA a.cy:Int))
def asf(n:ba):aS VP 329 [.agg<|bc n] (bV<|pK n):=by have⟨k,M,F,a,W⟩:=n;refine gO Tryz.f329.eq_1 λw y=>?_;exact S2 @bg pK.eq_1 tr
def pj:ba->Bool
 |.mk k M F _ _=>(k==1)&&(ax (M<1)||ax (F<M)||ax (6<F))
def ash(n:ba):aS VP 331 [.agg<|bc n] (bV<|pj n):=by have⟨k,M,F,a,W⟩:=n;refine gO Tryz.f331.eq_1 λw y=>?_;exact S2 @bg pj.eq_1 tr
def r8(k:Int)(i last:Int)(x:ba):Bool:=(bU x==2)&&((k !=3)||(i==0)||(i==last))
def oq(k last:Int):Nat->List ba->Bool
 |_,[]=>ab
 |i,x::l=>r8 k i last x||oq k last (i+1) l
def pb:ba->Bool
 |.mk k _ _ _ W=>oq k (aA W-1) 0 W
def Wu{k last:Int}:∀{l:List ba} {j i:Nat} (G:i<aA l),r8 k (i+j:Nat) last l[i]=aa->oq k last j l=aa
 |x::l,j,0,_,h=>by simp only[m_,bZ]at h;simp[oq,h]
 |x::l,j,i+1,G,h=>by have:=Wu (k:=k) (last:=last) (l:=l) (j:=j+1) (i:=i) (ka G) au0;simp[oq,this]
def Wv{k last:Int}:∀{l:List ba} {j i:Nat} (G:i<aA l),oq k last j (l.take i)=ab->r8 k (i+j:Nat) last l[i]=ab->oq k last j (l.take<|i+1)=ab
 |x::l,j,0,_,_,h=>by simp only[m_,bZ]at h;simp[oq,h]
 |x::l,j,i+1,G,p,h=>by simp only[j7,oq,gz]at p|-;exact⟨p.1,Wv (ka G) p.2 au0⟩
def asj(n:ba)(e:dt n):aS VP 333 [.agg<|bc n] (bV<|!pb n):=by
 have⟨k,M,F,a,W⟩:=n;rw[dt]at e;have f:=e.2.1;have P:av .i64 ((aA W:Int)-1)=(aA W:Int)-1:=by unfold bk at f;exact d' _ aW aW
 refine gO Tryz.f333.eq_1 λw y=>?_;refine S2 @bg P ?_;refine lF 0 (aA W) (λi T h=>T 1=.aR 1 1 0 0/\ T 3=iV ((aA W:Int)-1)/\ T 11=.fz (W.map bc)/\ T 12=iV (aA W)/\ T 13=iV i/\ h.y=y/\ h.o 1=⟨1,0,.cells aa ab 31 9 [bc<|.mk k M F a W]⟩/\ oq k ((aA W:Int)-1) 0 (W.take i)=ab) ?_ ?_ ?_;refine S1 @bg ?_;exact at1;rintro i T h G ⟨g,A,u,D,U,O,E,q⟩;have s1:=Wu (k:=k) (last:=(aA W:Int)-1) (j:=0) G;have s2:=Wv (k:=k) (last:=(aA W:Int)-1) (j:=0) G q;generalize s:W[i]=x at*;have⟨B,v,L,o,N⟩:=x;simp only[wG,r8,bU]at s1 s2;rw[bg]at E;refine eN g A u D U O E s @bg (a6 G) @bd ?_;exact⟨λh=>by rw[show pb (.mk k M F a W)=aa from s1 h];rfl,s2⟩;rintro T h ⟨g,A,u,D,U,O,E,q⟩;rw[bP]at q;rw[bg]at E;exact S9 g A u D U O E pb.eq_1 q tr
def asi(n:ba)(e:dt n):aS VP 332 [.agg<|bc n] (bV<|pb n):=by have g:=asj n e;refine gO Tryz.f332.eq_1 λw y=>?_;exact S2 g.aP @Fk tr
mutual
def PU:∀(n:ba),dt n->∀x∈eA n,dt x
 |.mk k M F a W,h,x,s=>by
  have Y:=h;rw[dt]at Y;rw[eA]at s
  rcases dz.1 s with rfl|s
  exact h;exact PV W Y.2.2 x s
def PV:∀(l:List ba),(∀n∈l,dt n)->∀x∈hI l,dt x
 |[],_,x,s=>by simp[hI]at s
 |n::l,h,x,s=>by
  rw[hI,mF]at s
  rcases s with s|s
  exact PU n (h n aY) x s;exact PV l (λm Y=>h m<|by simp[Y]) x s
end
def Bd(q:cR):Int:=bif ax (12<(aA (bif bR 200 q.bt then qw q.bt else[]):Int))||ax (4<(aA q.k_:Int))||ax (4<(aA q.kW:Int))||(eA q.bt).any pK then 6 else 0
def Gg(q:cR):Int:=bif ax (6<bif bR 200 q.bt then fy q.bt else 0)then 22 else 0
def EA(q:cR):Int:=bif ax (10000<q.iI)||(eA q.bt).any pj then 2 else 0
def En(q:cR):Int:=bif (bU q.bt==2)||(eA q.bt).any pb then 9 else 0
def gR(q:cR):Prop:=q5 q/\ lv q.bt<1048576
def arW(q:cR)(X:gR q):aS VP 254 [.agg<|bG q] (iV<|Bd q):=by
 have h:=EZ q.bt ⟨X.1.1,X.2⟩;have o:=Ot q 329 X.1.1 pK aM λx _=>asf x;obtain⟨k,M,F,a,W,u,v,Z,rfl⟩:=qC q;simp only[bG,bg,ck,b7,Bd]at h o|-;have e:(bif bR 200 (.mk k M F a W)then(qw<|.mk k M F a W).map bQ else[])=(bif bR 200 (.mk k M F a W)then qw (.mk k M F a W)else[]).map bQ:=by cases bR 200 (.mk k M F a W)<;>rfl
 rw[e]at h;generalize(bif bR 200 (.mk k M F a W)then qw (.mk k M F a W)else[])=L at*;generalize(eA<|.mk k M F a W).any pK=B at*;refine gO Tryz.f254.eq_1 λw y=>?_;exact S3 h.bE @cm o.aP tr
def arX(q:cR)(e:gR q):aS VP 255 [.agg<|bG q] (iV<|Gg q):=by have h:=asg q.bt ⟨e.1.1,e.2⟩;obtain⟨k,M,F,a,W,u,v,Z,rfl⟩:=qC q;simp only[bG,bg,ck,b7,Gg]at h|-;refine gO Tryz.f255.eq_1 λw y=>?_;exact S1 h.aP tr
def arY(q:cR)(e:q5 q):aS VP 256 [.agg<|bG q] (iV<|EA q):=by have o:=Ot q 331 e.1 pj aM λx _=>ash x;obtain⟨k,M,F,a,W,u,v,Z,rfl⟩:=qC q;simp only[bG,bg,ck,b7,EA]at o|-;refine gO Tryz.f256.eq_1 λw y=>?_;exact S1 o.aP tr
def arZ(q:cR)(e:q5 q):aS VP 257 [.agg<|bG q] (iV<|En q):=by have o:=Ot q 332 e.1 pb aM λx s=>asi x<|PU _ e.1 x s;obtain⟨k,M,F,a,W,u,v,Z,rfl⟩:=qC q;simp only[bG,bg,ck,b7,En,bU]at o|-;refine gO Tryz.f257.eq_1 λw y=>?_;exact S1 o.aP tr
def Sq(n:Nat)(a b:aF):bX VP.D (n+1) 9 (.aN<|.string ⟨⟨a⟩⟩) (.aN<|.string ⟨⟨b⟩⟩)=.ok (a==b):=by unfold bX;rw[ES];rfl
abbrev kS(s:List UInt8):AV:=.aN<|.string ⟨⟨s⟩⟩
def Sm(a b:aF):bX VP.D 10 9 (kS a) (kS b)=.ok (a==b):=Sq 9 a b
def bqS(k:aF):cU (kS k) (kS k)=aa:=by simp[cU,kx]
def fvS(l:List<|aF×Bool)(k:aF):oa VP.D 9 (.aN<|.string ⟨⟨k⟩⟩) (l.map<|hL kS)=.ok ((qI l k).map λb=>.aN<|.bool b):=Dn Sm k l
def svS(l:List<|aF×Bool)(k:aF)(b:Bool):oz (bV b) VP.D 9 (.aN<|.string ⟨⟨k⟩⟩) (l.map<|hL kS)=.ok ((po l k b).map<|hL kS):=EM Sm bqS k b l
def aiK:o9 VP.D 446=.ok (9,4):=aV
def I5:yh VP.D 4=.ok (bV ab):=aV
def aft(a:aF):(a==a)=aa:=aY
def pvS(s:aF):tq (.aN<|.string ⟨⟨s⟩⟩)=aa:=rfl
def ur:=af @fvS<|af @svS<|af @aiK<|af @I5<|af @Sq<|af @aft @pvS
def jh(x:List<|List UInt8)(s:List UInt8):List (List UInt8):=bif x.any (λk=>k==s)then x else x++[s]
abbrev sL(l:List<|List UInt8):List (List VV):=l.map λs=>[sV s]
structure oM(h:H)(dO:List<|List UInt8)(s v:Nat):Prop where
 o4:∃md,h.o 4=⟨1,md,.cells aa ab 446 1 [[.cz 10 1]]⟩
 Wp:∃md,∃l:List<|List UInt8×Bool,h.o 10=⟨1,md,.map<|l.map<|hL kS⟩/\ ∀k,mP l k=dO.any (λx=>x==k)
 o3:∃md,h.o 3=⟨1,md,.cells aa ab 387 1 [[b9 (sL dO) s v]]⟩
 ac:b6 (h.o s) (sL dO) v 9 1
 st:s=23016\/ s=34016
def uJ(o:List aF)(s:aF):sL (o++[s])=sL o++[[sV s]]:=dg
def aqh(w:cV)(a:ln)(h:H)(p:List aF)(s v:Nat)(hn:aA p<4194304)(g:oM h p s v):∃h' L u,(vW VP).i 394 23 [.agg<|e7 a,.aR 4 1 0 0,.aR 3 1 0 0] w h=.ok (.bn [],h')/\ oM h' (jh p a.name) L u/\ h'.y=h.y/\ h'.o 1=h.o 1:=by
 have s1:dk 23 (ad 3)=23003:=rfl;have s2:dk 23 (ad 15)=23015:=rfl;have s3:dk 23 (ad 16)=23016:=rfl;have⟨⟨X,T⟩,⟨W,l,y,P⟩,⟨S,F⟩,f,O⟩:=g;have o:=P a.name;unfold jh;cases q:p.any<|λx=>x==a.name;rw[q]at o;have d:aA (sL p)<536870912:=auC;obtain⟨t,D⟩:∃t,t=jl (sL p) s 23016:=⟨_,aM⟩;have N:t≠4/\ t≠10/\ t≠3/\ t≠23003/\ t≠23015/\ (t=23016\/ t=34016):=by rw[D];unfold jl;split<;>omega
 have m:∃h',ki VP Tryz.f394.results.toList (cv VP (cW VP w) 23 (VP.gk 394) (Tryz.f394.body.getD .skip) (gK [.agg<|e7 a,.aR 4 1 0 0,.aR 3 1 0 0]) h)=.ok (.bn [],h')/\ oM h' (p++[a.name]) t (h'.o t).ver/\ h'.y=h.y/\ h'.o 1=h.o 1:=at3;exact awc;rw[q]at o;have m:∃h',ki VP Tryz.f394.results.toList (cv VP (cW VP w) 23 (VP.gk 394) (Tryz.f394.body.getD .skip) (gK [.agg<|e7 a,.aR 4 1 0 0,.aR 3 1 0 0]) h)=.ok (.bn [],h')/\ oM h' p s v/\ h'.y=h.y/\ h'.o 1=h.o 1:=aua;exact awd
def aqi(w:cV)(a:ln)(h:H)(p:List aF)(s v:Nat)(hn:aA p<4194304)(g:oM h p s v):∃h' L u,(vW VP).i 394 34 [.agg<|e7 a,.aR 4 1 0 0,.aR 3 1 0 0] w h=.ok (.bn [],h')/\ oM h' (jh p a.name) L u/\ h'.y=h.y/\ h'.o 1=h.o 1:=by
 have s1:dk 34 (ad 3)=34003:=rfl;have s2:dk 34 (ad 15)=34015:=rfl;have s3:dk 34 (ad 16)=34016:=rfl;have⟨⟨X,T⟩,⟨W,l,y,P⟩,⟨S,F⟩,f,O⟩:=g;have o:=P a.name;unfold jh;cases q:p.any<|λx=>x==a.name;rw[q]at o;have d:aA (sL p)<536870912:=auC;obtain⟨t,D⟩:∃t,t=jl (sL p) s 34016:=⟨_,aM⟩;have N:t≠4/\ t≠10/\ t≠3/\ t≠34003/\ t≠34015/\ (t=23016\/ t=34016):=by rw[D];unfold jl;split<;>omega
 have m:∃h',ki VP Tryz.f394.results.toList (cv VP (cW VP w) 34 (VP.gk 394) (Tryz.f394.body.getD .skip) (gK [.agg<|e7 a,.aR 4 1 0 0,.aR 3 1 0 0]) h)=.ok (.bn [],h')/\ oM h' (p++[a.name]) t (h'.o t).ver/\ h'.y=h.y/\ h'.o 1=h.o 1:=at3;exact awc;rw[q]at o;have m:∃h',ki VP Tryz.f394.results.toList (cv VP (cW VP w) 34 (VP.gk 394) (Tryz.f394.body.getD .skip) (gK [.agg<|e7 a,.aR 4 1 0 0,.aR 3 1 0 0]) h)=.ok (.bn [],h')/\ oM h' p s v/\ h'.y=h.y/\ h'.o 1=h.o 1:=aua;exact awd
def oM.frame{h h1:H}{p:List aF}{s v:Nat}(j:∀x,x=4\/ x=10\/ x=3\/ x=23016\/ x=34016->h1.o x=h.o x)(g:oM h p s v):oM h1 p s v:=by have⟨⟨o,o4⟩,⟨t,l,Wp,P⟩,⟨S,o3⟩,ac,st⟩:=g;refine⟨⟨o,by rw[j 4 aW];exact o4⟩,⟨t,l,by rw[j 10 aW];exact Wp,P⟩,⟨S,by rw[j 3 aW];exact o3⟩,by rw[j s aW];exact ac,st⟩
def aqt(x:List aF)(s:aF):aA (jh x s)<=aA x+1:=by
 unfold jh
 grind
def vw:∀(l x:List aF),aA (l.foldl jh x)<=aA x+aA l
 |[],x=>aY
 |s::l,x=>by have:=vw l<|jh x s;have:=aqt x s;simp only[gn,cr];omega
def Uq:og VP 394=aa:=rfl
def acE:0*1000+(ad 22:Option Nat).getD 998+1=23:=rfl
def acF:0*1000+(ad 33:Option Nat).getD 998+1=34:=rfl
def nJ(q:cR):List (List UInt8):=(q.k_.map (λv=>v.agg.name)++q.kW.map (λa=>a.name)).foldl jh []
def GM{α:Type}(f:α->aF){l:List α}{i:Nat}(G:i<aA l)(o:List aF):((l.take<|i+1).map f).foldl jh o=jh (((l.take i).map f).foldl jh o) (f l[i]):=by rw[ej G,dg,jQ];rfl
def asm(q:cR)(z:q5 q):aS VP 335 [.agg<|bG q] (.fz<|sL<|nJ q):=by
 obtain⟨k,M,F,a,t,u,Y,Z,rfl⟩:=qC q;have⟨V,e,d⟩:=z;simp only at V e d;generalize J:bG ⟨.mk k M F a t,u,Y,Z⟩=Q;simp only[bG,bg,ck,b7]at J;subst J;refine gO Tryz.f335.eq_1 λw y=>?_;refine S1 @ur ?_;refine lF 0 (aA Y) (λi T h=>T 5=.func 394 [] [.aR 4 1 0 0,.aR 3 1 0 0]/\ T 13=.fz (Y.map gw)/\ T 14=iV (aA Y)/\ T 15=iV i/\ T 1=.aR 1 1 0 0/\ T 3=.aR 3 1 0 0/\ h.y=y/\ h.o 1=⟨1,0,.cells aa ab 35 12 [[iV k,iV M,iV F,iV a.kind,bV a.fF,uV a.fe,VV.fz<|aq ed a.cy,sV a.name,VV.fz<|aq bc t,uV u,VV.fz<|aq gw Y,VV.fz<|aq e7 Z]]⟩/\ ∃s v,oM h (((Y.take i).map λv=>v.agg.name).foldl jh []) s v) ?_ ?_ ?_;refine S0 ?_;refine⟨aM,23016,0,⟨1,?_⟩,⟨0,[],?_,λk=>rfl⟩,⟨0,?_⟩,?_,.inl aM⟩;refine N0 ?_;rfl;refine N0 ?_;rfl;refine N0 ?_;rfl;refine N0 ?_;exact⟨aM,λh=>absurd aM h⟩;rintro i T h P ⟨W,U,m,c,X,G,E,N,s,v,g⟩;have l:i<9223372036854775807:=by unfold bk at e;omega
 rw[GM (λv:nS=>v.agg.name) P];have B:=vw ((Y.take i).map λv=>v.agg.name) [];rw[bj,ep]at B;generalize((Y.take i).map λv=>v.agg.name).foldl jh []=p at*;have S:oM ((h.new 7<|.cells aa ab 79 4 [[iV 0,sV [],iV 0,iV 0]]).mod 7<|.cells aa ab 79 4 [gw Y[i]]) p s v:=g.frame λx b=>auy;have⟨D,L,A,C,o,j,f⟩:=aqh w Y[i].agg _ p s v (by unfold bk at e;simp only[f_]at B;omega) S;have f:D.o 1=h.o 1:=by rw[f];exact auy
 have j:D.y=h.y:=j;refine eN W U m c X G (a6 P) @bd @Uq @acE C ?_;exact⟨by rw[j,E],by rw[f,N],_,_,o⟩;rintro T h ⟨W,U,m,c,X,G,E,N,s,v,g⟩;rw[bP]at g;have n:=vw (Y.map λv=>v.agg.name) [];rw[bj]at n;unfold nJ;rw[jQ];generalize(Y.map λv=>v.agg.name).foldl jh []=O at*;refine S7 W U m c X G N ?_;refine lF 2 (aA Z) (λi T h=>T 5=.func 394 [] [.aR 4 1 0 0,.aR 3 1 0 0]/\ T 25=.fz (Z.map e7)/\ T 26=iV (aA Z)/\ T 27=iV i/\ T 3=.aR 3 1 0 0/\ h.y=y/\ ∃s v,oM h (((Z.take i).map λa=>a.name).foldl jh O) s v) ?_ ?_ ?_;refine S2 W G ?_;exact⟨aM,E,s,v,g⟩;rintro i T h P ⟨W,U,m,c,G,E,s,v,g⟩;have l:i<9223372036854775807:=by unfold bk at d;omega
 rw[GM (λa:ln=>a.name) P];have B:=vw ((Z.take i).map λv=>v.name) O;rw[bj,ep]at B;generalize((Z.take i).map λv=>v.name).foldl jh O=p at*;have S:oM ((h.new 9<|.cells aa ab 75 2 [[iV 0,sV []]]).mod 9<|.cells aa ab 75 2 [e7 Z[i]]) p s v:=g.frame λx b=>auy;have⟨D,L,A,C,o,j,f⟩:=aqi w Z[i] _ p s v (by unfold bk at e d;simp only[f_]at n;omega) S;have j:D.y=h.y:=j;refine fm W U m c G (a6 P) @bd @Uq @acF C ?_;exact⟨by rw[j,E],_,_,o⟩;rintro T h ⟨W,U,m,c,G,E,s,v,g⟩;rw[bP]at g;generalize((Z.map λv=>v.name).foldl jh O)=p at*;have⟨⟨m3,r⟩,I⟩:=af g.o3 g.ac;exact S8 W U m c G r (gf I) E tr
def kE:List (List UInt8×Bool)->List (List UInt8×Bool)->Bool
 |_,[]=>ab
 |done,p::l=>(!(p.1==[])&&done.any (λq=>q.1==p.1))||kE (done++[p]) l
def KF:∀{l done:List (aF×Bool)} {i:Nat} (G:i<aA l),(!(l[i].1 ==[])&&(done++l.take i).any (λq=>q.1==l[i].1))=aa->kE done l=aa
 |p::l,done,0,_,h=>by simp only[m_,i',ea]at h;simp only[kE,h,rm]
 |p::l,done,i+1,G,h=>by simp only[List.getElem_cons_succ,j7]at h;have:=KF (l:=l) (done:=done++[p]) (i:=i) (ka G) (by rw[eF];exact h);simp only[kE,this,yj]
def KG:∀{l done:List (aF×Bool)},(∀i (G:i<aA l),(!(l[i].1 ==[])&&(done++l.take i).any (λq=>q.1==l[i].1))=ab)->kE done l=ab
 |[],_,_=>rfl
 |p::l,done,h=>by
  have Q:=h 0<|Cv _;simp only[m_,i',ea]at Q;have:=KG (l:=l) (done:=done++[p]) λi G=>by have:=h (i+1)<|z8 G;exact at6
  simp only[kE,Q,this,tD]
def eQ(n:ba):List ba:=bif bR 200 n then gh n else[]
abbrev h9(x:ba):List UInt8×Bool:=((fE x).name,bU x==2)
def vO(L:List<|List UInt8×Bool)(k:List UInt8):Bool:=L.any λp=>!(p.1==[])&&(p.1==k)&&!p.2
def sv(L:List<|List UInt8×Bool):Bool:=L.any λp=>!(p.1==[])&&p.2
def Hw(q:cR):Int:=bif kE [] ((eQ q.bt).map h9)then 8 else bif sv ((eQ q.bt).map h9)||(nJ q).any (λs=>!vO ((eQ q.bt).map h9) s)then 12 else 0
def Wo{N:aF}(hn:(N==[])=ab){l:List (aF×Bool)}:(l.any λp=>!(p.1==[])&&(p.1==N))=l.any λp=>p.1==N:=by grind
def L7(l:List ba)(i:Nat)(G:i<aA l)(h:H):cF h (ae,1) (.fz<|l.map λx=>[bV<|bU x==2]) (i:Int)=.ok (.bA [bV<|bU l[i]==2] 0):=by rw[db (λx=>[bV<|bU x==2]) l i G];rfl
def vb{α:Type}{p:α->Bool}{l:List α}{i:Nat}(G:i<aA l):(l.take<|i+1).any p=((l.take i).any p||p l[i]):=by rw[ej G,zW];simp
def ar0(q:cR)(X:gR q):aS VP 258 [.agg<|bG q] (iV<|Hw q):=by
 have g1:=EZ q.bt ⟨X.1.1,X.2⟩;have g2:=asl q.bt ⟨X.1.1,X.2⟩;have g3:=asm q X.1;have A0:aA (nJ q)<4194304:=by have h:=vw (q.k_.map (λv=>v.agg.name)++q.kW.map (λa=>a.name)) [];have h1:=X.1.2.1;have h2:=X.1.2.2;unfold bk at h1 h2;simp only[cN,bj,f_]at h;unfold nJ;omega
 have g:(bif bR 200 q.bt then(qw q.bt).map bQ else[])=((eQ q.bt).map fE).map bQ:=auP;have e2:(bif bR 200 q.bt then(gh q.bt).map (λx=>[bV<|bU x==2])else[])=(eQ q.bt).map λx=>[bV<|bU x==2]:=auP;have B0:aA (eQ q.bt)<1048576:=by have:=uk q.bt;have:=X.2;unfold eQ;exact au5
 rw[g]at g1;rw[e2]at g2;unfold Hw;generalize eQ q.bt=l at*;generalize nJ q=U at*;obtain⟨k,p0,r0,a,s0,t0,u0,v0,rfl⟩:=qC q;simp only[bG,bg,ck,b7]at g1 g2 g3|-;generalize m0:l.map h9=L;have h0:aA L=aA l:=by rw[<-m0,bj]
 have w0:∀i (G:i<aA l) (u:i<aA L),L[i]=h9 l[i]:=λi G u=>by subst m0;simp
 generalize M:l.map fE=P at*;have o:aA P=aA l:=by rw[<-M,bj]
 have i0:∀i (G:i<aA l) (u:i<aA P),P[i]=fE l[i]:=λi G u=>by subst M;simp
 refine gO Tryz.f258.eq_1 λw y=>?_;refine S4 @ur g1.bE g2.bE @cm ?_
 refine lF 0 (aA l) (λi T h=>T 28=.fz (P.map bQ)/\ T 29=iV (aA P)/\ T 30=iV i/\ T 5=.fz (l.map λx=>[bV<|bU x==2])/\ T 7=.cz 26 1/\ T 8=.cz 27 1/\ T 1=.aR 1 1 0 0/\ T 9=bV (sv<|L.take i)/\ h.y=y/\ h.o 1=⟨1,0,.cells aa ab 35 12 [[iV k,iV p0,iV r0,iV a.kind,bV a.fF,uV a.fe,VV.fz<|aq ed a.cy,sV a.name,VV.fz<|aq bc s0,uV t0,VV.fz<|aq gw u0,VV.fz<|aq e7 v0]]⟩/\
  (∀j (u:j<aA L),j<i->(!(L[j].1 ==[])&&(L.take j).any (λq=>q.1==L[j].1))=ab)/\ (∃m A,h.o 26=⟨1,m,.map<|A.map<|hL kS⟩/\ ∀k,mP A k=(L.take i).any (λp=>!(p.1==[])&&p.1==k))/\ ∃m A,h.o 27=⟨1,m,.map<|A.map<|hL kS⟩/\ ∀k,mP A k=vO (L.take i) k) ?_ ?_ ?_
 refine S0 ?_;exact⟨aM,aM,λj u h=>absurd h<|gH _,⟨0,[],aM,λk=>rfl⟩,0,[],aM,λk=>rfl⟩
 ·rintro i T h G ⟨n,t,z,D,b,e,g,Z,E,o1,Y,⟨m1,A,S,f0⟩,m2,B,f,Q⟩;have j0:i<9223372036854775807:=aW;have u:i<aA L:=aW;have d:i<aA P:=aW;have C:=w0 i G u;have J:=i0 i G d;have r:=L7 l i G;have a0:=f0 (fE l[i]).name;have b0:=KF (l:=L) (done:=[]) u;have x0:sv (L.take<|i+1)=(sv (L.take i)||(!((fE l[i]).name==[])&&(bU l[i]==2))):=by unfold sv;rw[vb u,C]
  rw[x0];simp only[vO,vb u,C]at b0 Q|-;generalize C0:l[i]=x at*;generalize c0:(fE x).name=N at*;cases I:N==[];cases g0:mP A N;have d0:(L.take i).any (λp=>p.1==N)=ab:=by rw[<-Wo I,<-a0,g0]
  refine bq n t z D b e g Z o1 S f (an (a6 d)<|an @bd<|an J<|an @ur<|an @H_<|an r<|an I<|an g0 c0) ?_;refine⟨E,λj V k0=>?_,⟨_,_,aM,λk=>?_⟩,_,_,aM,λk=>?_⟩;by_cases O:j<i;exact Y j V O;have:j=i:=aW;subst this;rw[C];simp only[c0,d0,Fi];rw[yS,f0];cases e0:k==N;have:(N==k)=ab:=by rw[yi];exact e0
  rw[this,tD];rfl;have:=zU e0;subst this;simp;rw[yS,Q];cases e0:k==N;have:(N==k)=ab:=by rw[yi];exact e0
  simp only[this,br,mB,tD];have:=zU e0;subst this;rw[py]at d0;have:((L.take i).any λp=>!(p.1==[])&&(p.1==k)&&!p.2)=ab:=by rw[py];intro p y0 o0;simp only[bW]at o0;exact d0 p y0 o0.1.2
  rw[this];simp;have d0:(L.take i).any (λp=>p.1==N)=aa:=by rw[<-Wo I,<-a0,g0]
  refine bq n t z D b e g Z o1 S f (an (a6 d)<|an @bd<|an J<|an @ur<|an @H_<|an r<|an I<|an g0 c0) ?_;rw[b0<|by rw[I,b7,d0];rfl,E];rfl;refine bq n t z D b e g Z o1 S f (an (a6 d)<|an @bd<|an J<|an @ur<|an @H_<|an r<|an I c0) ?_;refine⟨E,λj V k0=>?_,⟨_,_,aM,f0⟩,_,_,aM,Q⟩;by_cases O:j<i;exact Y j V O;have:j=i:=aW;subst this;rw[C];simp only[c0,I,px,mB]
 rintro T h ⟨n,t,z,D,b,e,g,Z,E,o1,Y,⟨m1,A,S,f0⟩,m2,B,f,Q⟩;have Y:kE [] L=ab:=KG λi G=>Y i G aW;have z0:L.take (aA l)=L:=by rw[<-h0,bP]
 rw[z0]at Z Q;rw[<-o]at z;rw[Y];refine eN n t z D b e g Z o1 g3.bE @cm ?_;have Q:∀k,mP B k=vO L k:=Q;refine lF 2 (aA U) (λi T h=>T 62=.fz (sL U)/\ T 63=iV (aA U)/\ T 64=iV i/\ T 8=.cz 27 1/\ T 9=bV (sv L||(U.take i).any (λs=>!vO L s))/\ h.y=y/\ h.o 27=⟨1,m2,.map<|B.map<|hL kS⟩) ?_ ?_ ?_;refine S2 e Z ?_;exact⟨aM,by rw[i',List.any_nil,tD],E,f⟩;rintro i T h G ⟨c,W,F,e,Z,E,f⟩;have j0:i<9223372036854775807:=aW;have l0:=Q U[i];rw[vb G,<-Bool.or_assoc];refine fm c W F e Z f (a6 G) @bd @ur l0 ?_;exact E;rintro T h ⟨c,W,F,e,Z,E,f⟩;rw[bP]at Z;refine S5 c W F e Z ?_;rw[E]
def JZ{D:a_}{h:H}{t u s d ver eT sz:Nat}{es new:aB}{y:VV}(f:b6 (h.o s) es ver eT sz)(C:es≠[])(hn:aA es<536870912)(m:aA new<536870912)(Q:kF h y=.ok (ab,new))(V:lZ D t u=.ok (eT,sz))(J:fW sz new=aa):
 kR D h t u (b9 es s ver) y d=.ok (b9 (es++new) s<|ver+1,h.new s<|.cells ab ab eT sz<|es++new):=by
 cases es with
 |nil=>exact absurd aM C
 |cons a es=>have⟨l,p⟩:=f;have⟨U,p⟩:=p aY;have X:ah (aA (a::es)+aA new) (2^30)=aa:=at2;have A:ah (aA new) (2^30)=aa:=at2;show kR D h t u (.bh s ver 0<|aA<|a::es) y d=_;rw[JY];simp only[V,Q,aO,J,A,iJ,a8,kJ,p,jb,X,AX,j',gX];show _=(.ok (VV.bh s (ver+1) 0<|aA<|(a::es)++new,_):R<|VV×H);rw[cN]
def ab9{l:List ba}{i:Nat}(G:i<aA l):hI (l.take<|i+1)=hI (l.take i)++eA l[i]:=by
 induction l generalizing i with
 |nil=>exact absurd G<|gH _
 |cons n l I=>
  cases i with
  |zero=>simp[hI]
  |succ i=>have:=I<|ka G;simp only[j7,hI,this,List.getElem_cons_succ,eF]
mutual
def FN:∀n,aA (eA n)=lv n
 |.mk k M F a W=>by simp only[eA,lv,cr,JR W]
def JR:∀l,aA (hI l)=l7 l
 |[]=>rfl
 |n::l=>by simp only[hI,l7,cN,FN n,JR l]
end
def Ou:∀n,dt n->lv n<1048576->aS VP 346 [.agg<|bc n] (.fz<|(eA n).map bc)
 |.mk k M F a W,e,m=>by
  rw[dt]at e;have⟨c,f,r⟩:=e;rw[lv]at m;have I:∀i (G:i<aA W),aS VP 346 [.agg<|bc W[i]] (.fz<|(eA W[i]).map bc):=λi G=>Ou W[i] (r _<|bD G) aw8;rw[eA];refine gO Tryz.f346.eq_1 λw y=>?_;refine S1 @bg ?_;refine lF 0 (aA W) (λi T h=>T 1=.aR 1 1 0 0/\ T 4=iV i/\ h.y=y/\ h.o 1=⟨1,0,.cells aa ab 31 9 [bc<|.mk k M F a W]⟩/\ ∃v,T 3=b9 ((ba.mk k M F a W::hI (W.take i)).map bc) 6 v/\ b6 (h.o 6) ((ba.mk k M F a W::hI (W.take i)).map bc) v 31 9) ?_ ?_ ?_;refine S1 @bg ?_;refine⟨aM,1,?_,?_⟩;simp only[i',hI,cL,i_,bg];rfl;simp only[i',hI,cL,i_,bg];exact⟨aM,λ_=>⟨0,aM⟩⟩;rintro i T h G ⟨g,Q,O,E,v,A,b⟩;have j:aA ((ba.mk k M F a W::hI (W.take i)).map bc)<536870912:=by rw[bj,cr,JR];have:=Rn W i;omega
  have U:aA ((eA W[i]).map bc)<536870912:=by rw[bj,FN];exact aw8
  have J:=JZ (D:=VP.D) (t:=29) (u:=29) (d:=21) (y:=.fz<|(eA W[i]).map bc) b aY j U aM P9<|oe th _;have X:(ba.mk k M F a W::hI (W.take<|i+1)).map bc=(ba.mk k M F a W::hI (W.take i)).map bc++(eA W[i]).map bc:=by rw[ab9 G,<-dg];rfl
  rw[X];generalize(ba.mk k M F a W::hI (W.take i)).map bc=L at*;rw[bg]at E;refine fm @bg g A Q E (a6 G) @bd ((I i G).bE) @cm J ?_;exact⟨O,_,aM,by rw[b.1];exact auh⟩;exact avr
 termination_by n=>n
 decreasing_by
  have:=j6<|bD G;simp only[ba.mk.sizeOf_spec];omega
def vP(l:List ba):Nat:=aA<|l.filter ny
def Be(q:cR):Bool:=(eA q.bt).any pK||(ax (12<(vP (eA q.bt):Int))||ax (4<(aA q.k_:Int))||ax (4<(aA q.kW:Int)))
def ar5(q:cR)(e:gR q):aS VP 272 [.agg<|bG q] (bV<|Be q):=by
 have g:=Ou q.bt e.1.1 e.2;have c:=FN q.bt;have m:=e.2;obtain⟨k,F,f,a,W,u,v,Z,rfl⟩:=qC q;simp only[bG,bg,ck,b7,Be]at g c m|-;generalize eA (.mk k F f a W)=l at*;refine gO Tryz.f272.eq_1 λw y=>?_;refine S2 g.bE @cm ?_;refine lF 0 (aA l) (λi T h=>T 1=.aR 1 1 0 0/\ T 4=.fz (l.map bc)/\ T 5=iV i/\ T 3=iV (vP<|l.take i)/\ h=(H.empty y).new 1 (.cells aa ab 35 12 [[iV k,iV F,iV f,iV a.kind,bV a.fF,uV a.fe,VV.fz<|aq ed a.cy,sV a.name,VV.fz<|aq bc W,uV u,VV.fz<|aq gw v,VV.fz<|aq e7 Z]])/\ (l.take i).any pK=ab) ?_ ?_ ?_;refine S0 ?_;exact auM;rintro i T h G ⟨P,Q,Y,A,rfl,M⟩;have r:i<9223372036854775807:=aW;have s1:=λh=>gI (p:=pK) G h;have s2:=gJ (p:=pK) G M;have S:vP (l.take i)<9223372036854775807:=by have:=tF ny<|l.take i;rw[ep]at this;unfold vP;omega
 have B:vP (l.take<|i+1)=vP (l.take i)+(bif ny l[i]then 1 else 0):=by unfold vP;rw[ej G,ry,cN];cases s:ny l[i]<;>simp[s]
 rw[B];generalize s:l[i]=x at*;have⟨N,n,L,o,O⟩:=x;simp only[pK,ny]at s1 s2|-;cases d:(N==1)||(N==2);refine S9 P A Q Y s @bg (a6 G) @bd d ?_;exact⟨λh=>by rw[s1 h];rfl,λh=>⟨aM,s2 h⟩⟩;refine S9 P A Q Y s @bg (a6 G) @bd d ?_;exact av1;rintro T h ⟨P,Q,Y,A,rfl,M⟩;rw[bP]at M A;exact S5 P A Q Y M tr
def ar7(q:cR)(e:gR q):aS VP 275 [.agg<|bG q] (bV<|!(eA q.bt).any pj&&ax (q.iI<=10000)):=by have g:=Ou q.bt e.1.1 e.2;have c:=FN q.bt;have m:=e.2;obtain⟨k,F,f,a,W,u,v,Z,rfl⟩:=qC q;simp only[bG,bg,ck,b7]at g c m|-;generalize eA (.mk k F f a W)=l at*;refine gO Tryz.f275.eq_1 λw y=>?_;refine S2 g.bE @cm ?_;refine lF 0 (aA l) (λi T h=>T 1=.aR 1 1 0 0/\ T 3=.fz (l.map bc)/\ T 4=iV i/\ h=(H.empty y).new 1 (.cells aa ab 35 12 [[iV k,iV F,iV f,iV a.kind,bV a.fF,uV a.fe,VV.fz<|aq ed a.cy,sV a.name,VV.fz<|aq bc W,uV u,VV.fz<|aq gw v,VV.fz<|aq e7 Z]])/\ (l.take i).any pj=ab) ?_ ?_ ?_;refine S0 ?_;exact at1;rintro i T h G ⟨P,A,Q,rfl,M⟩;have s1:=λh=>gI (p:=pj) G h;have s2:=gJ (p:=pj) G M;generalize s:l[i]=x at*;have⟨N,n,L,B,O⟩:=x;simp only[pj]at s1 s2|-;refine S8 P A Q s @bg (a6 G) @bd @Ir ?_;exact av1;rintro T h ⟨P,A,Q,rfl,M⟩;rw[bP]at M;exact S4 P A Q M tr
mutual
def so(r:Bool):ba->Bool
 |.mk k _ _ _ W=>bif k==2 then !r else pt k (aA W-1) 0 W
def pt(k last:Int)(i:Nat):List ba->Bool
 |[]=>aa
 |x::l=>!r8 k i last x&&(so (k !=3) x&&pt k last (i+1) l)
end
def Zn{k last:Int}:∀{l:List ba} {j i:Nat} (G:i<aA l),(!r8 k (i+j:Nat) last l[i]&&so (k !=3) l[i])=ab->pt k last j l=ab
 |x::l,j,0,_,h=>by simp only[m_,bZ]at h;rw[pt,<-Bool.and_assoc,h];rfl
 |x::l,j,i+1,G,h=>by have:=Zn (k:=k) (last:=last) (l:=l) (j:=j+1) (i:=i) (ka G) au0;rw[pt,this];simp
def Zm{k last:Int}:∀{l:List ba} {j i:Nat} (G:i<aA l),pt k last j (l.take i)=aa->(!r8 k (i+j:Nat) last l[i]&&so (k !=3) l[i])=aa->pt k last j (l.take<|i+1)=aa
 |x::l,j,0,_,_,h=>by simp only[m_,bZ]at h;rw[j7,pt,<-Bool.and_assoc,h];simp[pt]
 |x::l,j,i+1,G,p,h=>by simp only[j7]at p|-;rw[pt,bW,bW]at p;rw[pt,p.1,p.2.1,Zm (ka G) p.2.2 au0];rfl
def aaN:∀(n:ba) (r:Bool),dt n->aS VP 276 [.agg<|bc n,bV r] (bV<|so r n)
 |.mk k M F a W,r,e=>by
  rw[dt]at e;have⟨c,f,s⟩:=e;have I:∀i (G:i<aA W) b,aS VP 276 [.agg<|bc W[i],bV b] (bV<|so b W[i]):=λi G b=>aaN W[i] b<|s _<|bD G;have P:av .i64 ((aA W:Int)-1)=(aA W:Int)-1:=by unfold bk at f;exact d' _ aW aW
  rw[so];cases p:k==2;refine gO Tryz.f276.eq_1 λw y=>?_;refine Z1 @bg ?_;refine lF 0 (aA W) (λi T h=>T 1=bV r/\ T 2=.aR 2 1 0 0/\ T 5=iV ((aA W:Int)-1)/\ T 6=iV i/\ h=(H.empty y).new 2 (.cells aa ab 31 9 [bc<|.mk k M F a W])/\ pt k ((aA W:Int)-1) 0 (W.take i)=aa) ?_ ?_ ?_;refine S1 @bg ?_;exact at1;rintro i T h G ⟨g,C,Y,N,rfl,q⟩;have s1:=Zn (k:=k) (last:=(aA W:Int)-1) (j:=0) G;have s2:=Zm (k:=k) (last:=(aA W:Int)-1) (j:=0) G q;have J:=I i G<|k !=3;generalize m:W[i]=x at*;generalize so (k !=3) x=B at*;have⟨A,u,L,o,O⟩:=x;simp only[wG,r8,bU]at s1 s2;rw[bg]at J;refine Z5 @bg (a6 G) @bd @Ir J.aP ?_;refine⟨λh=>by rw[s1<|by rw[h];rfl],λh=>⟨λe=>by rw[s1<|by rw[h];cases B<;>simp_all],λe=>s2<|by rw[h];cases B<;>simp_all⟩⟩;rintro T h ⟨g,C,Y,N,rfl,q⟩;rw[bP]at q;exact avq;refine gO Tryz.f276.eq_1 λw y=>?_;exact avq
 termination_by n=>n
 decreasing_by
  have:=j6<|bD G;simp only[ba.mk.sizeOf_spec];omega
def Ov(l:List aF)(s:aF)(P:aA l<4194304):aS VP 350 [.fz<|sL l,sV s] (iV<|k' (λk=>k==s) l):=by refine gO Tryz.f350.eq_1 λw y=>?_;refine S0 ?_;refine lF 0 (aA l) (λi T h=>T 0=.fz (sL l)/\ T 1=sV s/\ T 5=iV i/\ h=H.empty y/\ (l.take i).any (λk=>k==s)=ab) ?_ ?_ ?_;refine S0 ?_;exact at1;rintro i T h G ⟨t,g,Y,rfl,q⟩;refine Z2 (a6 G) @bd ?_;have⟨x,o⟩:=vc (p:=λk=>k==s) G q;exact auk;rintro T h ⟨t,g,Y,rfl,q⟩;exact Z1 (wJ q) tr
def Dz{α:Type}(p:α->Bool)(l:List α):ax (k' p l<0)=!l.any p:=by
 rw[<-vD]
 grind
def ZS(x:List aF)(s:aF):jh x s=bif !x.any (λk=>k==s)then x++[s]else x:=by unfold jh;cases x.any λk=>k==s<;>rfl
def PA{es:aB}{s d a b:Nat}(B:s=a\/ s=b)(t:d=a\/ d=b):jl es s d=a\/ jl es s d=b:=by
 cases es with
 |nil=>exact t
 |cons _ _=>exact B
def asq(q:cR)(z:q5 q):aS VP 349 [.agg<|bG q] (.fz<|sL<|nJ q):=by
 obtain⟨k,F,f,a,W,n,Y,Z,rfl⟩:=qC q;have⟨L,e,X⟩:=z;simp only at L e X;generalize J:bG ⟨.mk k F f a W,n,Y,Z⟩=Q;simp only[bG,bg,ck,b7]at J;subst J;refine gO Tryz.f349.eq_1 λw y=>?_;refine S0 ?_;refine lF 0 (aA Y) (λi T h=>T 1=.aR 1 1 0 0/\ T 4=iV i/\ h.y=y/\ h.o 1=⟨1,0,.cells aa ab 35 12 [[iV k,iV F,iV f,iV a.kind,bV a.fF,uV a.fe,VV.fz<|aq ed a.cy,sV a.name,VV.fz<|aq bc W,uV n,VV.fz<|aq gw Y,VV.fz<|aq e7 Z]]⟩/\ ∃s v,T 3=b9 (sL<|((Y.take i).map λv=>v.agg.name).foldl jh []) s v/\ b6 (h.o s) (sL<|((Y.take i).map λv=>v.agg.name).foldl jh []) v 9 1/\ (s=32\/ s=57)) ?_ ?_ ?_;refine S0 ?_;exact⟨aM,32,0,aM,⟨aM,λh=>absurd aM h⟩,.inl aM⟩;rintro i T h A ⟨P,b,U,E,s,v,G,j,B⟩;have l:i<9223372036854775807:=by unfold bk at e;omega
 rw[GM (λv:nS=>v.agg.name) A,ZS];have o:=vw ((Y.take i).map λv=>v.agg.name) [];rw[bj,ep]at o;generalize((Y.take i).map λv=>v.agg.name).foldl jh []=p at*;have I:aA p<4194304:=by unfold bk at e;simp only[f_]at o;omega
 have g:=Ov p Y[i].agg.name I;have V:aA (sL p)<536870912:=auC;have M:yQ h 11 (h.o s) (sL p) s v=.ok (.fz<|sL p,u5 (sL p) s):=gf j _ _ _;generalize m:Y[i]=x at*;cases N:p.any<|λk=>k==x.agg.name;have r:=wK (D:=VP.D) (t:=387) (u:=387) (d:=32) (y:=.bh 31 ((h.o 31).ver+1) 0 1) (c:=[sV x.agg.name]) (h:=h.new 31<|.cells ab ab 9 1 [[sV x.agg.name]]) (s:=s) (by refine N0 ?_;exact j) V aug FO aM;have S:=PA (es:=sL p) (s:=s) (d:=32) B<|.inl aM;generalize jl (sL p) s 32=t at*;refine bq P G b E (a6 A) @bd m @Di M g.aP @Dz (an N r) ?_;refine⟨U,t,(h.o t).ver+1,by rw[uJ],?_,S⟩;have a0:t≠31:=aW;refine N0 ?_;rw[uJ];exact auh;exact avU;rintro T h ⟨P,b,U,E,s,v,G,j,B⟩;rw[bP]at G j;have C:=vw (Y.map λv=>v.agg.name) [];rw[bj]at C;unfold nJ;rw[jQ];generalize(Y.map λv=>v.agg.name).foldl jh []=O at*;refine S4 P G b E ?_;refine lF 2 (aA Z) (λi T h=>T 1=.aR 1 1 0 0/\ T 5=iV i/\ h.y=y/\ h.o 1=⟨1,0,.cells aa ab 35 12 [[iV k,iV F,iV f,iV a.kind,bV a.fF,uV a.fe,VV.fz<|aq ed a.cy,sV a.name,VV.fz<|aq bc W,uV n,VV.fz<|aq gw Y,VV.fz<|aq e7 Z]]⟩/\ ∃s v,T 3=b9 (sL<|((Z.take i).map λv=>v.name).foldl jh O) s v/\ b6 (h.o s) (sL<|((Z.take i).map λv=>v.name).foldl jh O) v 9 1/\ (s=32\/ s=57)) ?_ ?_ ?_;refine S3 P G E ?_;exact⟨aM,U,s,v,aM,j,B⟩;rintro i T h A ⟨P,b,U,E,s,v,G,j,B⟩;have l:i<9223372036854775807:=by unfold bk at X;omega
 rw[GM (λv:ln=>v.name) A,ZS];have o:=vw ((Z.take i).map λv=>v.name) O;rw[bj,ep]at o;generalize((Z.take i).map λv=>v.name).foldl jh O=p at*;have I:aA p<4194304:=by unfold bk at e X;simp only[f_]at C;omega
 have g:=Ov p Z[i].name I;have V:aA (sL p)<536870912:=auC;have M:yQ h 11 (h.o s) (sL p) s v=.ok (.fz<|sL p,u5 (sL p) s):=gf j _ _ _;generalize m:Z[i]=x at*;cases N:p.any<|λk=>k==x.name;have r:=wK (D:=VP.D) (t:=387) (u:=387) (d:=57) (y:=.bh 56 ((h.o 56).ver+1) 0 1) (c:=[sV x.name]) (h:=h.new 56<|.cells ab ab 9 1 [[sV x.name]]) (s:=s) (by refine N0 ?_;exact j) V aug FO aM;have S:=PA (es:=sL p) (s:=s) (d:=57) B<|.inr aM;generalize jl (sL p) s 57=t at*;refine bq P G b E (a6 A) @bd m @Di M g.aP @Dz (an N r) ?_;refine⟨U,t,(h.o t).ver+1,by rw[uJ],?_,S⟩;have a0:t≠56:=aW;refine N0 ?_;rw[uJ];exact auh;exact avU;rintro T h ⟨P,b,U,E,s,v,G,j,B⟩;rw[bP]at G j;exact S6 P G b E (gf j) U tr
def lB(L:List<|List UInt8×Bool):List (List UInt8):=(L.filter λp=>!(p.1==[])&&!p.2).map Prod.fst
def aaM(q:cR)(e:gR q):aS VP 274 [.agg<|bG q] (.bn [.fz<|sL<|bif kE [] ((eQ q.bt).map h9)then[]else lB<|(eQ q.bt).map h9,bV<|!kE [] ((eQ q.bt).map h9)]):=by
 have n:=IW q.bt ⟨e.1.1,e.2⟩;have A:=aa2 q.bt ⟨e.1.1,e.2⟩;have e1:(bif bR 200 q.bt then((gh q.bt).map fE).map bQ else[])=((eQ q.bt).map fE).map bQ:=auP;have e2:(bif bR 200 q.bt then(gh q.bt).map (λx=>[bV<|bU x==2])else[])=(eQ q.bt).map λx=>[bV<|bU x==2]:=auP;have u0:aA (eQ q.bt)<1048576:=by have:=uk q.bt;have:=e.2;unfold eQ;exact au5
 rw[e1]at n;rw[e2]at A;generalize eQ q.bt=l at*;obtain⟨k,v0,w0,a,x0,y0,z0,A0,rfl⟩:=qC q;simp only[bG,bg,ck,b7]at n A|-;generalize X:l.map h9=L;have S:aA L=aA l:=by rw[<-X,bj]
 have k0:∀i (P:i<aA l) (u:i<aA L),L[i]=h9 l[i]:=λi P u=>by subst X;simp
 generalize F:l.map fE=t at*;have B:aA t=aA l:=by rw[<-F,bj]
 have U:∀i (P:i<aA l) (u:i<aA t),t[i].name=L[i].1 :=λi P u=>by subst F;subst X;simp
 refine gO Tryz.f274.eq_1 λw y=>?_;refine S3 n.bE A.bE @cm ?_;refine lF 0 (aA t) (λi T h=>T 4=.fz (t.map bQ)/\ T 6=.fz (l.map λx=>[bV<|bU x==2])/\ T 9=iV i/\ h.y=y/\ (∀j (u:j<aA L),j<i->(!(L[j].1 ==[])&&(L.take j).any (λq=>q.1==L[j].1))=ab)/\ ∃v,T 8=b9 (sL<|lB<|L.take i) 73 v/\ b6 (h.o 73) (sL<|lB<|L.take i) v 9 1) ?_ ?_ ?_;exact avH
 ·rintro i T h P ⟨s,d,Z,E,Y,v,m,z⟩;have l0:i<9223372036854775807:=aW;have u:i<aA L:=aW;have b:i<aA l:=aW;have J:=U i b P;have C:=L7 l i b;have M:=k0 i b u;have I:=KF (l:=L) (done:=[]) u;rw[b7]at I;have m0:lB (L.take<|i+1)=lB (L.take i)++(bif !(L[i].1 ==[])&&!L[i].2 then[L[i].1]else[]):=by
   unfold lB;rw[ej u,ry,dg];congr 1;cases i0:(!(L[i].1 ==[])&&!L[i].2);rw[List.filter_cons_of_neg<|by simp only[i0];decide];rfl;rw[List.filter_cons_of_pos<|by exact i0];rfl
  have o0:aA (lB<|L.take i)<1048576:=by have:=tF (λp:List UInt8×Bool=>!(p.1==[])&&!p.2)<|L.take i;rw[ep]at this;unfold lB;exact auC
  have D:∀j (a0:j<aA L),j<i->(L[j].1 ==L[i].1)=aa->(L.take i).any (λq=>q.1==L[i].1)=aa:=λj a0 O p0=>by have r0:j<aA (L.take i):=aw5;refine gI (p:=λq:List UInt8×Bool=>q.1==L[i].1) r0 ?_;rw[List.getElem_take];exact p0
  have o:(bU l[i]==2)=L[i].2 :=by rw[M]
  rw[m0];generalize V:L[i].1 =N at*;generalize s0:L[i].2 =g at*;rw[o]at C;refine S6 s d Z m (a6 P) @bd ?_;refine ot (G:=λx=>dL (cJ 1<|dL (cJ 2 x) _) _) i (λj T b0=>T 4=.fz (t.map bQ)/\ T 6=.fz (l.map λx=>[bV<|bU x==2])/\ T 9=iV i/\ T 10=iV j/\ T 8=b9 (sL<|lB<|L.take i) 73 v/\ b0=h/\ (!(N==[])&&(L.take j).any (λq=>q.1==N))=ab) ?_ ?_ ?_;refine S4 s d Z m ?_;exact⟨aM,by rw[i',List.any_nil,Fi]⟩;rintro j T b0 O ⟨s,d,Z,r,m,rfl,c0⟩;have d0:j<aA t:=aW;have e0:j<aA l:=aW;have Q:j<aA L:=aW;have f0:=U j e0 d0;have g0:(L.take<|j+1).any (λq=>q.1==N)=((L.take j).any (λq=>q.1==N)||L[j].1 ==N):=vb Q;have c:=D j Q O;refine eN s d Z r m J f0 (a6 O) (a6 P) @bd @Ir ?_;refine⟨λW=>?_,λW=>?_⟩;rw[bW]at W;rw[I<|by rw[W.1,c W.2];rfl,E];rfl;rw[g0];cases B0:(N==[])<;>simp_all;rintro T b0 ⟨s,d,Z,r,m,rfl,c0⟩;have h0:aA (sL<|lB<|L.take i)<536870912:=auC;cases j0:(!(N==[])&&!g);refine fm s d Z r m J (a6 P) @bd C j0 ?_;exact⟨E,λj Q O=>avV,v,by rw[ea],by rw[ea];exact z⟩;refine eN s d Z r m J (a6 P) @bd C j0 (iM z h0) ?_;exact⟨E,λj Q O=>avV,v+1,by rw[uJ],by rw[uJ,z.1];exact auh⟩
 rintro T h ⟨s,d,Z,E,Y,v,m,z⟩;have Y:kE [] L=ab:=KG λi P=>Y i P aW;have t0:L.take (aA t)=L:=by rw[B,<-S,bP]
 rw[t0]at m z;exact S7 s d Z m (gf z) E Y tr
def ar8(q:cR)(e:gR q):aS VP 277 [.agg<|bG q] (bV<|!sv ((eQ q.bt).map h9)&&!((nJ q).any λs=>!((bif kE [] ((eQ q.bt).map h9)then[]else lB<|(eQ q.bt).map h9).any λk=>k==s))):=by
 have n:=IW q.bt ⟨e.1.1,e.2⟩;have d:=aa2 q.bt ⟨e.1.1,e.2⟩;have X:=aaM q e;have I:=asq q e.1;have h0:aA (nJ q)<4194304:=by have h:=vw (q.k_.map (λv=>v.agg.name)++q.kW.map (λa=>a.name)) [];have f:=e.1.2.1;have h2:=e.1.2.2;unfold bk at f h2;simp only[cN,bj,f_]at h;unfold nJ;omega
 have P:(bif bR 200 q.bt then((gh q.bt).map fE).map bQ else[])=((eQ q.bt).map fE).map bQ:=auP;have e2:(bif bR 200 q.bt then(gh q.bt).map (λx=>[bV<|bU x==2])else[])=(eQ q.bt).map λx=>[bV<|bU x==2]:=auP;have i0:aA (eQ q.bt)<1048576:=by have:=uk q.bt;have:=e.2;unfold eQ;exact au5
 have j0:aA (bif kE [] ((eQ q.bt).map h9)then[]else lB<|(eQ q.bt).map h9)<1048576:=by have:=tF (λp:List UInt8×Bool=>!(p.1==[])&&!p.2)<|(eQ q.bt).map h9;rw[bj]at this;cases kE [] ((eQ q.bt).map h9);show aA (lB _)<_;unfold lB;exact auC;show 0<_;omega
 rw[P]at n;rw[e2]at d;generalize(bif kE [] ((eQ q.bt).map h9)then[]else lB<|(eQ q.bt).map h9)=K at*;generalize eQ q.bt=l at*;generalize nJ q=U at*;obtain⟨k,a0,b0,a,c0,d0,e0,f0,rfl⟩:=qC q;simp only[bG,bg,ck,b7]at n d X I|-;generalize j:l.map h9=L at*;have Q:aA L=aA l:=by rw[<-j,bj]
 have g0:∀i (G:i<aA l) (u:i<aA L),L[i]=h9 l[i]:=λi G u=>by subst j;simp
 generalize F:l.map fE=S at*;have B:aA S=aA l:=by rw[<-F,bj]
 have c:∀i (G:i<aA l) (u:i<aA S),S[i].name=L[i].1 :=λi G u=>by subst F;subst j;simp
 refine gO Tryz.f277.eq_1 λw y=>?_;refine S3 n.bE d.bE @cm ?_;refine lF 0 (aA S) (λi T h=>T 1=.aR 1 1 0 0/\ T 3=.fz (S.map bQ)/\ T 5=.fz (l.map λx=>[bV<|bU x==2])/\ T 7=iV i/\ h.y=y/\ h.o 1=⟨1,0,.cells aa ab 35 12 [[iV k,iV a0,iV b0,iV a.kind,bV a.fF,uV a.fe,VV.fz<|aq ed a.cy,sV a.name,VV.fz<|aq bc c0,uV d0,VV.fz<|aq gw e0,VV.fz<|aq e7 f0]]⟩/\ sv (L.take i)=ab) ?_ ?_ ?_;refine S0 ?_;exact at1;rintro i T h G ⟨P,Z,Y,m,E,V,M⟩;have D:i<9223372036854775807:=aW;have u:i<aA L:=aW;have b:i<aA l:=aW;have O:=c i b G;have C:=L7 l i b;have W:=g0 i b u;have s1:=λh=>gI (p:=λp:List UInt8×Bool=>!(p.1==[])&&p.2) u h;have s2:=gJ (p:=λp:List UInt8×Bool=>!(p.1==[])&&p.2) u M;have o:(bU l[i]==2)=L[i].2 :=by rw[W]
 rw[o]at C;generalize L[i].1 =N at*;generalize L[i].2 =g at*;refine S9 P Z Y m V O (a6 G) @bd C ?_;exact⟨λJ=>by rw[show sv L=aa from s1<|by rw[Bool.and_comm];exact J,E];rfl,λJ=>⟨E,s2<|by rw[Bool.and_comm];exact J⟩⟩;rintro T h ⟨P,Z,Y,m,E,V,M⟩;rw[B,<-Q,bP]at M;refine S8 P Z Y m V X.bE I.bE @cm ?_;refine lF 2 (aA U) (λi T h=>T 8=.fz (sL K)/\ T 10=.fz (sL U)/\ T 11=iV i/\ h.y=y/\ (U.take i).any (λs=>!K.any λk=>k==s)=ab) ?_ ?_ ?_;exact awq;rintro i T h G ⟨z,r,t,E,A⟩;have D:i<9223372036854775807:=aW;have s1:=λh=>gI (p:=λs=>!K.any λk=>k==s) G h;have s2:=gJ (p:=λs=>!K.any λk=>k==s) G A;have g5:=Ov K U[i] aW;refine S7 z r t (a6 G) @bd g5.aP @Dz ?_;exact⟨λJ=>by rw[s1 J,E,M];rfl,λJ=>⟨E,s2 J⟩⟩;rintro T h ⟨z,r,t,E,A⟩;rw[bP]at A;exact S6 z r t M A E tr
def ar4(q:cR)(X:q5 q):aS VP 271 [.agg<|bG q] (iV<|pM q):=by
 have j:=X.2.1;have d:=X.2.2;have t:aS VP 218 [.agg<|bc q.bt,iV 1] (bV<|bR 200 q.bt):=Oo 200 q.bt X.1 aW;unfold pM;generalize bR 200 q.bt=S at*;obtain⟨k,F,f,a,W,u,v,Z,rfl⟩:=qC q;simp only[bG,bg,ck,b7]at t j d|-;have O:∀x:nS,t_ x=(!pG x.agg||!qY x.cond):=λx=>rfl;cases P:(!S||ax (99999<u));have J:S=aa:=by cases S<;>simp_all
 subst J;rw[px,jP]at P;simp only[a8,P,jP];refine gO Tryz.f271.eq_1 λw y=>?_;refine S2 t.aP P ?_;refine lF 0 (aA v) (λi T h=>T 1=.aR 1 1 0 0/\ T 3=iV i/\ h=(H.empty y).new 1 (.cells aa ab 35 12 [[iV k,iV F,iV f,iV a.kind,bV a.fF,uV a.fe,VV.fz<|aq ed a.cy,sV a.name,VV.fz<|aq bc W,uV u,VV.fz<|aq gw v,VV.fz<|aq e7 Z]])/\ (v.take i).any t_=ab) ?_ ?_ ?_;refine S0 ?_;exact at1;rintro i T h G ⟨g,A,rfl,M⟩;have Y:i<9223372036854775807:=by unfold bk at j;omega
 have s1:=λh=>gI (p:=t_) G h;have s2:=gJ (p:=t_) G M;rw[O]at s1 s2;generalize s:v[i]=x at*;refine S7 g A (a6 G) @bd s ((aaZ x.agg).aP) ((aa0 x.cond).aP) ?_;exact av1;rintro T h ⟨g,A,rfl,M⟩;rw[bP]at M;refine S2 g A ?_;refine lF 2 (aA Z) (λi T h=>T 1=.aR 1 1 0 0/\ T 4=iV i/\ h=(H.empty y).new 1 (.cells aa ab 35 12 [[iV k,iV F,iV f,iV a.kind,bV a.fF,uV a.fe,VV.fz<|aq ed a.cy,sV a.name,VV.fz<|aq bc W,uV u,VV.fz<|aq gw v,VV.fz<|aq e7 Z]])/\ (Z.take i).any (λa=>!pG a)=ab) ?_ ?_ ?_;refine S1 g ?_;exact at1;rintro i T h G ⟨g,A,rfl,r⟩;have Y:i<9223372036854775807:=by unfold bk at d;omega
 have s1:=λh=>gI (p:=λa=>!pG a) G h;have s2:=gJ (p:=λa=>!pG a) G r;generalize s:Z[i]=x at*;refine S6 g A (a6 G) @bd s ((aaZ x).aP) ?_;exact⟨λh=>by rw[s1 h,yj];rfl,s2⟩;rintro T h ⟨g,A,rfl,r⟩;rw[bP]at r;exact S4 g A M r tr;have e:(bif S then bif ax (99999<u)||v.any t_||Z.any (λa=>!pG a)then(3:Int)else 0 else 3)=3:=by cases S;rfl;rw[px,jP]at P;rw[P];rfl
 simp only[e];refine gO Tryz.f271.eq_1 λw y=>?_;exact S2 t.aP P tr
def IY(q:cR):Int:=c7 (pM q)<|bif Be q then 6 else bif ax (6<bif bR 200 q.bt then fy q.bt else 0)then 22 else bif !(!(eA q.bt).any pj&&ax (q.iI<=10000))then 2 else bif !so aa q.bt then 9 else bif !!kE [] ((eQ q.bt).map h9)then 8 else bif !(!sv ((eQ q.bt).map h9)&&!((nJ q).any λs=>!((bif kE [] ((eQ q.bt).map h9)then[]else lB<|(eQ q.bt).map h9).any λk=>k==s)))then 12 else 0
def Ra(q:cR):pM q=0\/ pM q=3:=by
 unfold pM
 grind
def aaC(q:cR)(e:gR q):aS VP 211 [.agg<|bG q] (iV<|IY q):=by
 have h:=ar4 q e.1;have o:=ar5 q e;have D:=ar6 q.bt e.1.1;have x:=aaM q e;have n:=ar7 q e;have f:=aaN q.bt aa e.1.1;have J:=ar8 q e;unfold IY;generalize(bif kE [] ((eQ q.bt).map h9)then[]else lB<|(eQ q.bt).map h9)=K at*;generalize Be q=T at*;generalize(bif bR 200 q.bt then fy q.bt else 0)=p at*;generalize(bif bR 200 q.bt then(0:Int)else 3)=j at*;generalize(!(eA q.bt).any pj&&ax (q.iI<=10000))=L at*;generalize so aa q.bt=A at*;generalize kE [] ((eQ q.bt).map h9)=B at*;generalize(!sv ((eQ q.bt).map h9)&&!((nJ q).any λs=>!(K.any λk=>k==s)))=V at*;have c:=Ra q;generalize pM q=C at*;obtain⟨k,M,F,a,W,u,v,Z,rfl⟩:=qC q;simp only[bG,bg,ck,b7]at h o D x n f J|-
 rcases c with rfl|rfl
 refine gO Tryz.f211.eq_1 λw y=>?_;exact S9 h.aP o.aP D.aP x.bE n.aP f.aP J.aP @cm c7.eq_1 tr;refine gO Tryz.f211.eq_1 λw y=>?_;exact S2 h.aP c7.eq_1 tr
def eh(q:cR):Int:=c7 (pM q)<|c7 (Bd q)<|c7 (Gg q)<|c7 (EA q)<|c7 (En q)<|Hw q
mutual
def aaa(c:Int):∀n,(ft c n).map Prod.snd=eA n
 |.mk k M F a W=>by simp only[ft,eA,cL,aab _ W]
def aab(c:Int):∀l,(lP c l).map Prod.snd=hI l
 |[]=>rfl
 |n::l=>by simp only[lP,hI,dg,aaa c n,aab c l]
end
def aja{n:ba}(h:bR 200 n=aa):vP (eA n)=aA (gh n):=by rw[<-Of 200 n h 1,<-aaa 1 n,vP,List.filter_map,bj,bj];rfl
def Zp{d:Nat}{k last:Int}(I:∀n,bR d n=aa->∀r,so r n=bif bU n==2 then !r else !(eA n).any pb)(T:∀n,bR d n=aa->bU n=2->(eA n).any pb=ab):∀(l:List ba) (j:Nat),(∀x∈l,bR d x=aa)->pt k last j l=!(oq k last j l||(hI l).any pb)
 |[],j,_=>by rw[pt,oq,hI];rfl
 |x::l,j,h=>by
  have s:=h x aY;rw[pt,oq,hI,zW,Zp I T l (j+1) λy Q=>h y<|by simp[Q],I x s];cases f:(bU x==2)
  grind
  have a:=T x s aum;rw[a];have:r8 k j last x=((k !=3)||((j:Int)==0)||((j:Int)==last)):=by unfold r8;rw[f,oI]
  grind
def aoU:∀(d:Nat) (n:ba),bR d n=aa->bU n=2->(eA n).any pb=ab
 |0,n,h,_=>by simp[bR]at h
 |d+1,.mk k M F a W,h,f=>by have f:k=2:=f;subst f;have:=(zH h).1 rfl;subst this;rfl
def Zq:∀(d:Nat) (n:ba),bR d n=aa->∀r,so r n=bif bU n==2 then !r else !(eA n).any pb
 |0,n,h,_=>by simp[bR]at h
 |d+1,.mk k M F a W,h,r=>by have V:=(zH h).2;rw[so,eA,zX];rw[Zp (λn X t=>Zq d n X t) (aoU d) W 0 V];rfl
def U_(L:List<|aF×Bool)(s:aF):((lB L).any λk=>k==s)=vO L s:=by
 unfold lB vO
 induction L with
 |nil=>rfl
 |cons p L I=>
  rw[zX,<-I];cases h:(!(p.1==[])&&!p.2)
  grind
  grind
def abh(q:cR):eh q=IY q:=by
 unfold eh IY
 rcases Ra q with c|c
 rw[c];have S:bR 200 q.bt=aa:=by cases h:bR 200 q.bt;unfold pM at c;rw[h]at c;cases c;rfl
 have j:eQ q.bt=gh q.bt:=by unfold eQ;rw[S];rfl
 show c7 (Bd q) _=bif Be q then 6 else _
 unfold Bd Be Gg EA En Hw;rw[aja S,Zq 200 _ S,S];simp only[a8,bj,U_];have g:ax (q.iI<=10000)=!ax (10000<q.iI):=by grind
 rw[g];generalize ax (10000<q.iI)=b;generalize(eA q.bt).any pj=o;generalize(eA q.bt).any pb=r;generalize(bU q.bt==2)=P;generalize(eA q.bt).any pK=Q;generalize ax (12<(aA (gh q.bt):Int))=J;generalize ax (4<(aA q.k_:Int))=F;generalize ax (4<(aA q.kW:Int))=p;generalize ax (6<fy q.bt)=z;generalize j:(eQ q.bt).map h9=L;have e:kE [] L=ab->((nJ q).any λs=>!((bif kE [] L then[]else lB L).any λk=>k==s))=(nJ q).any λs=>!vO L s:=λh=>by rw[h];simp only[br,U_]
 generalize E:kE [] L=D at*;cases D;rw[e rfl];generalize((nJ q).any λs=>!vO L s)=Y;generalize sv L=a
 cases Q<;>cases J<;>cases F<;>cases p<;>try rfl
 cases z<;>try rfl
 cases b<;>cases o<;>try rfl
 cases P<;>cases r<;>try rfl
 cases a<;>cases Y<;>rfl
 cases Q<;>cases J<;>cases F<;>cases p<;>try rfl
 cases z<;>try rfl
 cases b<;>cases o<;>try rfl
 cases P<;>cases r<;>rfl;rw[c];rfl
def C7{s d:Nat}{W k:IntKind}(h1:cP VP.D s=.ok (.int W))(a:cP VP.D d=.ok (.int k))(e:IntKind)(n:Int):nZ VP.D s d (.aN<|.int e n)=.ok (bY k<|k.wrap n):=by unfold nZ;rw[h1,a];rfl
def wZ(n:Int):nZ VP.D 3 23 (.aN<|.int .i64 n)=.ok (bY .u64<|av .u64 n):=C7 sq EP _ n
def RC(n:Int):nZ VP.D 23 3 (.aN<|.int .u64 n)=.ok (bY .i64<|av .i64 n):=C7 EP sq _ n
def x8:tw VP.D 3 23=ab:=aV
def YL:tw VP.D 23 3=ab:=aV
def mz(n:Int)(h1:0<=n)(a:n<18446744073709551616):av .u64 n=n:=by show(if(IntKind.u64.signed&&ax (n %18446744073709551616>=9223372036854775808))=aa then n %18446744073709551616-18446744073709551616 else n %18446744073709551616)=n;have e:n %18446744073709551616=n:=aW;rw[e];rfl
def uh{h:H}(n s t ver i o:Nat)(T:Int):cF h (ad n,s) (.aR t ver i o) T=bif ax (0<=T/\ T<(n:Int))then(bif ag (h.o t).ver ver then .ok (.aR t ver i<|o+T.toNat*s)else .error "")else .error "":=rfl
structure p7(r:cf):Prop where
 s1:1<=r.size
 s2:r.size<=64
 f1:1<=r.first
 fn:r.first<=r.next
 n2:r.next<=1099511627777
 fs:r.next-r.first<=r.size
 pl:eE r
def oN(r:cf):Bool:=ax (r.size<1)||ax (64<r.size)||ax (r.first<1)||ax (r.next<r.first)||ax (1099511627777<r.next)||ax (av .u64 r.size<av .u64 (r.next-r.first))
def FR{r:cf}(e:eE r)(h:oN r=ab):p7 r:=by unfold oN at h;simp only[gz,cE]at h;have⟨⟨⟨⟨⟨V,a⟩,d⟩,A⟩,Z⟩,Y⟩:=h;rw[mz _ aW aW,mz _ aW aW]at Y;exact⟨aW,aW,aW,aW,aW,aW,e⟩
def Lx{h:H}{n:Nat}:∀{l:aC},(∀v∈l,∃w,v=.aN w)->d_ (cq h<|n+1) l=.ok (l,[])
 |[],_=>rfl
 |v::l,e=>by obtain⟨w,rfl⟩:=e v aY;have I:=Lx (h:=h) (n:=n) (l:=l) λx s=>e x<|dR _ s;show aO (cq h (n+1)<|.aN w) (λp=>aO (d_ (cq h<|n+1) l) λq=>.ok (p.1::q.1,p.2++q.2))=_;rw[I];rfl
def am6(r:cf):∀v∈du r,∃w,v=.aN w:=by
 intro v Y;unfold du at Y;simp only[mF,dz,List.not_mem_nil,or_false,oL]at Y
 grind
def e5(h:H)(n:Nat)(r:cf):d_ (cq h<|n+1) (du r)=.ok (du r,[]):=Lx<|am6 r
def eI{r:cf}(h:eE r):(du r).take 388=du r:=eM<|by rw[dF h];exact auS
def dq(r:cf)(n:Int):Nat:=((n-1).tmod r.size).toNat
def zv{r:cf}(h:p7 r){n:Int}(hn:1<=n):(n-1).tmod r.size=(dq r n:Int)/\ dq r n<64:=by have V:=Int.tmod_nonneg (a:=n-1) r.size aW;have p:=Int.tmod_lt_of_pos (n-1) (b:=r.size) (by have:=h.s1;omega);have:=h.s2;unfold dq;omega
def XT(a b:Int)(e:b≠0)(q:Bool):ky VP.D .rem 23 (uV a) (uV b) q=.ok (uV<|a.tmod b):=by show aO (hP .rem .u64 .u64 a b) k9=_;rw[Go.Dt.aiq _ _ _ e];rfl
def arC(r:cf)(n:Int)(h:p7 r)(h1:1<=n)(p:n<2199023255552):aS VP 195 [.agg<|du r,uV n] (iV<|dq r n):=by
 have⟨s,m⟩:=zv h h1;have T:=mz (n-1) aW aW;have N:=mz r.size (by have:=h.s1;omega) (by have:=h.s2;omega);have w3:=d' (dq r n) aW aW;have z:r.size≠0:=by have:=h.s1;omega
 refine gO Tryz.f195.eq_1 λw y=>?_;exact JG (dF h.pl) (eI h.pl) @e5 @Br @x8 @YL @wZ @RC @w3 (λa=>XT a _ z) tr
def ey(a b:Int):Int:=bif ax (a<b)then b else a
def eY(r:cf)(m:Int):List Int:=(ao (r.next-m).toNat).map λi:Nat=>m+i
abbrev xc(r:cf)(n:Int):List VV:=[uV n,iV<|dq r n]
def T7(r:cf)(g:Int)(h:p7 r):iK VP 194 [.yield,.bA [uV g] 0,.bA (du r) 0] ((eY r<|ey g r.first).map<|xc r):=by
 have c:1<=ey g r.first:=by have:=h.f1;unfold ey;by_cases J:g<r.first;rw[gu J];simpa using this;rw[kV J];show 1<=g;omega
 have e:(bif ax (g<r.first)then r.first else g)=ey g r.first:=rfl;refine xk agj apJ λw y b N Q=>?_;have z:aA (eY r<|ey g r.first)=(r.next-ey g r.first).toNat:=by simp[eY]
 have X:∀i (G:i<aA (eY r<|ey g r.first)),(eY r<|ey g r.first)[i]=ey g r.first+(i:Int):=λi G=>by simp[eY]
 generalize M:eY r (ey g r.first)=l at*;refine S6 Tryz.f194.eq_1 (dF h.pl) (eI h.pl) @e5 @rY e ?_;generalize ey g r.first=m at*;have v:=h.n2;refine vS (F:=λx=>dC VP _<|cJ 0 x) (aA l) (λi T h=>T 0=.yield/\ T 2=.bA (du r) 0/\ T 4=uV (m+i)/\ dv w h.y ((l.drop i).map<|xc r)=.ok (b,N)) ?_ ?_ ?_;refine S0 ?_;exact⟨by rw[show m+((0:Nat):Int)=m by omega],Q⟩;rintro i T Y G ⟨t,C,q,Q⟩;have O:ax (m+(i:Int)<r.next)=aa:=auR;have P:av .u64 (m+(i:Int)+1)=m+((i+1:Nat):Int):=by rw[mz _ aW aW];omega
 have p:=arC r (m+i) h aW aW;rw[fD G,cL]at Q;simp only[dv]at Q;rw[bF,X i G]at Q;have⟨L,V,Q⟩:=Q;cases L;cases Q;exact eN t C q (dF h.pl) (eI h.pl) @e5 @qO O p.aP V xc.eq_1 tr;simp only[a8]at Q;refine bq t C q (dF h.pl) (eI h.pl) @e5 @qO O p.aP V xc.eq_1 P ?_;exact Q;rintro T Y ⟨t,C,q,Q⟩;have O:ax (m+(aA l:Int)<r.next)=ab:=auI;rw[fS]at Q;simp only[i_,dv]at Q;cases Q;exact S8 t C q (dF h.pl) (eI h.pl) @e5 @qO O tr
def aao(r:cf)(g:Int)(h:eE r):aS VP 135 [.agg<|du r,uV g] (.func 194 [] [.bA [uV g] 0,.bA (du r) 0]):=by refine gO Tryz.f135.eq_1 λw y=>?_;exact S3 (dF h) (eI h) @e5 tr
def Kd(a b:Int):ga VP.D 112 [(0,uV a),(1,uV b)]=.ok (.agg [uV a,uV b]):=aV
def Wb(i j:u_)(q:Bool):ky VP.D .neq 112 (.agg<|GY i) (.agg<|GY j) q=.ok (bV<|!(bif i.label==j.label then i.no==j.no else ab)):=by
 have h:bX VP.D 10 112 (.agg [.aN<|.int .u64 i.label,.aN<|.int .u64 i.no]) (.agg [.aN<|.int .u64 j.label,.aN<|.int .u64 j.no])=.ok (bif i.label==j.label then i.no==j.no else ab):=by unfold bX;rw[IG];simp only[ca,aO,MN,dj,eqFields];rw[cG aT,cG aT,se,se,se,se];simp only[List.getElem?_cons_zero,oK,AZ];cases V:(i.label==j.label)<;>cases a:(i.no==j.no)<;>rfl
 exact xE q ahc aM aM h
def qH(i:u_)(x b:bJ):Int:=bif !(bif x.id.label==i.label then x.id.no==i.no else ab)then 3 else bif ax (x.kind<0)||ax (25<x.kind)then 11 else bif ax (x.order<1)||ax (1099511627776<x.order)||ax (1099511627776<x.dy)then 2 else bif ax (x.order<=b.order)||ax (x.dy<b.dy)then 9 else 0
def arb(r:cf)(g:Int)(x b:bJ)(h:eE r):aS VP 136 [.agg<|du r,uV g,.agg<|cd x,.agg<|cd b] (iV<|qH ⟨r.label,g⟩ x b):=by have n:=Wb x.id ⟨r.label,g⟩;refine gO Tryz.f136.eq_1 λw y=>?_;exact Z7 (dF h) (eI h) @me @dW @cC @Kd qH.eq_1 tr
def zS:bJ:=⟨⟨0,0⟩,0,0,0,0⟩
def dp(r:cf)(p:Nat):bJ:=(r.v'[p]?).getD zS
def Lg{α:Type}{k:Nat}{f:α->aC}(j:∀x,aA (f x)=k):∀(l:List α) (p:Nat) (M:p<aA l),((l.flatMap f).drop<|p*k).take k=f l[p]
 |x::l,0,_=>by rw[kP,kb,e6,Ju<|by rw[j];exact auS,eM<|by rw[j];exact auS];rfl
 |x::l,p+1,M=>by have I:=Lg j l p<|ka M;rw[kP,lU,nQ (p*k) k,<-ru,Jf<|j x,I];rfl
def DQ{r:cf}(h:eE r){p:Nat}(M:p<64):((du r).drop<|4+p*6).take 6=cd (dp r p):=by
 have F:p<aA r.v':=by unfold eE at h;omega
 unfold du;rw[<-ru];show((r.v'.flatMap cd).drop<|p*6).take 6=_;rw[Lg (k:=6) (λ_=>rfl) r.v' p F];simp[dp,F]
def vo{p n:Nat}(h:p<n):ax (0<=(p:Int)/\ (p:Int)<(n:Int))=aa:=auR
def iU(s t:bJ):Bool:=!(bif (bif s.id.label==t.id.label then s.id.no==t.id.no else ab)then(bif s.order==t.order then(bif s.dy==t.dy then(bif s.kind==t.kind then s.value==t.value else ab)else ab)else ab)else ab)
def Sp(n:Nat)(i j:u_):bX VP.D (n+2) 112 (.agg [.aN<|.int .u64 i.label,.aN<|.int .u64 i.no]) (.agg [.aN<|.int .u64 j.label,.aN<|.int .u64 j.no])=.ok (bif i.label==j.label then i.no==j.no else ab):=by unfold bX;rw[IG];simp only[ca,aO,MN,dj,eqFields];rw[cG aT,cG aT,se,se,se,se];simp only[List.getElem?_cons_zero,oK,AZ];cases h:(i.label==j.label)<;>cases a:(i.no==j.no)<;>rfl
def Wc(s t:bJ)(q:Bool):ky VP.D .neq 114 (.agg<|cd s) (.agg<|cd t) q=.ok (bV<|iU s t):=by
 have h:bX VP.D 10 114 (.agg [.aN<|.int .u64 s.id.label,.aN<|.int .u64 s.id.no,.aN<|.int .u64 s.order,.aN<|.int .u64 s.dy,.aN<|.int .i64 s.kind,.aN<|.int .i64 s.value]) (.agg [.aN<|.int .u64 t.id.label,.aN<|.int .u64 t.id.no,.aN<|.int .u64 t.order,.aN<|.int .u64 t.dy,.aN<|.int .i64 t.kind,.aN<|.int .i64 t.value])=.ok (!iU s t):=by unfold bX;rw[IH];simp only[ca,aO,MP,dj,eqFields];simp only[M7,se,BM,HW,e6,j7,i',List.getElem?_cons_zero,oK,AZ,KU,KW,Sp,iU,Fk];cases V:(bif s.id.label==t.id.label then s.id.no==t.id.no else ab)<;>cases a:(s.order==t.order)<;>cases d:(s.dy==t.dy)<;>cases A:(s.kind==t.kind)<;>cases Z:(s.value==t.value)<;>rfl
 have:ky VP.D .neq 114 (.agg<|cd s) (.agg<|cd t) q=.ok (bV<|!(!iU s t)):=xE q ahd aM aM h;exact at6
def FV:ga VP.D 114 []=.ok (.agg<|cd zS):=aV
def ns(r:cf):List Int->bJ->Int
 |[],_=>0
 |n::l,b=>c7 (qH ⟨r.label,n⟩ (dp r<|dq r n) b)<|ns r l<|dp r<|dq r n
def qi(r:cf):List Int->List Bool->List Bool
 |[],u=>u
 |n::l,u=>qi r l<|u.set (dq r n) aa
def xu(r:cf)(u:List Bool):Bool:=(ao 64).any λi=>!(u[i]?).getD ab&&iU (dp r i) zS
def dY(r:cf):Int:=bif oN r then 2 else c7 (ns r (eY r<|ey 0 r.first) zS)<|bif xu r (qi r (eY r<|ey 0 r.first)<|ak 64 ab)then 3 else 0
def alL(u:List Bool):hc (.agg<|u.map λb=>bV b)=ad (.agg<|u.map λb=>.aN<|.bool b):=by
 have:∀u:List Bool,eU (u.map λb=>bV b)=ad (u.map λb=>.aN<|.bool b):=by
  intro u
  induction u with
  |nil=>rfl
  |cons b u I=>simp only[cL,eU,I]
 simp only[hc,this]
def aqm:cP VP.D 222=.ok (.array 64 4):=aV
def atG:size VP.D 4=.ok 1:=aV
def aiD(u:List Bool)(i:Nat)(G:i<64)(X:aA u=64):vE VP.D 222 (.agg<|u.map λb=>.aN<|.bool b) (.aN<|.int .i64 i)=.ok (cO<|(u[i]?).getD ab):=by
 have P:i<aA u:=aW;have p:Go.Dt.part VP.D 4 (u.map λb=>.aN<|.bool b) (i*1)=.ok (cO<|(u[i]?).getD ab):=by unfold Go.Dt.part;rw[ER];simp only[ca,aO,yp,hY,cx P];rfl
 unfold vE;rw[aqm];simp only[ca,aO,pI,atG]
 grind
def map_set{u:List Bool}{p:Nat}:(u.map λb=>bV b).take p++(bV aa::(u.map λb=>bV b).drop (p+1))=bif ah p (aA u)then(u.set p aa).map (λb=>bV b)else(u.map λb=>bV b).take p++[bV aa]:=by
 by_cases M:p<aA u;rw[show ah p (aA u)=aa from at2];rw[a8,sC,List.set_eq_take_append_cons_drop,b8<|by rw[bj];exact M];have:ah p (aA u)=ab:=by cases h:ah p<|aA u;rfl;simp only[ah,dh]at h;omega
 rw[this,mZ auC];rfl
def re{e x:Int}(h:(e !=0)=aa):c7 e x=e:=by
 unfold c7
 grind
def NV{e x:Int}(h:(e !=0)=ab):c7 e x=x:=by unfold c7;exact at6
def w67(r:cf)(h:eE r):aS VP 67 [.agg<|du r] (iV<|dY r):=by
 unfold dY;cases P:oN r;have B:=FR h P;have a0:=T7 r 0 B;have b0:=aao r 0 h;have c0:abk=(ak 64 ab).map λb=>bV b:=rfl;have C:∀i (G:i<aA (eY r<|ey 0 r.first)),1<=(eY r<|ey 0 r.first)[i]:=λi G=>by have:=B.f1;simp only[eY,fK,Fv,ey];rw[gu aW];simp only[a8];omega
 unfold oN at P;refine gO Tryz.f67.eq_1 λw y=>?_;refine eN (dF h) (eI h) @e5 @Br @rY @qO @x8 @wZ P b0.bE @cm ?_;generalize eY r (ey 0 r.first)=l at*;generalize S:Vm.dX _ _ _=T;have o:T 1=.aR 1 1 0 0:=by rw[<-S];exact aug
 have W:T 2=.aR 2 1 0 0:=by rw[<-S];exact aug
 have t:T 3=.aR 3 1 0 0:=by rw[<-S];exact aug
 have A:T 4=.aR 4 1 0 0:=by rw[<-S];exact aug
 clear S;generalize d0:(bif xu r (qi r l<|ak 64 ab)then(3:Int)else 0)=X;refine rF 0 (l.map<|xc r) a0 aM (λi h=>h.o 1=⟨1,0,.cells aa ab 151 388 [du r]⟩/\ h.y=y/\ (∃m,h.o 2=⟨1,m,.cells aa ab 55 1 [[iV 0]]⟩)/\ ∃b u,(∃m,h.o 3=⟨1,m,.cells aa ab 222 64 [u.map λb=>bV b]⟩)/\ (∃m,h.o 4=⟨1,m,.cells aa ab 114 6 [cd b]⟩)/\ aA u=64/\ ns r l zS=ns r (l.drop i) b/\ qi r l (ak 64 ab)=qi r (l.drop i) u) ?_ ?_ ?_;refine S2 @cm c0 ?_;exact⟨⟨0,aM⟩,zS,_,⟨0,aM⟩,⟨0,aM⟩,aY,rfl,rfl⟩;rintro i D G ⟨N,E,⟨c,O⟩,b,u,⟨m3,F⟩,⟨m4,V⟩,v,Z,Y⟩;rw[bj]at G;rw[fK];have k:=C i G;rw[fD G,ns]at Z;rw[fD G,qi]at Y;generalize l[i]=n at*;have⟨p1,I⟩:=zv B k;have e0:=arb r n (dp r<|dq r n) b h;generalize qH ⟨r.label,n⟩ (dp r<|dq r n) b=e at*;have Q:ai (4+dq r n*6) 382=aa:=aw_;have U:=DQ h I;have s:=vo I;have d:ai (dq r n+1) (aA u)=aa:=aw_;have f:=map_set (u:=u) (p:=dq r n);rw[show ah (dq r n) (aA u)=aa by simp only[ah];exact d,a8]at f;refine bq xc.eq_1 o W t A N O F V (dF h) (eI h) (an @e5<|an Q<|an U<|an s<|an @uh<|an @c6<|an e0.aP<|an @bZ<|an @yp<|an d f) ?_;exact⟨λJ=>by rw[Z,re J,re J,E],λJ=>⟨E,⟨c,aM⟩,dp r<|dq r n,u.set (dq r n) aa,⟨_,aM⟩,⟨_,aM⟩,by rw[lR];exact v,by rw[Z,NV J],Y⟩⟩;rintro D ⟨N,E,⟨c,O⟩,b,u,⟨m3,F⟩,⟨m4,V⟩,v,Z,Y⟩;rw[bj,fS]at Z Y;have Z:ns r l zS=0:=Z;have Y:qi r l (ak 64 ab)=u:=Y;rw[Z,<-d0,Y];have u1:ai 64 (aA u)=aa:=by rw[v];rfl
 have u2:(u.map λb=>bV b).take 64=u.map λb=>bV b:=eM (by rw[bj,v];exact auS);refine fm o W t A N O F (dF h) u1 u2 ?_;refine lF 2 64 (λi T h=>T 1=.aR 1 1 0 0/\ T 2=.aR 2 1 0 0/\ T 67=.agg (u.map λb=>bV b)/\ T 68=iV i/\ h.o 1=⟨1,0,.cells aa ab 151 388 [du r]⟩/\ h.y=y/\ (∃m,h.o 2=⟨1,m,.cells aa ab 55 1 [[iV 0]]⟩)/\ (ao i).any (λi=>!(u[i]?).getD ab&&iU (dp r i) zS)=ab) ?_ ?_ ?_;refine S2 o W ?_;exact⟨aM,N,E,⟨c,O⟩,aM⟩;rintro i T D G ⟨a,j,L,q,N,E,⟨c,O⟩,M⟩;have x:=aiD u i G v;have z:ax ((i:Int)<64)=aa:=auR;have Q:ai (4+i*6) 382=aa:=aw_;have U:=DQ h G;have s:=vo G;have f0:(ao<|i+1).any (λi=>!(u[i]?).getD ab&&iU (dp r i) zS)=((ao i).any (λi=>!(u[i]?).getD ab&&iU (dp r i) zS)||(!(u[i]?).getD ab&&iU (dp r i) zS)):=by rw[wE,zW];simp
 have J:(!(u[i]?).getD ab&&iU (dp r i) zS)=aa->xu r u=aa:=λJ=>mD.2 ⟨i,lS.2 G,J⟩;rw[f0,M,jP];generalize(u[i]?).getD ab=g at*;refine bq a j L q N O @alL x z Q U (an s<|an @uh<|an @c6<|an (dF h)<|an @cC<|an @FV<|an @Wc @bd) ?_;exact⟨λg0=>by rw[J g0,E];rfl,λ_=>⟨E,c,aM⟩⟩;rintro T D ⟨a,j,L,q,N,E,⟨c,O⟩,M⟩;have z:ax (((64:Nat):Int)<64)=ab:=rfl;have M:xu r u=ab:=M;refine S6 a j L q O z ?_;rw[M,E];rfl;unfold oN at P;refine gO Tryz.f67.eq_1 λw y=>?_;exact S7 (dF h) @Br @rY @qO @x8 @wZ P tr
def H8{r:cf}(h:eE r)(e:dY r=0):p7 r:=by
 refine FR h ?_;unfold dY at e
 grind
def oY(r:cf)(g:Int):List bJ:=(eY r<|ey g r.first).map λn=>dp r<|dq r n
def Dd{r:cf}(h:p7 r)(g:Int):aA (eY r<|ey g r.first)<=64:=by
 have V:=h.fs;have a:=h.s2;have:r.first<=ey g r.first:=by
  unfold ey
  grind
 simp only[eY,bj,nN];omega
def Gq{r:cf}(h:p7 r)(g:Int):∀i (G:i<aA (eY r<|ey g r.first)),1<=(eY r<|ey g r.first)[i]:=λi G=>by
 have:=h.f1;have:r.first<=ey g r.first:=by
  unfold ey
  grind
 simp only[eY,fK,Fv];omega
def aam(r:cf)(g:Int)(h:eE r):aS VP 115 [.agg<|du r,uV g] (.bn [.fz<|bif dY r==0 then(oY r g).map cd else[],iV<|dY r]):=by
 have x:=w67 r h;cases f:dY r==0;have Z:(dY r !=0)=aa:=avh;generalize dY r=e at*;refine gO Tryz.f115.eq_1 λw y=>?_;exact S6 (dF h) (eI h) @e5 x.aP Z f tr;have f:dY r=0:=aum;have B:=H8 h f;rw[f]at x|-;have P:=T7 r g B;have d:=aao r g h;have M:=Dd B g;have X:=Gq B g;unfold oY;generalize eY r (ey g r.first)=l at*;refine gO Tryz.f115.eq_1 λw y=>?_;refine S6 (dF h) (eI h) @e5 x.aP d.bE @cm ?_;refine rF 0 (l.map<|xc r) P aM (λi h=>h.o 2=⟨1,0,.cells aa ab 151 388 [du r]⟩/\ h.y=y/\ ∃v U,h.o 7=⟨1,U,.cells aa ab 125 1 [[b9 (((l.take i).map λn=>dp r<|dq r n).map cd) 26 v]]⟩/\ b6 (h.o 26) (((l.take i).map λn=>dp r<|dq r n).map cd) v 114 6) ?_ ?_ ?_;exact auB;rintro i Y G ⟨O,E,v,U,o,b⟩;rw[bj]at G;rw[fK];have p:=X i G;have j:aA (((l.take i).map λn=>dp r<|dq r n).map cd)<536870912:=aw9;have t:((l.take<|i+1).map λn=>dp r<|dq r n).map cd=((l.take i).map λn=>dp r<|dq r n).map cd++[cd<|dp r<|dq r l[i]]:=by rw[ej G,dg,dg];rfl
 rw[t];generalize((l.take i).map λn=>dp r<|dq r n).map cd=L at*;generalize l[i]=n at*;have⟨A,m⟩:=zv B p;have Q:ai (4+dq r n*6) 382=aa:=aw_;have q:=DQ h m;have s:=vo m;refine fm xc.eq_1 O o (dF h) Q q s @uh @c6 (iM b j) ?_;exact⟨E,v+1,U+1,aM,by rw[b.1];exact auh⟩;rintro Y ⟨O,E,v,U,o,b⟩;rw[bj,bP]at*;exact S3 o E (gf b) tr
def arc(r:cf)(h:eE r):aS VP 137 [.agg<|du r] (.bn [.fz<|bif dY r==0 then(oY r 0).map cd else[],iV<|dY r]):=by have g:=aam r 0 h;refine gO Tryz.f137.eq_1 λw y=>?_;exact S5 (dF h) (eI h) @e5 g.bE @cm tr
def ard(l:List cf):aS VP 138 [.fz<|l.map du] (.func 196 [] [.bA [.fz<|l.map du] 0]):=by refine gO Tryz.f138.eq_1 λw y=>?_;exact aug
abbrev kU(n:Int):AV:=.aN<|.int .u64 n
def Sn(a b:Int):bX VP.D 10 23 (kU a) (kU b)=.ok (a==b):=AZ 9 a b
def bqU(k:Int):cU (kU k) (kU k)=aa:=by simp[cU,kx]
def fvU(l:List<|Int×Bool)(k:Int):oa VP.D 23 (.aN<|.int .u64 k) (l.map<|hL kU)=.ok ((qI l k).map λb=>.aN<|.bool b):=Dn Sn k l
def svU(l:List<|Int×Bool)(k:Int)(b:Bool):oz (bV b) VP.D 23 (.aN<|.int .u64 k) (l.map<|hL kU)=.ok ((po l k b).map<|hL kU):=EM Sn bqU k b l
def aiJ:o9 VP.D 227=.ok (23,4):=aV
def Sx(a:Int):(a==a)=aa:=aY
def pvU(n:Int):tq (.aN<|.int .u64 n)=aa:=rfl
def Mr:=af @fvU<|af @svU<|af @aiJ<|af @I5<|af @AZ<|af @Sx @pvU
def jV:List Int->List Int->Bool
 |_,[]=>ab
 |done,n::l=>done.any (λm=>m==n)||jV (done++[n]) l
def AT:∀{l done:aL} {i:Nat} (G:i<aA l),(done++l.take i).any (λm=>m==l[i])=aa->jV done l=aa
 |n::l,done,0,_,h=>by simp only[m_,i',ea]at h;simp only[jV,h,rm]
 |n::l,done,i+1,G,h=>by simp only[List.getElem_cons_succ,j7]at h;have:=AT (l:=l) (done:=done++[n]) (i:=i) (ka G) (by rw[eF];exact h);simp only[jV,this,yj]
def Dc:∀{l done:aL},(∀i (G:i<aA l),(done++l.take i).any (λm=>m==l[i])=ab)->jV done l=ab
 |[],_,_=>rfl
 |n::l,done,h=>by
  have Q:=h 0<|Cv _;simp only[m_,i',ea]at Q;have:=Dc (l:=l) (done:=done++[n]) λi G=>by have:=h (i+1)<|z8 G;exact at6
  simp only[jV,Q,this,tD]
def w68(l:List cf)(P:bk l)(h:∀r∈l,eE r):aS VP 68 [.fz<|l.map du] (iV<|bif jV [] (l.map cf.label)then 8 else 0):=by
 have z:Fb.length=388:=aV;have Y:Fb.drop 388=[]:=aV;generalize p:l.map cf.label=L;have d:aA L=aA l:=by rw[<-p,bj]
 have o:∀i (G:i<aA l) (u:i<aA L),L[i]=l[i].label:=λi G u=>by subst p;simp
 refine gO Tryz.f68.eq_1 λw y=>?_;refine S1 @Mr ?_;refine lF 0 (aA l) (λi T h=>T 7=.fz (l.map du)/\ T 8=iV (aA l)/\ T 9=iV i/\ T 3=.cz 6 1/\ h.y=y/\ (∀j (u:j<aA L),j<i->(L.take j).any (λm=>m==L[j])=ab)/\ ∃m A,h.o 6=⟨1,m,.map<|A.map<|hL kU⟩/\ ∀k,mP A k=(L.take i).any (λm=>m==k)) ?_ ?_ ?_;refine S0 ?_;exact⟨aM,λj u h=>absurd h<|gH _,0,[],aM,λk=>rfl⟩
 ·rintro i T D G ⟨F,q,Z,e,E,t,m,A,g,n⟩;have J:i<9223372036854775807:=by unfold bk at P;omega
  have u:i<aA L:=aW;have X:=h _<|bD G;have a:=n l[i].label;have s:=AT (l:=L) (done:=[]) u;rw[b7]at s;have C:=o i G u;simp only[vb u];rw[C]at s|-;generalize x:l[i]=r at*;cases M:mP A r.label;rw[M]at a;refine bq F q Z e g (a6 G) @bd @Mr (dF X) (eI X) @e5 (an @me<|an z<|an Y<|an @k6<|an @bZ<|an x M) ?_;refine⟨E,λj Q S=>?_,_,_,aM,λk=>?_⟩;by_cases O:j<i;exact t j Q O;have:j=i:=aW;subst this;rw[C];exact a.symm;rw[yS,n];cases f:k==r.label;have:(r.label==k)=ab:=by rw[yi];exact f
  rw[this,tD];rfl;have:=zU f;subst this;simp;rw[M]at a;refine bq F q Z e g (a6 G) @bd @Mr (dF X) (eI X) @e5 (an @me<|an z<|an Y<|an @k6<|an @bZ<|an x M) ?_;rw[s a.symm,E];rfl
 rintro T D ⟨F,q,Z,e,E,t,m,A,g,n⟩;have t:jV [] L=ab:=Dc λi G=>t i G aW;refine S5 F q Z e t ?_;rw[E]
def IM{P:VT}{c:Vm.VC}{Q:Nat}{d:Option Tmp}{g:Bool}{ty:Nat}{p:String}{a:Array Edge}{T:Vg}{h:H}(t:Nat)(x y:Operand)(s:P.km (dk Q d)=ab):ec P c Q g ⟨d,.makeSlice t x y,ty,p,a,ae⟩ T h=lq T h d g (h_ P.D h (bS T) (.makeSlice t x y)<|dk Q d):=by rw[<-D7 P h (bS T) _ s];exact bL aM
def Uv(D:a_)(e:Nat):Bool:=match rW D e with
 |.ok i=>ah i.bytes<|2^16
 |_=>ab
def CH{D:a_}{h:H}{U:Operand->VV}{l c:Operand}{t e sz s:Nat}{z:aC}(h1:gm D t=.ok (e,sz))(a:jO D e=.ok z)(d:Uv D e=aa):h_ D h U (.makeSlice t l c) s=aO (jK<|U l) λn=>aO (jK<|U c) λm=>bif ag n m&&ah n (2^30)then .ok (.bh s ((h.o s).ver+1) 0 n,h.new s<|.cells ab ab e sz<|kr z n)else .error "":=by
 unfold Uv at d
 cases G:rW D e with
 |error _=>rw[G]at d;cases d
 |ok i=>rw[G]at d;simp only at d;simp only[h_,h1,a,G,d,aO,uO]
def Hx(k:IntKind)(n:Nat):jK (.aN<|.int k n)=.ok n:=by simp[jK]
def fg{h:H}(s ver o L n:Nat)(T:Int):cF h (ae,n) (.bh s ver o L) T=bif ax (0<=T)then(aO (gB h s ver) λp=>bif ax (T.toNat<L)&&ag p.2.2.2.1 n then .ok (.aR s ver (o+T.toNat) 0)else .error "")else .error "":=rfl
def fk(i:Nat):ax (0<=(i:Int))=aa:=aY
def eB{i n:Nat}(h:i<n):ax (i<n)=aa:=by simp[h]
def ap8{α:Type}{l:List α}{i:Nat}(G:i<aA l)(c:α):(l.set i c).take (i+1)=l.take i++[c]:=by rw[ej<|by rw[lR];exact G,O5,List.take_set_of_le<|bu _]
def atg:jO VP.D 125=.ok [.fz []]:=aV
def ajY{h:H}{U:Operand->VV}{l c:Operand}{s:Nat}:h_ VP.D h U (.makeSlice 299 l c) s=aO (jK<|U l) λn=>aO (jK<|U c) λm=>bif ag n m&&ah n (2^30)then .ok (.bh s ((h.o s).ver+1) 0 n,h.new s<|.cells ab ab 125 1<|kr [.fz []] n)else .error "":=CH aoi atg aV
def jg(s:dm):Prop:=bk s.bw/\ ∀r∈s.bw,eE r
def eC(r:cf):List bJ:=bif dY r==0 then oY r 0 else[]
def aap(r:cf)(h:eE r):aS VP 137 [.agg<|du r] (.bn [.fz<|(eC r).map cd,iV<|dY r]):=by
 have:=arc r h;unfold eC
 grind
def KX(r:cf):aA (eC r)<=64:=by
 unfold eC;cases e:dY r==0;simp;have e:dY r=0:=avF;by_cases X:eE r;have:=Dd (H8 X e) 0;simpa[oY]using this;unfold dY at e;cases k:oN r;unfold oN at k;simp only[gz,cE]at k;have⟨⟨⟨⟨⟨h,a⟩,d⟩,A⟩,Z⟩,Y⟩:=k;rw[mz _ aW aW,mz _ aW aW]at Y;simp only[a8,oY,bj,eY,nN,ey]
 grind
 rw[k]at e;cases e
def rl:Fb.length=388:=aV
def rk:Fb.drop 388=[]:=aV
def sU(L:List<|List bJ)(f:Int):Int:=match L[f.toNat]? with
 |ad (e::_)=>e.order
 |_=>0
def wM(L:List<|List bJ)(f:Int):List bJ->Bool
 |[]=>ab
 |e::_=>decide (f<0)||ax (e.order<sU L f)
def qa(L:List<|List bJ):Nat->Int->List (List bJ)->Int
 |_,f,[]=>f
 |i,f,x::l=>qa L (i+1) (bif wM L f x then(i:Int)else f) l
def v_(L:List<|List bJ):Int:=qa L 0 (-1) L
def uM(L:List<|List bJ):Nat:=(L.map aA).sum
def BD:Nat->List (List bJ)->List bJ
 |0,_=>[]
 |n+1,L=>bif ax (v_ L<0)then[]else match L[(v_ L).toNat]? with
  |ad (e::t)=>e::BD n (L.set (v_ L).toNat t)
  |_=>[]
def pa(L:List<|List bJ):List bJ:=BD (uM L+1) L
abbrev Iv(e:bJ):List VV:=[.agg<|cd e]
abbrev xw(l:List bJ):List VV:=[.fz<|l.map cd]
def W_(L:List<|List bJ):∀(l:List<|List bJ) (i:Nat) (f:Int),l=L.drop i->(f=-1\/ ∃k,f=(k:Nat)/\ k<i/\ ∃e t,L[k]?=ad (e::t))->(qa L i f l=-1\/ ∃k,qa L i f l=(k:Nat)/\ k<aA L/\ ∃e t,L[k]?=ad (e::t))
 |[],i,f,P,h=>by
  rcases h with h|⟨k,V,p,e,t,d⟩
  exact .inl h;exact .inr ⟨k,V,(lQ.1 d).1,e,t,d⟩
 |x::l,i,f,P,h=>by
  have G:L[i]?=ad x:=by
   have:(L.drop i)[0]?=ad x:=by rw[<-P];rfl
   exact at6
  have a:l=L.drop (i+1):=by rw[<-ru,<-P];rfl
  rw[qa];refine W_ L l (i+1) _ a ?_;cases X:wM L f x
  grind
  cases x with
  |nil=>cases X
  |cons e t=>exact .inr ⟨i,aM,aW,e,t,G⟩
def L8{h:H}{s ver md i n:Nat}{es:aB}{k:Nat}(B:h.o s=⟨ver,md,.cells ab ab k 1 es⟩)(G:i<n):cF h (ae,1) (.bh s ver 0 n) (i:Int)=.ok (.aR s ver i 0):=by rw[fg,fk,c6,eB G,kJ,B];simp only[jb,aO,a8,gX,iJ,bZ]
def DJ{h:H}(s:Nat)(c:aC)(l:aB):cF h (ae,s) (.fz<|c::l) 0=bif ag (aA c) s then .ok (.bA c 0)else .error "":=rfl
def NY:∀{L:List (List bJ)} {k:Nat} {e:bJ} {t:List bJ},L[k]?=ad (e::t)->uM (L.set k t)+1=uM L
 |[],k,e,t,h=>auu
 |x::L,0,e,t,h=>by simp only[List.getElem?_cons_zero,pD]at h;subst h;simp only[Pe,uM,cL,Js,cr];omega
 |x::L,k+1,e,t,h=>by have:=NY (L:=L) (k:=k) auF;simp only[Jr,uM,cL,Js]at this|-;omega
def uu{α β:Type}{f:α->β}{l:List α}{k:Nat}{x:α}(h:l[k]?=ad x):(l.map f)[k]?=ad (f x):=by rw[hY,h];rfl
def alF{L:List (List bJ)}{i:Nat}{f:Int}(G:i<aA L):qa L i f (L.drop i)=qa L (i+1) (bif wM L f L[i]then(i:Int)else f) (L.drop<|i+1):=by rw[fD G,qa]
def jc{h:H}(s ver o L:Nat):rZ h (.bh s ver o L)=aO (gB h s ver) λ_=>.ok (iV L):=rfl
def XV:∀n,kr [.fz []] n=(ak n ([]:List bJ)).map xw
 |0=>rfl
 |n+1=>by rw[kr,XV n];rfl
def ahK(l:List cf)(c0:bk l)(j0:∀r∈l,eE r):iK VP 196 [.yield,.bA [.fz<|l.map du] 0] ((pa<|l.map eC).map Iv):=by
 refine xk agk apK λw y b i0 Q=>?_;have d0:=xD c0;refine S6 Tryz.f196.eq_1 @IM @ajY @Hx @gX d0 ?_;refine lF 0 (aA l) (λi T h=>T 0=.yield/\ T 12=.fz (l.map du)/\ T 13=iV (aA l)/\ T 14=iV i/\ T 3=.bh 11 1 0 (aA l)/\ h.y=y/\ ∃(Z:Nat) (X:List<|List bJ),h.o 11=⟨1,Z,.cells ab ab 125 1<|X.map xw⟩/\ aA X=aA l/\ X.take i=(l.map eC).take i) ?_ ?_ ?_;refine S0 ?_;exact⟨aM,0,ak (aA l) [],by rw[XV],jR,rfl⟩;rintro i T h g ⟨Y,D,U,J,A,S,Z,X,v,p,E⟩;have f0:i<9223372036854775807:=by unfold bk at c0;omega
 have P:=j0 _<|bD g;have k0:=aap _ P;have g0:(X.map xw)[i]?=ad (xw X[i]):=uu<|cx aW;refine bq Y D U J A (a6 g) @bd (dF P) (eI P) @e5 @me (an @rl<|an @rk<|an @k6<|an @bZ<|an k0.bE<|an @cm<|an @fg<|an @fk<|an @c6<|an (eB g)<|an v g0) ?_;exact⟨S,_,X.set i<|eC l[i],by rw[sC],by rw[lR];exact p,by rw[ap8 aW,E,ej<|by rw[bj];exact g,fK]⟩;rintro T h ⟨Y,D,U,J,A,S,Z,X,v,p,E⟩;rw[<-p,bP,p,eM<|by rw[bj];exact auS]at E;subst E;generalize l.map eC=L at*;have W:aA L<1048576:=by rw[p];exact c0
 rw[<-p]at A;refine S5 Y D U J A ?_;clear D U J;refine Bx (F:=λx=>dC VP _<|cJ 2 x) (I:=λn T h=>∃(L:List<|List bJ) (Z:Nat),n=uM L/\ aA L<1048576/\ T 0=.yield/\ T 3=.bh 11 1 0 (aA L)/\ h.o 11=⟨1,Z,.cells ab ab 125 1<|L.map xw⟩/\ dv w h.y ((pa L).map Iv)=.ok (b,i0)) ?_ (uM L) ⟨L,Z,aM,W,Y,A,v,by rw[S];exact Q⟩;clear Q S v A Y W p;rintro n T h ⟨L,Z,rfl,l0,Y,A,v,Q⟩;refine S4 Y A v @jc ?_;refine ot (G:=λx=>cJ 3<|dL (cJ 4 x) _) (aA L) (λi T s=>T 0=.yield/\ T 3=.bh 11 1 0 (aA L)/\ T 28=.bh 11 1 0 (aA L)/\ T 29=iV (aA L)/\ T 30=iV i/\ s=h/\ ∃f,T 6=iV f/\ qa L i f (L.drop i)=v_ L/\ (f=-1\/ ∃k,f=(k:Nat)/\ k<i/\ ∃e t,L[k]?=ad (e::t))) ?_ ?_ ?_;refine S2 Y A ?_;exact⟨aM,-1,aM,aM,.inl aM⟩;rintro i T s g ⟨Y,A,d,a,z,rfl,f,N,M,o⟩;have f0:i<9223372036854775807:=aW;have C:=L8 (n:=aA L) v g;have q:L[i]?=ad L[i]:=cx g;have V:=uu (f:=xw) q;rw[alF g]at M;generalize p0:L[i]=x at*
 cases x with
 |nil=>
  have j:ax ((0:Int)<((0:Nat):Int))=ab:=rfl;refine bq Y A d a z N (a6 g) @bd C v V (an @cC j) ?_
  exact⟨f,aM,M,by
   rcases o with o|⟨k,h1,h2,h3⟩
   exact .inl o
   exact .inr ⟨k,h1,aW,h3⟩⟩
 |cons e t=>
  have j:ax (0<(aA (cd e::aq cd t):Int))=aa:=by rw[cr,c_];omega
  rcases o with rfl|⟨k,rfl,h0,a0,m0,u⟩
  refine bq Y A d a z N (a6 g) @bd C v V (an j<|an @dW<|show ax ((-1:Int)<0)=aa from aM) ?_;exact⟨i,aM,M,.inr ⟨i,aM,aW,e,t,q⟩⟩;have B:ax ((k:Int)<0)=ab:=aY;have O:=L8 (n:=aA L) v (show k<aA L by omega);have m:=uu (f:=xw) u;have o0:sU L ((k:Nat):Int)=a0.order:=by unfold sU;rw[c6,u]
  have P:wM L (k:Int) (e::t)=ax (e.order<a0.order):=by unfold wM;rw[B,o0];rfl
  rw[P]at M;cases b0:ax<|e.order<a0.order;rw[b0]at M;refine bq Y A d a z N (a6 g) @bd C v V (an j<|an B<|an O<|an m<|an @dW<|an @DJ b0) ?_;exact⟨k,aM,M,.inr ⟨k,aM,aW,a0,m0,u⟩⟩;rw[b0]at M;refine bq Y A d a z N (a6 g) @bd C v V (an j<|an B<|an O<|an m<|an @dW<|an @DJ b0) ?_;exact⟨i,aM,M,.inr ⟨i,aM,aW,e,t,q⟩⟩
 rintro T s ⟨Y,A,d,a,z,rfl,f,N,M,o⟩;rw[fS,qa]at M;subst M;unfold pa at Q;rw[BD]at Q
 rcases o with o|⟨k,o,h0,e,t,c⟩
 rw[o]at Q N;have Q:dv w s.y []=.ok (b,i0):=Q;simp only[dv]at Q;cases Q;exact S7 Y A d a z N (show ax ((-1:Int)<0)=aa from aM) tr;have B:ax ((k:Int)<0)=ab:=aY;rw[o,B,c6,c,br]at Q;rw[o]at N;simp only[cL,dv]at Q;rw[bF]at Q;have⟨b1,h1,Q⟩:=Q;have O:=L8 (n:=aA L) v h0;have m:=uu (f:=xw) c;have E:=NY c;cases b1;cases Q;exact bq Y A d a z N B O v m @dW (an @DJ h1) tr;rw[a8]at Q;have q1:ag (xh<|cd e::t.map cd) 6=aa:=rfl;have q2:ai 1 (aA<|cd e::t.map cd)=aa:=rfl;have q3:((cd e::t.map cd).drop 1).take (aA (cd e::t.map cd)-1)=t.map cd:=by rw[OU,e6];exact eM (by rw[cr];omega)
 refine bq q1 @q2 q3 Y A d a z N B @fg (an @fk<|an @c6<|an @bZ<|an (eB h0)<|an v<|an m<|an @dW<|an @DJ h1) ?_;refine⟨uM<|L.set k t,aW,L.set k t,Z+1,rfl,by rw[lR];exact l0,by rw[lR],by rw[sC],?_⟩;unfold pa;rw[E];exact Q
def afu{i:u_}{x b:bJ}(h:qH i x b=0):x.id.label=i.label/\ x.id.no=i.no/\ 0<=x.kind/\ x.kind<=25/\ 1<=x.order/\ x.order<=1099511627776/\ x.dy<=1099511627776/\ b.order<x.order/\ b.dy<=x.dy:=by
 unfold qH at h;cases V:(bif x.id.label==i.label then x.id.no==i.no else ab)<;>rw[V]at h;cases h;cases a:ax (x.kind<0)||ax (25<x.kind)<;>rw[a]at h;cases d:ax (x.order<1)||ax (1099511627776<x.order)||ax (1099511627776<x.dy)<;>rw[d]at h
 grind
 exact avN;exact avN
def oC{a b:Int}(h:c7 a b=0):a=0/\ b=0:=by
 unfold c7 at h
 grind
def CL:bJ->List bJ->Prop
 |_,[]=>True
 |b,x::l=>b.order<x.order/\ b.dy<=x.dy/\ CL x l
def Gz(r:cf):∀(l:aL) (b:bJ),ns r l b=0->(∀n∈l,(dp r<|dq r n).id.label=r.label/\ (dp r<|dq r n).id.no=n/\ 1<=(dp r<|dq r n).order/\ (dp r<|dq r n).order<=1099511627776)/\ CL b (l.map λn=>dp r<|dq r n)
 |[],b,_=>⟨λn X=>absurd X aY,trivial⟩
 |n::l,b,h=>by
  rw[ns]at h;have⟨V,a⟩:=oC h;have⟨C,w,_,_,D,j,_,O,B⟩:=afu V;have⟨x,o⟩:=Gz r l _ a;refine⟨λm Y=>?_,O,B,o⟩
  grind
def alH{r:cf}(h:p7 r){a b:Int}(J:1<=a)(g:a<b)(X:b-a<r.size):dq r a≠dq r b:=by
 intro e;have⟨V,_⟩:=zv h J;have⟨p,_⟩:=zv h (n:=b) aW;rw[Int.tmod_eq_emod_of_nonneg aW]at V p;have C:(a-1) %r.size=(b-1) %r.size:=by rw[V,p,e]
 have G:(b-1-(a-1)) %r.size=0:=Int.emod_eq_emod_iff_emod_sub_eq_zero.1 C.symm;rw[Int.emod_eq_of_lt aW aW]at G;omega
def aeV{r:cf}(h:p7 r)(m:Int)(Y:r.first<=m):((eY r m).map<|dq r).Nodup:=by unfold eY;rw[pB,List.nodup_iff_pairwise_ne,O9];have V:=h.f1;have p:=h.fs;refine List.Pairwise.imp_of_mem ?_<|abt;intro a b J e g;simp only[lS]at J e;exact alH h (a:=m+(a:Int)) (b:=m+(b:Int)) aW aW aW
def ZT(r:cf):∀(l:aL) (u:List Bool) (i:Nat),i<aA u->((qi r l u)[i]?).getD ab=((u[i]?).getD ab||l.any λn=>dq r n==i)
 |[],u,i,_=>by simp[qi]
 |n::l,u,i,G=>by
  rw[qi,ZT r l _ i<|by rw[lR];exact G,zX]
  grind
def Ku(r:cf):Nat:=aA<|(ao 64).filter λi=>iU (dp r i) zS
def akh{s:bJ}(h:s.id.no≠0):iU s zS=aa:=by
 unfold iU;have:(s.id.no==zS.id.no)=ab:=by simpa[zS]using h
 exact at6
def SJ{α:Type}(p q:α->Bool):∀l:List α,aA (l.filter p)=aA (l.filter λx=>p x&&q x)+aA (l.filter λx=>p x&&!q x)
 |[]=>rfl
 |a::l=>by have:=SJ p q l;cases M:p a<;>cases u:q a<;>simp[M,u,OY]<;>omega
def am7{r:cf}(h:p7 r)(e:ns r (eY r<|ey 0 r.first) zS=0):xu r (qi r (eY r<|ey 0 r.first)<|ak 64 ab)=(Ku r !=aA (eY r<|ey 0 r.first)):=by
 have m:ey 0 r.first=r.first:=by have:=h.f1;unfold ey;rw[gu aW];rfl
 have B:=aeV h (ey 0 r.first) (by rw[m];exact rq _);have⟨v,_⟩:=Gz r _ _ e;have Q:=Gq h 0;have L:∀n∈eY r (ey 0 r.first),dq r n<64:=λn X=>by obtain⟨i,G,rfl⟩:=Cp.1 X;exact(zv h<|Q i G).2
 generalize eY r (ey 0 r.first)=l at*
 let U:Nat->Bool:=λi=>l.any λn=>dq r n==i
 have t:∀i,i<64->((qi r l<|ak 64 ab)[i]?).getD ab=U i:=λi G=>by
  rw[ZT r l _ i<|by rw[jR];exact G]
  grind
 have g:xu r (qi r l<|ak 64 ab)=(ao 64).any λi=>iU (dp r i) zS&&!U i:=by
  unfold xu
  grind
 have C:=SJ (λi=>iU (dp r i) zS) U<|ao 64;have A:(ao 64).filter (λi=>iU (dp r i) zS&&U i)=(ao 64).filter U:=by
  refine OX λi G=>?_;cases q:U i;simp;have S:l.any (λn=>dq r n==i)=aa:=q;have⟨n,X,p⟩:=mD.1 S;have:dq r n=i:=by simpa using p
  subst this;have⟨_,w,_⟩:=v n X;have:1<=n:=by obtain⟨j,u,rfl⟩:=Cp.1 X;exact Q j u
  rw[akh<|by rw[w];omega];rfl
 have s:aA ((ao 64).filter U)=aA l:=by
  have:((ao 64).filter U).Perm (l.map<|dq r):=by
   rw[List.perm_ext_iff_of_nodup (List.Nodup.sublist List.filter_sublist List.nodup_range) B]
   grind
  rw[this.length_eq,bj]
 rw[A,s]at C;rw[g];unfold Ku;rw[C];cases b:(ao 64).any λi=>iU (dp r i) zS&&!U i;exact at6;exact at6
def lA(x:bJ):List bJ->List bJ
 |[]=>[x]
 |a::R=>bif ax (x.order<a.order)then a::lA x R else x::a::R
def lN(l:List bJ):List bJ:=(l.foldl (λR x=>lA x R) []).reverse
def G'(x:bJ):∀R,(lA x R).Perm<|x::R
 |[]=>.refl _
 |a::R=>by rw[lA];cases ax (x.order<a.order);exact .refl _;exact((G' x R).cons a).trans<|.swap x a R
def Ux(x:bJ):∀R:List bJ,R.Pairwise (λa b=>b.order<=a.order)->(lA x R).Pairwise (λa b=>b.order<=a.order)
 |[],_=>by simp[lA]
 |a::R,h=>by
  rw[lA];have⟨V,p⟩:=lT.1 h;cases t:ax<|x.order<a.order;simp only[cE]at t;refine lT.2 ⟨λb e=>?_,h⟩
  grind
  simp only[c_]at t;refine lT.2 ⟨λb e=>?_,Ux x R p⟩
  rcases dz.1 ((G' x R).mem_iff.1 e)with rfl|e
  omega;exact V b e
def Tp:∀(l R:List bJ),R.Pairwise (λa b=>b.order<=a.order)->(l.foldl (λR x=>lA x R) R).Perm (l++R)/\ (l.foldl (λR x=>lA x R) R).Pairwise (λa b=>b.order<=a.order)
 |[],R,h=>⟨.refl _,h⟩
 |x::l,R,h=>by have⟨C,w⟩:=Tp l (lA x R)<|Ux x R h;refine⟨C.trans ?_,w⟩;exact((G' x R).append_left l).trans List.perm_middle
def Iq(l:List bJ):(lN l).Perm l/\ (lN l).Pairwise (λa b=>a.order<=b.order):=by have⟨h,p⟩:=Tp l [] .nil;rw[ea]at h;exact⟨(List.reverse_perm _).trans h,by rw[lN,List.pairwise_reverse];exact p⟩
def M_(L:List<|List bJ):∀(l:List<|List bJ) (i:Nat) (f:Int),l=L.drop i->(f=-1->∀j x,j<i->L[j]?=ad x->x=[])->(∀k:Nat,f=k->k<i/\ (∃e t,L[k]?=ad (e::t))/\ ∀(j:Nat) e t,j<i->L[j]?=ad (e::t)->sU L f<=e.order)->(f=-1\/ ∃k:Nat,f=k)->
 (qa L i f l=-1->∀(j:Nat) x,L[j]?=ad x->x=[])/\ ∀k:Nat,qa L i f l=k->∀(j:Nat) e t,L[j]?=ad (e::t)->sU L (qa L i f l)<=e.order
 |[],i,f,P,V,p,_=>by have g:aA L<=i:=at6;refine⟨λh j x u=>V h j x (by have:=(lQ.1 u).1;omega) u,λk h j e t u=>(p k h).2.2 j e t (by have:=(lQ.1 u).1;omega) u⟩
 |x::l,i,f,P,V,p,d=>by
  have G:L[i]?=ad x:=by
   have:(L.drop i)[0]?=ad x:=by rw[<-P];rfl
   exact at6
  have a:l=L.drop (i+1):=by rw[<-ru,<-P];rfl
  rw[qa];cases X:wM L f x;refine M_ L l (i+1) f a (λM j y u Q=>?_) (λk B=>?_) d;by_cases O:j=i;subst O;rw[G]at Q;cases Q
  cases x with
  |nil=>rfl
  |cons e t=>subst M;cases X
  grind
  have⟨n,o,s⟩:=p k B;refine⟨aW,o,λj e t u J=>?_⟩;by_cases O:j=i;subst O;rw[G]at J;cases J;simp only[wM,gz,cE]at X;omega
  grind
  cases x with
  |nil=>cases X
  |cons e t=>
   have b:sU L (i:Int)=e.order:=by unfold sU;rw[c6,G]
   refine M_ L l (i+1) i a (λM=>aW) (λk B=>?_)<|.inr ⟨i,aM⟩;have:k=i:=by omega
   subst this;refine⟨aW,⟨e,t,G⟩,λj F Y u J=>?_⟩;show sU L ((k:Nat):Int)<=_;rw[b];by_cases O:j=k;exact at6;simp only[wM,iB,c_]at X
   grind
def NH:∀{L:List (List bJ)} {k:Nat} {e:bJ} {t:List bJ},L[k]?=ad (e::t)->(e::(L.set k t).flatten).Perm L.flatten
 |[],k,e,t,h=>auu
 |x::L,0,e,t,h=>at6
 |x::L,k+1,e,t,h=>by have:=NH (L:=L) (k:=k) auF;simp only[Jr,Ft];exact List.perm_middle.symm.trans<|this.append_left x
def agc{L:List (List bJ)}(h:∀(j:Nat) x,L[j]?=ad x->x=[]):L.flatten=[]:=by rw[List.flatten_eq_nil_iff];intro l P;obtain⟨j,u,rfl⟩:=Cp.1 P;exact h j _<|cx u
def VY:∀(n:Nat) (L:List<|List bJ),uM L<n->(∀l∈L,l.Pairwise<|λa b=>a.order<=b.order)->(BD n L).Perm L.flatten/\ (BD n L).Pairwise (λa b=>a.order<=b.order)
 |0,_,h,_=>absurd h<|gH _
 |n+1,L,h,s=>by
  have p:=W_ L L 0 (-1) aY<|.inl aM;have⟨J,i⟩:=M_ L L 0 (-1) aY (λ_ j x u=>absurd u<|gH _) (λk B=>aW)<|.inl aM;change v_ L=-1\/ _ at p;change(v_ L=-1->_)at J;change(∀k:Nat,v_ L=k->∀(j:Nat) e t,L[j]?=ad (e::t)->sU L (v_ L)<=e.order)at i;rw[BD]
  rcases p with p|⟨k,p,B,e,t,I⟩
  rw[p];simp only[show ax ((-1:Int)<0)=aa from aM,a8];rw[agc<|J p];exact at6;have p:v_ L=(k:Nat):=p;rw[p,kV aW,c6,I];simp only[br];have D:=NY I;have m:∀l∈L.set k t,l.Pairwise (λa b=>a.order<=b.order):=λl P=>by
   rcases wD P with P|rfl
   exact s l P;exact(lT.1<|s _<|nO I).2
  have⟨d,o⟩:=VY n (L.set k t) aW m;refine⟨(d.cons e).trans<|NH I,lT.2 ⟨λx U=>?_,o⟩⟩;have w:x∈L.flatten:=(NH I).mem_iff.1<|dR _<|d.mem_iff.1 U;have⟨l,P,A⟩:=List.mem_flatten.1 w;obtain⟨j,u,rfl⟩:=Cp.1 P;have Z:L[j]?=ad L[j]:=cx u;have W:sU L ((k:Nat):Int)=e.order:=by unfold sU;rw[c6,I]
  cases v:L[j]with
  |nil=>rw[v]at A;cases A
  |cons F Y=>
   rw[v]at A Z;have V:=i k p j F Y Z;rw[p,W]at V;have X:=lT.1<|s _<|nO Z
   rcases dz.1 A with rfl|f
   exact V;have:=X.1 x f;omega
def nF(b:bJ):List bJ->Bool
 |[]=>ab
 |x::l=>(x.order==b.order)||ax (x.dy<b.dy)||nF x l
def sH:List bJ->Bool
 |[]=>ab
 |x::l=>nF x l
def WN:∀(l:List bJ) (b:bJ),(b::l).Pairwise (λa b=>a.order<=b.order)->nF b l=ab->(b::l).Pairwise (λa b=>a.order<b.order)
 |[],b,_,_=>aY
 |x::l,b,h,B=>by
  rw[nF]at B;simp only[gz]at B;have⟨⟨V,_⟩,d⟩:=B;have⟨C,w⟩:=lT.1 h;have g:=WN l x w d;have s:=C x aY;have V:x.order≠b.order:=by simpa using V
  refine lT.2 ⟨λy Q=>?_,g⟩
  rcases dz.1 Q with rfl|Q
  omega;have:=(lT.1 g).1 y Q;omega
def abW{l:List bJ}(h:l.Pairwise<|λa b=>a.order<=b.order)(J:sH l=ab):l.Pairwise (λa b=>a.order<b.order):=by
 cases l with
 |nil=>exact .nil
 |cons b l=>exact WN l b h J
def apw{l m:List bJ}(M:l.Perm m)(P:l.Pairwise<|λa b=>a.order<b.order)(Y:m.Pairwise<|λa b=>a.order<=b.order):m.Pairwise (λa b=>a.order<b.order):=by
 have h:(l.map (·.order)).Nodup:=by grind
 have p:(m.map (·.order)).Nodup:=(M.map _).nodup_iff.1 h;rw[List.nodup_iff_pairwise_ne,O9]at p;exact Y.and p|>.imp λ⟨a,b⟩=>aW
def Zv:∀{l m:List bJ},l.Perm m->l.Pairwise (λa b=>a.order<b.order)->m.Pairwise (λa b=>a.order<b.order)->l=m
 |[],m,p,_,_=>(List.nil_perm.1 p).symm
 |a::l,[],p,_,_=>absurd p.length_eq aY
 |a::l,b::m,p,V,j=>by
  have⟨C,w⟩:=lT.1 V;have⟨x,o⟩:=lT.1 j;have g:a=b:=by
   rcases dz.1 (p.mem_iff.1<|ei ..)with h|h
   exact h
   rcases dz.1 (p.mem_iff.2<|ei ..)with Y|Y
   exact Y.symm
   grind
  subst g;rw[Zv ((List.perm_cons a).1 p) w o]
def abV{l m:List bJ}(p:l.Perm m)(P:l.Pairwise<|λa b=>a.order<=b.order)(Y:m.Pairwise<|λa b=>a.order<=b.order):sH l=sH m:=by
 have one:∀{l m:List bJ},l.Perm m->l.Pairwise (λa b=>a.order<=b.order)->m.Pairwise (λa b=>a.order<=b.order)->sH l=ab->sH m=ab:=λp P Y h=>by have V:=abW P h;rw[<-Zv p V (apw p V Y)];exact h
 cases V:sH l
 grind
 cases j:sH m;rw[one p.symm Y P j]at V;cases V;rfl
def mN(s:dm)(x:bJ):Bool:=ax (s.order<x.order)||ax (s.IE<x.dy)
def qX(s:dm)(x:bJ):Bool:=ax<|av .u64 (x.dy+s.GW)<=s.IE
def tk(s:dm):Int:=bif s.bw.any (λr=>(eC r).any<|mN s)then 2 else bif nF zS (pa<|s.bw.map eC)then 9 else bif (pa<|s.bw.map eC).any (qX s)then 10 else 0
def atX{α:Type}{l:List α}(h:aA l<=64){i:Nat}(G:i<aA l):i<9223372036854775807:=aW
def w69(s:dm)(S:jg s):aS VP 69 [.agg<|dH s] (iV<|tk s):=by
 have P:aA s.bw<1048576:=S.1;have L:=S.2;have a0:=ahK s.bw P L;have e:=ard s.bw;have e1:s.bw.any (λr=>(eC r).any<|mN s)=aa->tk s=2:=λh=>by unfold tk;rw[h];rfl
 have Y:s.bw.any (λr=>(eC r).any<|mN s)=ab->nF zS (pa<|s.bw.map eC)=aa->tk s=9:=λh j=>by unfold tk;rw[h,j];rfl
 have Q:s.bw.any (λr=>(eC r).any<|mN s)=ab->nF zS (pa<|s.bw.map eC)=ab->tk s=bif (pa<|s.bw.map eC).any (qX s)then 10 else 0:=λh j=>by unfold tk;rw[h,j];rfl
 generalize tk s=X at*;generalize pa (s.bw.map eC)=M at*;have⟨l,o,Z,z⟩:=s;have P:aA l<1048576:=P;have L:∀r∈l,eE r:=L;refine gO Tryz.f69.eq_1 λw y=>?_;refine S0 ?_;refine lF 0 (aA l) (λi T h=>T 1=.aR 1 1 0 0/\ T 2=.aR 2 1 0 0/\ T 13=.fz (l.map du)/\ T 14=iV (aA l)/\ T 15=iV i/\ h.y=y/\ h.o 1=⟨1,0,.cells aa ab 25 4 [dH ⟨l,o,Z,z⟩]⟩/\ h.o 2=⟨1,0,.cells aa ab 55 1 [[iV 0]]⟩/\ h.o 9=⟨0,0,.none⟩/\ (l.take i).any (λr=>(eC r).any<|mN ⟨l,o,Z,z⟩)=ab) ?_ ?_ ?_;refine S0 ?_;exact at1;rintro i T h G ⟨J,W,f,U,F,E,N,O,C,q⟩;have d:=L _<|bD G;have b0:=aap _ d;have n:=λh=>e1<|gI (p:=λr=>(eC r).any<|mN ⟨l,o,Z,z⟩) G h;have V:=λh=>gJ (p:=λr=>(eC r).any<|mN ⟨l,o,Z,z⟩) G q h;have c0:=KX l[i];refine bq J W f U F (a6 G) @bd (dF d) (eI d) @e5 @me (an @rl<|an @rk<|an @k6<|an @bZ<|an b0.bE @cm) ?_;generalize eC l[i]=K at*;refine oF 1 2 K.length (λk T h=>T 1=.aR 1 1 0 0/\ T 2=.aR 2 1 0 0/\ T 13=.fz (l.map du)/\ T 14=iV (aA l)/\ T 15=iV i/\ T 24=.fz (K.map cd)/\ T 25=iV K.length/\ T 26=iV k/\ h.y=y/\ h.o 1=⟨1,0,.cells aa ab 25 4 [dH ⟨l,o,Z,z⟩]⟩/\ h.o 2=⟨1,0,.cells aa ab 55 1 [[iV 0]]⟩/\ h.o 9=⟨0,0,.none⟩/\ (K.take k).any (mN ⟨l,o,Z,z⟩)=ab) ?_ ?_ ?_;refine S7 J W f U F N O ?_;exact⟨aM,E,C,aM⟩;rintro k T h I ⟨J,W,f,U,F,t,D,v,E,N,O,C,A⟩;have B:=λh=>gI (p:=mN ⟨l,o,Z,z⟩) I h;have u:=λh=>gJ (p:=mN ⟨l,o,Z,z⟩) I A h;have a:mN ⟨l,o,Z,z⟩ K[k]=(ax (o<K[k].order)||ax (Z<K[k].dy)):=rfl;rw[a]at B u;refine bq J W f U F t D v N O (a6 I) @bd ?_;exact⟨λh=>by rw[n<|B h,E],λh=>⟨E,C,u h⟩⟩;rintro T h ⟨J,W,f,U,F,t,D,v,E,N,O,C,A⟩;rw[bP]at A;refine eN J W f U F t D v N O @bd ?_;exact⟨E,C,V A⟩;rintro T h ⟨J,W,f,U,F,E,N,O,C,q⟩;rw[bP]at q;have Y:=Y q;have Q:=Q q;refine fm J W f U F N O C e.bE @cm ?_;clear e1;refine rF 4 (M.map Iv) a0 aM (λi h=>h.y=y/\ h.o 1=⟨1,0,.cells aa ab 25 4 [dH ⟨l,o,Z,z⟩]⟩/\ h.o 2=⟨1,0,.cells aa ab 55 1 [[iV 0]]⟩/\ ∃m b,h.o 9=⟨1,m,.cells aa ab 114 6 [cd b]⟩/\ nF zS M=nF b (M.drop i)) ?_ ?_ ?_;refine S4 @cm N O C ?_;exact⟨E,0,zS,aM,aM⟩;rintro i g G ⟨E,N,O,m,b,C,c⟩;rw[bj]at G;rw[fK];rw[fD G,nF]at c;generalize M[i]=x at*;refine S5 J W N O C ?_;exact⟨λh=>by rw[Y<|by rw[c,h];rfl,E],λh=>⟨E,m+1,x,aM,by rw[c,h];rfl⟩⟩;rintro g ⟨E,N,O,m,b,C,c⟩;rw[bj,fS,nF]at c;rw[Q c];refine S7 J W N O C e.bE @cm ?_;refine rF 6 (M.map Iv) a0 aM (λi h=>h.y=y/\ h.o 1=⟨1,0,.cells aa ab 25 4 [dH ⟨l,o,Z,z⟩]⟩/\ h.o 2=⟨1,0,.cells aa ab 55 1 [[iV 0]]⟩/\ (M.take i).any (qX ⟨l,o,Z,z⟩)=ab) ?_ ?_ ?_;refine S3 @cm N O ?_;exact⟨E,aM⟩;rintro i g G ⟨E,N,O,q⟩;rw[bj]at G;rw[fK];have n:=λh=>gI (p:=qX ⟨l,o,Z,z⟩) G h;have V:=λh=>gJ (p:=qX ⟨l,o,Z,z⟩) G q h;have a:qX ⟨l,o,Z,z⟩ M[i]=ax (av .u64 (M[i].dy+z)<=Z):=rfl;rw[a]at n V;refine S4 J W N O ?_;exact⟨λh=>by rw[n h,E];rfl,λh=>⟨E,V h⟩⟩;rintro g ⟨E,N,O,q⟩;rw[bj,bP]at q;rw[q];refine S4 J W N O ?_;rw[E]
def h6(L:List cf):List bJ:=(L.map eC).flatten
abbrev df(l:List bJ):List (List VV):=l.map cd
def aat(r:cf)(h:eE r)(x:aS VP 78 [.agg<|du r]<|iV<|dY r)(o:p7 r->aS VP 149 [.agg<|du r] (.fz<|(oY r 0).map cd)):aS VP 150 [.agg<|du r] (.bn [.fz<|(eC r).map cd,iV<|dY r]):=by unfold eC;cases f:dY r==0;have n:(dY r !=0)=aa:=avh;generalize dY r=e at*;refine gO Tryz.f150.eq_1 λw y=>?_;exact Z5 (dF h) (eI h) @e5 x.aP @cC tr;have f:dY r=0:=aum;have o:=o<|H8 h f;rw[f]at x|-;refine gO Tryz.f150.eq_1 λw y=>?_;exact S6 (dF h) (eI h) @e5 x.aP o.bE @cm tr
def uf(x:bJ)(R B:List bJ):List bJ:=(lA x R).reverse++B
def aib(x:bJ)(B:List bJ):uf x [] B=x::B:=rfl
def aic{x a:bJ}(R B:List bJ)(h:¬x.order<a.order):uf x (a::R) B=(a::R).reverse++x::B:=by unfold uf;rw[lA,kV h,br,Pd,eF];rfl
def aid{x a:bJ}(R B:List bJ)(h:x.order<a.order):uf x (a::R) B=uf x R (a::B):=by unfold uf;rw[lA,gu h,a8,Pd,eF];rfl
def acw{α:Type}(R:List α)(x:α)(B:List α):(R.reverse++x::B)[R.length]?=ad x:=aY
def acx{α:Type}(R:List α)(a x:α)(B:List α):((a::R).reverse++x::B)[R.length]?=ad a:=aY
def apy{α:Type}(R:List α)(a x:α)(B:List α):(((a::R).reverse++x::B).set (R.length+1) a).set R.length x=R.reverse++x::a::B:=at6
def zC(R:List bJ):List bJ->List bJ
 |[]=>R
 |x::l=>zC (lA x R) l
def Ya:∀(l R:List bJ),zC R l=l.foldl (λR x=>lA x R) R
 |[],R=>rfl
 |x::l,R=>by rw[zC,Ya l];rfl
def Uw(x:bJ)(R:List bJ):aA (lA x R)=R.length+1:=(G' x R).length_eq
def CW:∀(L:List cf),aA (h6 L)<=64*aA L
 |[]=>bu _
 |r::L=>by have h:=CW L;have a:=KX r;simp only[h6,cL,Ft,cN,cr]at h|-;omega
def w79(s:dm)(l0:jg s)(h9:aA s.bw<=9)(g:∀r∈s.bw,aS VP 150 [.agg<|du r]<|.bn [.fz<|(eC r).map cd,iV<|dY r]):aS VP 79 [.agg<|dH s] (.fz<|df<|lN<|h6 s.bw):=by
 have m0:=l0.1;have b0:=l0.2;have⟨l,o,s0,t0⟩:=s;have m0:bk l:=m0;have h9:aA l<=9:=h9;have b0:∀r∈l,eE r:=b0;have u0:=CW l;unfold lN;rw[<-Ya];refine gO Tryz.f79.eq_1 λw y=>?_;refine S0 ?_;refine lF 0 (aA l) (λi T h=>T 1=.aR 1 1 0 0/\ T 4=iV i/\ h.y=y/\ h.o 1=⟨1,0,.cells aa ab 25 4 [dH ⟨l,o,s0,t0⟩]⟩/\ ∃v,T 3=b9 (df<|h6<|l.take i) 27 v/\ b6 (h.o 27) (df<|h6<|l.take i) v 114 6) ?_ ?_ ?_;exact auG;rintro i T h P ⟨t1,t4,E,o1,v,O,b⟩;have v0:i<9223372036854775807:=aW;have o0:=b0 _<|bD P;have w0:=g _<|bD P;have c0:df (h6<|l.take<|i+1)=df (h6<|l.take i)++df (eC l[i]):=by rw[ej P];simp only[h6,dg,List.flatten_append,cL,i_,Ft,List.flatten_nil,ea]
 have h1:=CW<|l.take i;rw[ep]at h1;have h2:=KX l[i];have y0:aA (df<|h6<|l.take i)<536870912:=auC;have z0:aA (df<|eC l[i])<536870912:=auC;have C:fW 6 (df<|eC l[i])=aa:=oe (f:=cd) (λ_=>rfl) _;rw[c0];generalize df (h6<|l.take i)=A at*;have d0:ah (aA<|eC l[i]) (2^30)=aa:=at2;refine bq t1 t4 O o1 (a6 P) @bd (dF o0) (eI o0) @e5 w0.bE @cm (an C<|an d0<|Pw _ b y0 z0) ?_;exact⟨E,_,aM,F7 b⟩;rintro T h ⟨t1,t4,E,o1,v,O,b⟩;rw[bP]at O b;have A0:aA (h6 l)<=576:=aW;generalize h6 l=M at*;have B0:aA (df M)=aA M:=bj ..
 cases M with
 |nil=>have u:ax ((1:Int)<((0:Nat):Int))=ab:=rfl;have e0:ax ((1:Int)<0)=ab:=rfl;have O:T 3=.nil:=O;refine S4 t1 t4 O o1 ?_;refine lF 2 0 (λi T h=>T 3=.nil/\ T 7=iV 1/\ h.y=y) ?_ ?_ ?_;refine S1 O ?_;exact E;intro i T h P;exact absurd P<|gH _;rintro T h ⟨O,e,E⟩;refine S5 O e u e0 E ?_;rfl
 |cons x0 z=>
 obtain⟨rfl,b⟩:=b;have⟨j,N⟩:=b aY;have O:T 3=.bh 27 (h.o 27).ver 0 (aA z+1):=by rw[O];show VV.bh 27 _ 0 _=_;rw[bj,cr]
 generalize(h.o 27).ver=v at*;refine S4 t1 t4 O o1 ?_;generalize p0:zC [] (x0::z)=X;have f0:zC [x0] z=X:=p0;clear p0;refine lF 2 (aA z) (λi T h=>T 3=.bh 27 v 0 (aA z+1)/\ T 7=iV (i+1:Nat)/\ h.y=y/\ ∃j R B,h.o 27=⟨v,j,.cells ab ab 114 6<|df<|R.reverse++B⟩/\ R.length=i+1/\ aA (R.reverse++B)=aA z+1/\ zC R B=X) ?_ ?_ ?_;refine S1 O ?_;exact⟨aM,E,j,[x0],z,N,aM,aY,f0⟩;rintro i T h P ⟨O,e,E,j,R,B,N,k,d,U⟩;have Y:ax (((i+1:Nat):Int)<((aA z+1:Nat):Int))=aa:=auR;rw[cN,qs]at d
 cases B with
 |nil=>rw[f_]at d;omega
 |cons x B=>
  have C0:aA z<=575:=by rw[cr]at A0;omega
  have r0:av .i64 (((i+1:Nat):Int)+1)=((i+1+1:Nat):Int):=d' _ aW aW;rw[cr]at d;rw[zC]at U;refine S5 O e @jc N Y ?_;refine Wz (G:=λx=>dL (cJ 3<|cJ 4 x) _) (I:=λn T h=>T 3=.bh 27 v 0 (aA z+1)/\ T 7=iV (i+1:Nat)/\ T 8=iV n/\ h.y=y/\ ∃j F p,h.o 27=⟨v,j,.cells ab ab 114 6<|df<|F.reverse++x::p⟩/\ aA F=n/\ aA (F.reverse++x::p)=aA z+1/\ uf x F p=uf x R B) ?_ (i+1) ?_;rintro n T h ⟨O,e,t8,E,j,F,p,N,L,V,W⟩
  cases F with
  |nil=>subst L;have u:ax ((0:Int)<(aA ([]:List bJ):Int))=ab:=rfl;rw[aib]at W;refine S5 O e t8 u r0 ?_;refine⟨E,j,lA x R,B,?_,by rw[Uw,k],?_,U⟩;rw[N,List.reverse_nil,b7,W];rfl;exact awA
  |cons a S=>
   subst L;have u:ax ((0:Int)<(aA (a::S):Int))=aa:=by rw[c_,cr];omega
   have J:(df<|(a::S).reverse++x::p)[aA<|a::S]?=ad (cd x):=uu<|acw (a::S) x p;have t:(df<|(a::S).reverse++x::p)[aA S]?=ad (cd a):=uu<|acx S a x p;have D:aA (a::S)<aA z+1:=by simp only[cN,qs,cr]at V|-;omega
   have Z:av .i64 ((aA (a::S):Int)-1)=(aA S:Int):=by rw[cr]at D|-;exact au4
   have c:aA S<aA z+1:=by rw[cr]at D;omega
   by_cases C:x.order<a.order;have Q:ax (x.order<a.order)=aa:=gu C;rw[aid S p C]at W;have g0:((df<|(a::S).reverse++x::p).set (aA<|a::S)<|cd a)[aA S]?=ad (cd a):=by rw[List.getElem?_set_ne<|by rw[cr];omega];exact t
   have i0:((df<|(a::S).reverse++x::p).set (aA<|a::S)<|cd a).set (aA S) (cd x)=df (S.reverse++x::a::p):=by rw[<-sC,<-sC,cr,apy]
   generalize q:aA (a::S)=m at*;refine bq O e t8 u Z @fg @fk (eB D) (eB c) @c6 @bZ (an N<|an J<|an t<|an g0<|an i0 Q) ?_;refine⟨aA S,by rw[cr]at q;omega,rfl,E,j+1+1,S,a::p,rfl,rfl,?_,W⟩;simp only[cN,qs,cr]at V|-;omega;have Q:ax (x.order<a.order)=ab:=kV C;rw[aic S p C]at W;generalize q:aA (a::S)=m at*;refine bq O e t8 u Z r0 @fg @fk (eB D) (eB c) @c6 (an @bZ<|an N<|an J<|an t Q) ?_;refine⟨E,j,lA x R,B,?_,by rw[Uw,k],?_,U⟩;rw[W];rfl;exact awA
  refine⟨by simp(disch:=first|decide|omega)only[HO,HN,O],by simp(disch:=first|decide|omega)only[HO,HN,e],by simp(disch:=first|decide|omega)only[HO,HN],E,j,R,B,N,k,?_,rfl⟩;rw[cN,qs,cr];omega
 rintro T h ⟨O,e,E,j,R,B,N,k,d,U⟩;have D0:B=[]:=by rw[cN,qs]at d;exact sy aW
 subst D0;rw[ea]at N;have U:R=X:=U;subst U;have Y:ax (((aA z+1:Nat):Int)<((aA z+1:Nat):Int))=ab:=auI;have j0:ai (aA z+1) (aA<|df R.reverse)=aa:=by rw[bj,qs,k];simp
 have a0:ai (aA z+1) R.reverse.length=aa:=by rw[qs,k];simp
 have k0:(df R.reverse).take (aA z+1)=df R.reverse:=eM (by rw[bj,qs,k];exact auS);exact eN O e @jc N Y j0 a0 k0 @bZ @DS E tr
def V6{r:cf}(h:p7 r):ey 0 r.first=r.first:=by have:=h.f1;unfold ey;rw[gu aW];rfl
def Oi(r:cf)(h:p7 r):aS VP 149 [.agg<|du r] (.fz<|(oY r 0).map cd):=by
 have Y:=V6 h;have P:=Dd h 0;have X:=Gq h 0;have m:∀i (G:i<aA (eY r<|ey 0 r.first)),(eY r<|ey 0 r.first)[i]=r.first+i:=λi G=>by simp only[eY,fK,Fv,Y]
 have z:aA (eY r<|ey 0 r.first)=(r.next-r.first).toNat:=by rw[Y];simp[eY]
 have J:=h.f1;have n2:=h.n2;have W:=h.fn;have p:=h.pl;have Z:=mz r.size (by have:=h.s1;omega) (by have:=h.s2;omega);have o:r.size≠0:=by have:=h.s1;omega
 unfold oY;generalize eY r (ey 0 r.first)=l at*;refine gO Tryz.f149.eq_1 λw y=>?_;refine S4 (dF p) (eI p) @e5 @rY ?_;refine lF 0 (aA l) (λi T h=>T 1=.aR 1 1 0 0/\ T 4=uV (r.first+i)/\ h.y=y/\ h.o 1=⟨1,0,.cells aa ab 151 388 [du r]⟩/\ ∃v,T 3=b9 (((l.take i).map λn=>dp r<|dq r n).map cd) 25 v/\ b6 (h.o 25) (((l.take i).map λn=>dp r<|dq r n).map cd) v 114 6) ?_ ?_ ?_;refine S0 ?_;exact⟨by rw[show r.first+((0:Nat):Int)=r.first by omega],0,rfl,rfl,λh=>absurd aM h⟩;rintro i T D G ⟨g,Q,E,N,v,A,b⟩;have O:ax (r.first+(i:Int)<r.next)=aa:=auR;have U:=X i G;have s:=m i G;have j:aA (((l.take i).map λn=>dp r<|dq r n).map cd)<536870912:=aw9;have t:((l.take<|i+1).map λn=>dp r<|dq r n).map cd=((l.take i).map λn=>dp r<|dq r n).map cd++[cd<|dp r<|dq r l[i]]:=by rw[ej G,dg,dg];rfl
 rw[t];generalize((l.take i).map λn=>dp r<|dq r n).map cd=L at*;rw[s]at U|-;have⟨q,x⟩:=zv h U;have M:=mz (r.first+(i:Int)-1) aW aW;have w3:=d' (dq r<|r.first+i) aW aW;have w4:av .u64 (r.first+(i:Int)+1)=r.first+((i+1:Nat):Int):=by rw[mz _ aW aW];omega
 have B:ai (4+dq r (r.first+i)*6) 382=aa:=aw_;have f:=DQ p x;have I:=vo x;refine bq g Q A N (dF p) (eI p) @qO @Br O @x8 @YL (an @wZ<|an @RC<|an M<|an Z<|an @w3<|an @w4<|an (λa=>XT a _ o)<|an q<|an B<|an f<|an I<|an @uh<|an @c6<|iM b j) ?_;exact⟨E,v+1,aM,by rw[b.1];exact auh⟩;rintro T D ⟨g,Q,E,N,v,A,b⟩;have O:ax (r.first+(aA l:Int)<r.next)=ab:=auI;rw[bP]at*;exact fm g Q A N (dF p) (eI p) @qO O (gf b) E tr
def Mz(a b:Nat):((a:Int)!=(b:Int))=(a !=b):=by rw[Cf];exact aul
def Es(r:cf)(l:List Int):Nat->bJ
 |0=>zS
 |i+1=>dp r<|dq r<|(l[i]?).getD 0
def afv(x b:bJ)(i:u_):let c:=bif x.id.label==i.label then x.id.no==i.no else ab
 let k:=ax (x.kind<0)||ax (25<x.kind)
 let o:=ax (x.order<1)||ax (1099511627776<x.order)||ax (1099511627776<x.dy)
 let p:=ax (x.order<=b.order)||ax (x.dy<b.dy)
 ((!c)=aa->qH i x b=3)/\ ((!c)=ab->k=aa->qH i x b=11)/\ ((!c)=ab->k=ab->o=aa->qH i x b=2)/\ ((!c)=ab->k=ab->o=ab->p=aa->qH i x b=9)/\ ((!c)=ab->k=ab->o=ab->p=ab->qH i x b=0):=by
 intro c k o p
 have e:qH i x b=bif !c then 3 else bif k then 11 else bif o then 2 else bif p then 9 else 0:=rfl
 exact at6
def w78(r:cf)(h:eE r)(o0:∀p,0<=(dp r p).dy):aS VP 78 [.agg<|du r] (iV<|dY r):=by
 unfold dY;cases I:oN r;have f:=FR h I;have p0:=V6 f;have g1:=Oi r f;have x0:=Dd f 0;have l0:=Gq f 0;have d0:∀i (G:i<aA (eY r<|ey 0 r.first)),(eY r<|ey 0 r.first)[i]=r.first+i:=λi G=>by simp only[eY,fK,Fv,p0]
 have a0:=am7 f;have f1:=f.f1;have n2:=f.n2;have r0:=f.fn;have z:(ax (r.size<1)||ax (64<r.size)||ax (r.first<1)||ax (1099511627777<r.next)||ax (r.next<r.first)||ax (av .u64 r.size<av .u64 (r.next-r.first)))=ab:=aus;unfold oY at g1;generalize eY r (ey 0 r.first)=l at*;have v:aA (l.map λn=>dp r<|dq r n)=aA l:=bj ..;have S:∀i (G:i<aA l) (u:i<aA (l.map λn=>dp r<|dq r n)),(l.map λn=>dp r<|dq r n)[i]=dp r (dq r l[i]):=λi G u=>aY;generalize s0:(bif xu r (qi r l<|ak 64 ab)then(3:Int)else 0)=X at*;generalize t0:(l.map λn=>dp r<|dq r n)=L at*;refine gO Tryz.f78.eq_1 λw y=>?_;refine eN (dF h) (eI h) @e5 @Br @rY @qO @x8 @wZ z g1.bE @cm ?_;refine lF 0 (aA l) (λi T h=>T 1=.aR 1 1 0 0/\ T 3=.fz (L.map cd)/\ T 4=iV i/\ h.y=y/\ h.o 1=⟨1,0,.cells aa ab 151 388 [du r]⟩/\ ns r l zS=ns r (l.drop i) (Es r l i)) ?_ ?_ ?_;refine S0 ?_;exact at1;rintro i T b0 G ⟨a,A,Q,O,V,Z⟩;have u:i<aA L:=aW;have e0:=S i G u;have U:=d0 i G;rw[fD G,ns]at Z;have f0:Es r l (i+1)=dp r (dq r l[i]):=by show dp r (dq r<|(l[i]?).getD 0)=_;rw[cx G];rfl
 rw[f0];have w1:av .u64 (i:Int)=i:=mz _ (by clear Z;omega) (by clear Z;omega);have w2:av .u64 (r.first+(i:Int))=l[i]:=by rw[mz _ (by clear Z;omega)<|by clear Z;omega,U]
 have J:=Wb (dp r<|dq r l[i]).id ⟨r.label,l[i]⟩;generalize u0:dp r (dq r l[i])=x at*;have m:=a6 u;have d:=db (h:=b0) (s:=6) cd L i u;rw[e0]at d;have g0:=afv x (Es r l i) ⟨r.label,l[i]⟩;generalize c0:qH ⟨r.label,l[i]⟩ x (Es r l i)=E at*;have⟨c1,c2,c3,c4,c5⟩:=g0;have D:∀{e:Int},(e !=0)=aa->E=e->c7 (ns r l zS) X=e:=λ{e} m0 c0=>by rw[Z,c0,re m0,re m0]
 have P:E=0->ns r l zS=ns r (l.drop<|i+1) x:=λc0=>by rw[Z,c0];rfl
 cases i with
 |zero=>have o:ax ((0:Int)<((0:Nat):Int))=ab:=rfl;have h0:=o0<|dq r l[0];rw[u0]at h0;refine bq a A Q V m d o @bd (dF h) (eI h) @e5 (an @me<|an @rY<|an @x8<|an @wZ<|an w1<|an w2<|an @dW<|an @cC<|an @Kd J) ?_;refine⟨λk=>by rw[D rfl (c1 k),O],λC=>⟨λk=>by rw[D rfl (c2 C k),O],λb=>⟨λk=>by rw[D rfl (c3 C b k),O],λW=>⟨O,P<|c5 C b W ?_⟩⟩⟩⟩;simp only[gz,cE]at W|-;show¬x.order<=0/\ ¬x.dy<0;omega
 |succ j=>
  have o:ax ((0:Int)<((j+1:Nat):Int))=aa:=auR;have v0:av .i64 (((j+1:Nat):Int)-1)=(j:Int):=au4;have F:∀h:H,cF h (ae,6) (.fz<|L.map cd) (j:Int)=.ok (.bA (cd L[j]) 0):=λh=>db (s:=6) cd L j aW;have i0:=S j aW aW;have Y:Es r l (j+1)=dp r (dq r l[j]):=by show dp r (dq r<|(l[j]?).getD 0)=_;rw[cx aW];rfl
  rw[Y]at c4 c5;rw[i0]at F;generalize dp r (dq r l[j])=x2 at*;refine bq a A Q V m d F o v0 @bd (dF h) (an (eI h)<|an @e5<|an @me<|an @rY<|an @x8<|an @wZ<|an w1<|an w2<|an @dW<|an @cC<|an @Kd J) ?_;exact⟨λk=>by rw[D rfl (c1 k),O],λC=>⟨λk=>by rw[D rfl (c2 C k),O],λb=>⟨λk=>by rw[D rfl (c3 C b k),O],λW=>⟨λk=>by rw[D rfl (c4 C b W k),O],λk=>⟨O,P<|c5 C b W k⟩⟩⟩⟩⟩
 rintro T b0 ⟨a,A,Q,O,V,Z⟩;rw[fS]at Z;have Z:ns r l zS=0:=Z;rw[Z]at a0|-;rw[<-v]at Q;have a0:=a0 aM;have j0:c7 0 X=X:=rfl;rw[j0];refine S3 a A Q ?_;refine lF 3 64 (λi T h=>T 1=.aR 1 1 0 0/\ T 3=.fz (L.map cd)/\ T 7=iV i/\ h.y=y/\ h.o 1=⟨1,0,.cells aa ab 151 388 [du r]⟩/\ T 6=iV (aA ((ao i).filter λi=>iU (dp r i) zS):Nat)) ?_ ?_ ?_;refine S3 a A V ?_;exact⟨aM,O,aM⟩;rintro i T b0 G ⟨a,A,e7,O,V,B⟩;have m:ax ((i:Int)<64)=aa:=auR;have M:ai (4+i*6) 382=aa:=aw_;have U:=DQ h G;have c:=vo G;have t:=tF (λi=>iU (dp r i) zS)<|ao i;rw[nN]at t
 have w0:aA ((ao<|i+1).filter λi=>iU (dp r i) zS)=aA ((ao i).filter λi=>iU (dp r i) zS)+bif iU (dp r i) zS then 1 else 0:=by rw[wE,ry,cN,OY,List.filter_nil];cases iU (dp r i) zS<;>rfl
 rw[w0];generalize aA ((ao i).filter λi=>iU (dp r i) zS)=N at*;have k0:av .i64 ((N:Int)+1)=((N+1:Nat):Int):=d' _ aW aW;have q:=Wc (dp r i) zS;generalize iU (dp r i) zS=g at*;cases g;refine bq a A e7 B V m M U c @uh @c6 (an (dF h)<|an @cC<|an @FV<|an q @bd) ?_;exact⟨O,aM⟩;refine bq a A e7 B V m M U c @uh @c6 (an (dF h)<|an @cC<|an @FV<|an q<|an @bd k0) ?_;exact O;rintro T b0 ⟨a,A,e7,O,V,B⟩;have m:ax (((64:Nat):Int)<64)=ab:=rfl;have B:T 6=iV (Ku r:Nat):=B;rw[<-s0,a0];refine S5 a A e7 B m ?_;rw[v,O,Mz];have z:(ax (r.size<1)||ax (64<r.size)||ax (r.first<1)||ax (1099511627777<r.next)||ax (r.next<r.first)||ax (av .u64 r.size<av .u64 (r.next-r.first)))=aa:=aus;refine gO Tryz.f78.eq_1 λw y=>?_;exact S7 (dF h) @Br @rY @qO @x8 @wZ z tr
def rO:List Int->Int
 |[]=>0
 |e::l=>c7 e<|rO l
def Lb:∀{l:aL} {i:Nat} (G:i<aA l),(∀j (u:j<aA l),j<i->l[j]=0)->l[i]≠0->rO l=l[i]
 |e::l,0,_,_,h=>by rw[rO];exact re (by simpa[bne]using h)
 |e::l,i+1,G,z,h=>by have Q:e=0:=z 0 (Cv _)<|Cv _;subst Q;rw[rO];exact Lb (ka G) (λj u O=>z (j+1) (z8 u)<|z8 O) h
def Ld:∀{l:aL},(∀j (u:j<aA l),l[j]=0)->rO l=0
 |[],_=>rfl
 |e::l,z=>by have Q:e=0:=z 0<|Cv _;subst Q;rw[rO];exact Ld λj u=>z (j+1)<|z8 u
def H9(s:dm):Bool:=ax (1099511627776<s.order)||ax (1099511627776<s.IE)||ax (s.GW<1)||ax (10000<s.GW)
def e9(s:dm):Int:=bif ax (8<(aA s.bw:Int))then 6 else c7 (rO<|s.bw.map dY)<|c7 (bif jV [] (s.bw.map cf.label)then 8 else 0)<|bif H9 s then 2 else tk s
def IV(s:dm)(B:jg s):aS VP 29 [.agg<|dH s] (iV<|e9 s):=by
 have X:=w69 s B;have J:=w68 s.bw B.1 B.2;have Z:aA s.bw<1048576:=B.1;have A:=B.2;unfold e9;generalize tk s=N at*;generalize v:jV [] (s.bw.map cf.label)=D at*;unfold H9;generalize a:s.bw.map dY=E;have L:aA E=aA s.bw:=by rw[<-a,bj]
 have g:∀i (G:i<aA s.bw) (u:i<aA E),E[i]=dY s.bw[i]:=λi G u=>by subst a;simp
 obtain⟨l,o,c,z⟩:=s;have Z:aA l<1048576:=Z;have A:∀r∈l,eE r:=A;have g:∀i (G:i<aA l) (u:i<aA E),E[i]=dY l[i]:=g;have L:aA E=aA l:=L;clear a;have t:ax (8<((⟨l,o,c,z⟩:dm).bw.length:Int))=ax (8<(aA l:Int)):=rfl;rw[t];cases W:ax (8<(aA l:Int))
 case true=>refine gO Tryz.f29.eq_1 λw y=>?_;exact S1 W tr
 refine gO Tryz.f29.eq_1 λw y=>?_;refine S1 W ?_;refine lF 0 (aA l) (λi T h=>T 1=.aR 1 1 0 0/\ T 12=.fz (l.map du)/\ T 13=iV (aA l)/\ T 14=iV i/\ h.y=y/\ h.o 1=⟨1,0,.cells aa ab 25 4 [dH ⟨l,o,c,z⟩]⟩/\ (∀j (u:j<aA E),j<i->E[j]=0)) ?_ ?_ ?_;refine S0 ?_;exact avd;rintro i T h G ⟨p,f,I,M,O,V,q⟩;have P:=A _<|bD G;have m:=w67 l[i] P;have u:i<aA E:=aW;have C:=g i G u;have n:=Lb u q;rw[<-C]at m;generalize Y:E[i]=e at*;refine bq p f I M V (a6 G) @bd (dF P) (eI P) @e5 @me (an @rl<|an @rk<|an @k6<|an @bZ m.aP) ?_;refine⟨λd=>?_,λd=>⟨O,λj u k=>?_⟩⟩;have U:e≠0:=by simpa[bne]using d
 rw[n U,re d,O];by_cases S:j<i;exact q j u S;have:j=i:=aW;subst this;rw[Y];simpa[bne]using d;rintro T h ⟨p,f,I,M,O,V,q⟩;have b:=Ld λj u=>q j u aW;have Q:∀x,c7 0 x=x:=λx=>rfl;rw[b,Q];cases D;have J:aS VP 68 [.fz<|l.map du] (iV 0):=J;refine S7 p f I M V J.aP X.aP ?_;rw[O];rfl;have J:aS VP 68 [.fz<|l.map du] (iV 8):=J;refine S6 p f I M V J.aP ?_;rw[O];rfl
def kq(s:dm):Int:=bif ax (8<(aA s.bw:Int))then 6 else c7 (rO<|s.bw.map dY) (c7 (bif jV [] (s.bw.map cf.label)then 8 else 0) (bif H9 s then 2 else
 (bif (lN<|h6 s.bw).any (mN s)then 2 else bif sH (lN<|h6 s.bw)then 9 else bif (lN<|h6 s.bw).any (qX s)then 10 else 0)))
def tz(s:dm):Prop:=∀r∈s.bw,∀p,0<=(dp r p).dy
def La:∀{l:aL},rO l=0->∀e∈l,e=0
 |[],_,e,he=>absurd he aY
 |a::l,h,e,he=>by
  rw[rO]at h;have⟨V,p⟩:=oC h
  rcases dz.1 he with rfl|he
  exact V;exact La p e he
def afw{r:cf}(h:eE r)(e:dY r=0):CL zS (eC r):=by
 have w:ns r (eY r<|ey 0 r.first) zS=0:=by unfold dY at e;cases X:oN r;rw[X,br]at e;exact(oC e).1;rw[X]at e;cases e
 have:=(Gz r _ _ w).2;unfold eC;rw[e];exact aw0
def J':∀{l:List bJ} {b:bJ},CL b l->(b::l).Pairwise (λa b=>a.order<=b.order)/\ ∀x∈l,b.order<x.order/\ b.dy<=x.dy
 |[],b,_=>⟨aY,λx s=>absurd s aY⟩
 |x::l,b,⟨h,p,d⟩=>by
  have⟨C,w⟩:=J' d;have q:∀y∈x::l,b.order<y.order/\ b.dy<=y.dy:=λy Q=>by grind
  exact⟨lT.2 ⟨λy Q=>Int.le_of_lt (q y Q).1,C⟩,q⟩
def P6{α:Type}{p:α->Bool}{l m:List α}(h:l.Perm m):l.any p=m.any p:=by grind
def Iz(s:dm)(B:jg s):e9 s=kq s:=by
 unfold e9 kq;cases ax (8<(aA s.bw:Int))
 case true=>rfl
 simp only[br];by_cases j:rO (s.bw.map dY)=0;rw[j];have Q:∀x,c7 0 x=x:=λx=>rfl;rw[Q,Q];congr 2;have z:=La j;have i:∀r∈s.bw,CL zS (eC r):=λr A=>afw (B.2 r A)<|z _<|Cq A;have O:∀l∈s.bw.map eC,l.Pairwise (λa b:bJ=>a.order<=b.order):=λl P=>by obtain⟨r,A,rfl⟩:=fv.1 P;exact(lT.1 (J'<|i r A).1).2
 have⟨J,Y⟩:=VY (uM (s.bw.map eC)+1) _ (nR _) O;have⟨T,w⟩:=Iq<|h6 s.bw;have p:(pa<|s.bw.map eC).Perm (lN<|h6 s.bw):=J.trans T.symm;have g:s.bw.any (λr=>(eC r).any<|mN s)=(lN<|h6 s.bw).any (mN s):=by
  rw[<-P6 (T.symm)];unfold h6
  grind
 have G:(pa<|s.bw.map eC).any (qX s)=(lN<|h6 s.bw).any (qX s):=P6 p;have k:nF zS (pa<|s.bw.map eC)=sH (lN<|h6 s.bw):=by
  rw[<-abV p Y w];have C:∀x∈pa (s.bw.map eC),0<x.order/\ 0<=x.dy:=λx m=>by have⟨l,P,m⟩:=List.mem_flatten.1<|J.mem_iff.1 m;obtain⟨r,A,rfl⟩:=fv.1 P;exact(J'<|i r A).2 x m
  cases U:pa (s.bw.map eC)with
  |nil=>rfl
  |cons x M=>
   rw[U]at C;have⟨h,d⟩:=C x aY;have o:(x.order==zS.order)=ab:=by
    have:zS.order=0:=rfl
    grind
   have n:ax (x.dy<zS.dy)=ab:=by have:zS.dy=0:=rfl;rw[this,cE];omega
   rw[nF,o,n];rfl
 unfold tk;rw[g,k,G];rw[re<|by simpa[bne]using j,re<|by simpa[bne]using j]
def EY(s:dm)(f0:jg s)(J0:tz s)(h9:aA s.bw<=9):aS VP 35 [.agg<|dH s] (iV<|kq s):=by
 have g:∀r∈s.bw,aS VP 78 [.agg<|du r] (iV<|dY r):=λr A=>w78 r (f0.2 r A)<|J0 r A;have F:∀r∈s.bw,aS VP 150 [.agg<|du r] (.bn [.fz<|(eC r).map cd,iV<|dY r]):=λr A=>aat r (f0.2 r A) (g r A)<|Oi r;have k0:=w79 s f0 h9 F;have K0:=CW s.bw;have L0:aA (lN<|h6 s.bw)<=576:=by rw[(Iq _).1.length_eq];omega
 unfold kq;generalize lN (h6 s.bw)=M at*;have n:=@Lb<|s.bw.map dY;have l0:=@Ld<|s.bw.map dY;have a0:=@AT (s.bw.map cf.label) [];have m0:=@Dc (s.bw.map cf.label) [];have h0:∀x,c7 0 x=x:=λx=>rfl;generalize Q0:rO (s.bw.map dY)=X at*;generalize R0:jV [] (s.bw.map cf.label)=D at*;generalize o0:s.bw.map dY=E at*;generalize p0:s.bw.map cf.label=B at*;have b0:aA E=aA s.bw:=by rw[<-o0,bj]
 have c0:aA B=aA s.bw:=by rw[<-p0,bj]
 have I:∀i (G:i<aA s.bw) (u:i<aA E),E[i]=dY s.bw[i]:=λi G u=>by subst o0;simp
 have c:∀i (G:i<aA s.bw) (u:i<aA B),B[i]=s.bw[i].label:=λi G u=>by subst p0;simp
 clear o0 p0;have A:=f0.2;obtain⟨l,o,Z,z⟩:=s;have h9:aA l<=9:=h9;have A:∀r∈l,eE r:=A;have g:∀r∈l,aS VP 78 [.agg<|du r] (iV<|dY r):=g;have b0:aA E=aA l:=b0;have c0:aA B=aA l:=c0;have I:∀i (G:i<aA l) (u:i<aA E),E[i]=dY l[i]:=I;have c:∀i (G:i<aA l) (u:i<aA B),B[i]=l[i].label:=c;have r0:ax (8<((⟨l,o,Z,z⟩:dm).bw.length:Int))=ax (8<(aA l:Int)):=rfl;rw[r0];cases h8:ax (8<(aA l:Int))
 case true=>refine gO Tryz.f35.eq_1 λw y=>?_;exact S1 h8 tr
 refine gO Tryz.f35.eq_1 λw y=>?_;refine S1 h8 ?_;refine lF 0 (aA l) (λi T h=>T 1=.aR 1 1 0 0/\ T 3=iV i/\ h=(H.empty y).new 1 (.cells aa ab 25 4 [dH ⟨l,o,Z,z⟩])/\ (∀j (u:j<aA E),j<i->E[j]=0)) ?_ ?_ ?_;refine S0 ?_;exact avd;rintro i T h G ⟨J,t3,rfl,N⟩;have P:i<9223372036854775807:=aW;have g0:=A _<|bD G;have d0:=g _<|bD G;have u:i<aA E:=aW;have s0:=I i G u;have n:=n u N;rw[<-s0]at d0;generalize t0:E[i]=e at*;refine S8 J t3 (a6 G) @bd (dF g0) (eI g0) @e5 d0.aP ?_;refine⟨λf=>?_,λf j u u0=>?_⟩;have v0:e≠0:=by simpa[bne]using f
 rw[n v0,re f];by_cases L:j<i;exact N j u L;have:j=i:=aW;subst this;rw[t0];simpa[bne]using f
 ·rintro T h ⟨J,t3,rfl,N⟩;have w0:=l0 λj u=>N j u aW;subst w0;rw[h0];refine S2 J t3 ?_;refine lF 2 (aA l) (λi T h=>T 1=.aR 1 1 0 0/\ T 5=iV i/\ h=(H.empty y).new 1 (.cells aa ab 25 4 [dH ⟨l,o,Z,z⟩])/\ (∀j (u:j<aA B),j<i->(B.take j).any (λm=>m==B[j])=ab)) ?_ ?_ ?_;refine S1 J ?_;exact avd;rintro i T h G ⟨J,d,rfl,N⟩;have P:i<9223372036854775807:=aW;have u:i<aA B:=aW;have g0:=A _<|bD G;refine S3 J d (a6 G) ?_;refine oF 3 4 i (λk T h=>T 1=.aR 1 1 0 0/\ T 5=iV i/\ T 6=iV k/\ h=(H.empty y).new 1 (.cells aa ab 25 4 [dH ⟨l,o,Z,z⟩])/\ (B.take k).any (λm=>m==B[i])=ab) ?_ ?_ ?_;refine S2 J d ?_;exact at1;rintro k T h M0 ⟨J,d,t6,rfl,b⟩;have O0:k<9223372036854775807:=aW;have a:k<aA l:=aW;have Y:k<aA B:=aW;have y0:=A _<|bD a;have W:=vb (p:=λm=>m==B[i]) Y;rw[b,jP,c k a Y]at W;have z0:(l[k].label==B[i])=(l[k].label==l[i].label):=by rw[c i G u]
  rw[z0]at W;refine S8 J d t6 (a6 M0) @bd (dF g0) (dF y0) @me ?_;refine⟨λf=>?_,λf=>by rw[<-f];exact W⟩
  have A0:D=aa:=a0 u (by
   rw[b7];refine mD.2 ⟨B[k],?_,by rw[c k a Y,c i G u];exact f⟩
   exact Fx.2 ⟨k,aW,rfl⟩)
  rw[A0];rfl;rintro T h ⟨J,d,t6,rfl,b⟩;refine S5 J d t6 (a6 G) @bd ?_;intro j B0 u0;by_cases L:j<i;exact N j B0 L;have:j=i:=aW;subst this;exact b
  ·rintro T h ⟨J,d,rfl,N⟩;have C0:=m0 λi G=>N i G aW;subst C0;have D0:(bif ab then(8:Int)else 0)=0:=rfl;rw[D0,h0];unfold H9;cases I0:(ax (1099511627776<o)||ax (1099511627776<Z)||ax (z<1)||ax (10000<z))
   case true=>exact S3 J d I0 tr
   refine S5 J d I0 k0.bE @cm ?_;generalize E0:(H.empty y).new 1 (.cells aa ab 25 4 [dH ⟨l,o,Z,z⟩])=h1;have i0:h1.y=y:=by rw[<-E0];rfl
   have o1:h1.o 1=⟨1,0,.cells aa ab 25 4 [dH ⟨l,o,Z,z⟩]⟩:=by rw[<-E0,jt,TS]
   clear E0;refine lF 6 (aA M) (λi T h=>T 1=.aR 1 1 0 0/\ T 7=.fz (df M)/\ T 8=iV i/\ h=h1/\ (M.take i).any (mN ⟨l,o,Z,z⟩)=ab) ?_ ?_ ?_;refine S1 J ?_;exact at1;rintro i T h G ⟨J,S,t8,rfl,U⟩;have P:i<9223372036854775807:=aW;have q:=λh=>gI (p:=mN ⟨l,o,Z,z⟩) G h;have V:=λh=>gJ (p:=mN ⟨l,o,Z,z⟩) G U h;have O:mN ⟨l,o,Z,z⟩ M[i]=(ax (o<M[i].order)||ax (Z<M[i].dy)):=rfl;rw[O]at q V;refine S6 J S t8 o1 (a6 G) @bd ?_;exact⟨λh=>by rw[q h,i0];rfl,V⟩;rintro T h ⟨J,S,t8,rfl,U⟩;rw[bP]at U;rw[U,br];refine S4 J S t8 o1 ?_;have e0:sH M=nF ((M[0]?).getD zS) (M.drop 1):=by cases M<;>rfl
   refine lF 8 (aA M-1) (λi T j0=>T 1=.aR 1 1 0 0/\ T 7=.fz (df M)/\ T 9=iV (i+1:Nat)/\ j0=h/\ sH M=nF ((M[i]?).getD zS) (M.drop<|i+1)) ?_ ?_ ?_;refine S2 J S ?_;exact⟨aM,e0⟩;rintro i T j0 G ⟨J,S,t9,rfl,Q⟩;have C:i+1<aA M:=aW;have t:ax (((i+1:Nat):Int)<(aA M:Int))=aa:=auR;have P0:av .i64 (((i+1:Nat):Int)+1)=((i+1+1:Nat):Int):=d' _ aW aW;have F0:av .i64 (((i+1:Nat):Int)-1)=(i:Int):=au4;have G0:∀h:H,cF h (ae,6) (.fz<|M.map cd) ((i+1:Nat):Int)=.ok (.bA (cd M[i+1]) 0):=λh=>db (s:=6) cd M (i+1) C;have H0:∀h:H,cF h (ae,6) (.fz<|M.map cd) (i:Int)=.ok (.bA (cd M[i]) 0):=λh=>db (s:=6) cd M i aW;rw[fD C,nF,cx<|show i<aA M by omega,FC]at Q;rw[cx C,FC];generalize M[i+1]=x1 at*;generalize M[i]=x0 at*;refine S8 J S t9 t P0 F0 G0 H0 ?_;exact⟨λh=>by rw[Q,h,i0];rfl,λh=>by rw[Q,h];rfl⟩;rintro T j0 ⟨J,S,t9,rfl,Q⟩;have t:ax (((aA M-1+1:Nat):Int)<(aA M:Int))=ab:=auI;rw[mZ aW,nF]at Q;rw[Q,br];refine S4 J S t9 t ?_;refine lF 10 (aA M) (λi T h=>T 1=.aR 1 1 0 0/\ T 7=.fz (df M)/\ T 10=iV i/\ h=j0/\ (M.take i).any (qX ⟨l,o,Z,z⟩)=ab) ?_ ?_ ?_;refine S2 J S ?_;exact at1;rintro i T h G ⟨J,S,v,rfl,U⟩;have P:i<9223372036854775807:=aW;have q:=λh=>gI (p:=qX ⟨l,o,Z,z⟩) G h;have V:=λh=>gJ (p:=qX ⟨l,o,Z,z⟩) G U h;have O:qX ⟨l,o,Z,z⟩ M[i]=ax (av .u64 (M[i].dy+z)<=Z):=rfl;rw[O]at q V;refine S6 J S v o1 (a6 G) @bd ?_;exact⟨λh=>by rw[q h,i0];rfl,V⟩;rintro T h ⟨J,S,v,rfl,U⟩;rw[bP]at U;rw[U];refine S4 J S v o1 ?_;rw[i0]
def eW(c:Int):Nat->List cf->List (Nat×cf)
 |_,[]=>[]
 |i,r::l=>bif below r.label c then(i,r)::eW c (i+1) l else eW c (i+1) l
abbrev qc(p:Nat×cf):List VV:=[iV p.1,.agg<|du p.2]
def Ih{c:Int}{l:List cf}{i:Nat}(G:i<aA l):eW c i (l.drop i)=bif below l[i].label c then(i,l[i])::eW c (i+1) (l.drop<|i+1)else eW c (i+1) (l.drop<|i+1):=by rw[fD G,eW]
def YN{c:Int}:∀{l:List cf} {i:Nat} {p:Nat×cf},p∈eW c i l->i<=p.1/\ l[p.1-i]?=ad p.2/\ below p.2.label c=aa
 |[],i,p,h=>absurd h (by simp[eW])
 |r::l,i,p,h=>by
  rw[eW]at h;have q:p∈eW c (i+1) l->i<=p.1/\ (r::l)[p.1-i]?=ad p.2/\ below p.2.label c=aa:=λh=>by
   have⟨V,a,d⟩:=YN h
   grind
  grind
def BX{c:Int}{l:List cf}{p:Nat×cf}(h:p∈eW c 0 l):∃M:p.1<aA l,l[p.1]=p.2:=by
 have⟨_,a,_⟩:=YN h
 grind
def E_(s:dm)(c:Int):aS VP 74 [.agg<|dH s,uV c] (.func 147 [] [.bA (dH s) 0,.bA [uV c] 0]):=by have⟨l,o,t,z⟩:=s;refine gO Tryz.f74.eq_1 λw y=>?_;exact aug
def Dw(s:dm)(c:Int)(B:jg s):iK VP 147 [.yield,.bA (dH s) 0,.bA [uV c] 0] ((eW c 0 s.bw).map qc):=by refine xk agi apI λw y b N Q=>?_;have P:aA s.bw<1048576:=B.1;have p:=B.2;have⟨l,o,Z,z⟩:=s;have P:aA l<1048576:=P;have p:∀r∈l,eE r:=p;have Q:dv w y ((eW c 0 l).map qc)=.ok (b,N):=Q;refine S1 Tryz.f147.eq_1 ?_;refine vS (F:=λx=>dC VP _<|cJ 0 x) (aA l) (λi T h=>T 0=.yield/\ T 2=.bA [uV c] 0/\ T 7=.fz (l.map du)/\ T 8=iV (aA l)/\ T 9=iV i/\ dv w h.y ((eW c i<|l.drop i).map qc)=.ok (b,N)) ?_ ?_ ?_;refine S0 ?_;exact⟨aM,Q⟩;rintro i T h G ⟨O,W,S,L,A,Q⟩;have e:=p _<|bD G;have M:=w96 l[i] c e;rw[Ih G]at Q;cases q:below l[i].label c;rw[q]at Q M;refine bq O W S L A (a6 G) @bd (dF e) (eI e) @e5 @me (an @rl<|an @rk<|an @k6<|an @bZ M.aP) ?_;exact Q;rw[q]at Q M;simp only[a8,cL,dv]at Q;rw[bF]at Q;have⟨u,V,Q⟩:=Q;cases u;cases Q;exact bq O W S L A (a6 G) @bd (dF e) (eI e) @e5 @me (an @rl<|an @rk<|an @k6<|an @bZ<|an M.aP V) tr;rw[a8]at Q;refine bq O W S L A (a6 G) @bd (dF e) (eI e) @e5 @me (an @rl<|an @rk<|an @k6<|an @bZ<|an M.aP V) ?_;exact Q;rintro T h ⟨O,W,S,L,A,Q⟩;rw[fS]at Q;have Q:dv w h.y []=.ok (b,N):=Q;simp only[dv]at Q;cases Q;exact S5 O W S L A tr
def ef(l:List Int)(i:Nat):Int:=(l[i]?).getD 0
abbrev iR(c:Int)(l:List Int):List VV:=[uV c,uL l]
def r'(next:List Int)(n:Int)(p:Nat×cf):Int:=bif ax (ef next p.1<p.2.first)then av .u64 (n+IntKind.wrap .u64 (p.2.first-ef next p.1))else n
def uq(s:dm)(c:Int)(next:List Int):Int:=(eW c 0 s.bw).foldl (r' next) 0
def vI{h:H}(l:aL)(i:Nat)(G:i<aA l):cF h (ae,1) (uL l) (i:Int)=.ok (.bA [uV<|ef l i] 0):=by rw[db (λn=>[uV n]) l i G];unfold ef;rw[cx G];rfl
def aq8(s:dm)(c:Int)(next:aL)(B:jg s)(hn:aA next=aA s.bw):aS VP 112 [.agg<|dH s,.agg<|iR c next] (uV<|uq s c next):=by
 have P:=Dw s c B;have b:=E_ s c;have t:=B.2;unfold uq
 have N:∀p∈eW c 0 s.bw,p.1<aA next/\ eE p.2:=λp M=>by have⟨V,a⟩:=BX M;exact⟨aW,by rw[<-a];exact t _<|bD V⟩
 generalize eW c 0 s.bw=l at*;have⟨k,o,Z,z⟩:=s;refine gO Tryz.f112.eq_1 λw y=>?_;refine S2 b.bE @cm ?_;generalize S:Vm.dX _ _ _=T;have O:T 3=.aR 3 1 0 0:=by rw[<-S];exact aug
 have X:T 4=.aR 4 1 0 0:=by rw[<-S];exact aug
 clear S;refine rF 0 (l.map qc) P aM (λi h=>h.y=y/\ h.o 3=⟨1,0,.cells aa ab 45 2 [iR c next]⟩/\ ∃m,h.o 4=⟨1,m,.cells aa ab 23 1 [[uV<|(l.take i).foldl (r' next) 0]]⟩) ?_ ?_ ?_;refine S1 @cm ?_;exact⟨0,aM⟩;rintro i h G ⟨E,F,m,D⟩;rw[bj]at G;rw[fK];have⟨n,e⟩:=N _<|bD G
 have v:(l.take<|i+1).foldl (r' next) 0=r' next ((l.take i).foldl (r' next) 0) l[i]:=by rw[ej G,jQ];rfl
 rw[v];generalize(l.take i).foldl (r' next) 0=A at*;generalize l[i]=p at*;have⟨j,r⟩:=p
 have x:=λh=>vI (h:=h) next j n
 unfold r';refine bq qc.eq_1 O X F D (dF e) (eI e) @e5 @rY @rl @rk (an @k6<|an @bZ x) ?_;exact⟨λ_=>⟨E,_,aM⟩,λ_=>⟨E,_,aM⟩⟩;rintro h ⟨E,F,m,D⟩;rw[bj,bP]at D;refine S4 O X F D ?_;rw[E]
def sW(c:Int)(p:cf×Int):Bool:=!below p.1.label c&&(p.2!=0)
def tp(next:List Int)(p:Nat×cf):Bool:=ax (ef next p.1<1)||ax (p.2.next<ef next p.1)
def gr(s:dm)(c:Int)(next:List Int):Int:=bif (aA next:Int)!=(aA s.bw:Int)then 2 else bif (s.bw.zip next).any (sW c)then 13 else bif (eW c 0 s.bw).any (tp next)then 2 else 0
def abn{l:List cf}{next:aL}{i:Nat}(G:i<aA l)(hn:aA next=aA l):∃z:i<aA (l.zip next),(l.zip next)[i]=(l[i],ef next i):=by refine⟨by rw[List.length_zip];omega,?_⟩;rw[List.getElem_zip];unfold ef;rw[cx aW];rfl
def Ox(s:dm)(c:Int)(next:aL)(v:jg s)(hn:bk next):aS VP 48 [.agg<|dH s,.agg<|iR c next] (iV<|c7 (e9 s)<|gr s c next):=by
 have A:=IV s v;have m:=Dw s c v;have C:=E_ s c;have M:aA s.bw<1048576:=v.1;have a:=v.2;have J:∀p∈eW c 0 s.bw,p.1<aA s.bw/\ eE p.2:=λp a0=>by have⟨d,h2⟩:=BX a0;exact⟨d,by rw[<-h2];exact a _<|bD d⟩
 generalize d0:e9 s=E at*;unfold gr;generalize eW c 0 s.bw=V at*;have⟨l,o,b0,z⟩:=s;have M:aA l<1048576:=M;have a:∀r∈l,eE r:=a;have J:∀p∈V,p.1<aA l/\ eE p.2:=J;cases f:(E !=0)
 case true=>rw[re f];refine gO Tryz.f48.eq_1 λw y=>?_;exact S2 A.aP f tr
 rw[NV f]
 show aS _ _ _<|iV<|bif (aA next:Int)!=(aA l:Int)then 2 else bif (l.zip next).any (sW c)then 13 else bif V.any (tp next)then 2 else 0
 cases Q:((aA next:Int)!=(aA l:Int))
 case true=>refine gO Tryz.f48.eq_1 λw y=>?_;exact S3 A.aP f Q tr
 have S:aA next=aA l:=by rw[Mz]at Q;simpa[bne]using Q
 refine gO Tryz.f48.eq_1 λw y=>?_;refine S3 A.aP f Q ?_;refine lF 0 (aA l) (λi T h=>T 2=.aR 2 1 0 0/\ T 3=.aR 3 1 0 0/\ T 4=.aR 4 1 0 0/\ T 23=.fz (l.map du)/\ T 24=iV (aA l)/\ T 25=iV i/\ h.y=y/\ h.o 2=⟨1,0,.cells aa ab 25 4 [dH ⟨l,o,b0,z⟩]⟩/\ h.o 3=⟨1,0,.cells aa ab 45 2 [iR c next]⟩/\ h.o 4=⟨1,0,.cells aa ab 55 1 [[iV 0]]⟩/\ ((l.zip next).take i).any (sW c)=ab) ?_ ?_ ?_;refine S0 ?_;exact at1;rintro i T h G ⟨Z,L,X,b,t,W,U,k,F,D,q⟩;have e:=a _<|bD G;have c0:=w96 l[i] c e;have⟨I,g⟩:=abn G S;have n:=λh=>gI (p:=sW c) I h;have O:=λh=>gJ (p:=sW c) I q h
 have x:=λh=>vI (h:=h) next i aW
 rw[g]at n O;have P:sW c (l[i],ef next i)=(!below l[i].label c&&(ef next i !=0)):=rfl;rw[P]at n O
 generalize ef next i=N at*
 generalize below l[i].label c=B at*;refine bq Z L X b t W k F D (a6 G) @bd (an (dF e)<|an (eI e)<|an @e5<|an @me<|an @rl<|an @rk<|an @k6<|an @bZ<|an c0.aP x) ?_;exact awM;rintro T h ⟨Z,L,X,b,t,W,U,k,F,D,q⟩;rw[<-S,show aA next=aA (l.zip next) by rw[List.length_zip];omega,bP]at q;rw[q,br];refine eN Z L X b t W k F D C.bE @cm ?_;refine rF 2 (V.map qc) m aM (λi h=>h.y=y/\ h.o 3=⟨1,0,.cells aa ab 45 2 [iR c next]⟩/\ h.o 4=⟨1,0,.cells aa ab 55 1 [[iV 0]]⟩/\ (V.take i).any (tp next)=ab) ?_ ?_ ?_;refine S1 @cm ?_;exact⟨U,F,D,aM⟩;rintro i h G ⟨U,F,D,q⟩;rw[bj]at G;rw[fK];have⟨u,e⟩:=J _<|bD G;have n:=λh=>gI (p:=tp next) G h;have O:=λh=>gJ (p:=tp next) G q h;generalize V[i]=p at*;have⟨j,r⟩:=p
 have x:=λh=>vI (h:=h) next j (by rw[S];exact u)
 have Y:tp next (j,r)=(ax (ef next j<1)||ax (r.next<ef next j)):=rfl
 rw[Y]at n O
 generalize ef next j=N at*
 refine bq qc.eq_1 L X F D (dF e) (eI e) @e5 @qO @rl @rk (an @k6<|an @bZ x) ?_;exact awM;rintro h ⟨U,F,D,q⟩;rw[bj,bP]at q;rw[q];refine S4 L X F D ?_;rw[U]
abbrev fB(p:bJ×Bool):List VV:=[uV p.1.id.label,uV p.1.id.no,uV p.1.order,uV p.1.dy,iV p.1.kind,iV p.1.value,bV p.2]
def aqn:cP VP.D 270=.ok (.struct #[{name:= "event",type:=114,offset:=0,embedded:=ab,tag:= "",pkgPath:= "partywall/cursor",byteOffset:=0},{name:= "is",type:=4,offset:=6,embedded:=ab,tag:= "",pkgPath:= "partywall/cursor",byteOffset:=48}]):=aV
def ak2:VP.D.ma 270=aa:=aV
def ahf:o_ VP.D 10 270=aa:=aV
def arA(p q:bJ×Bool):aS VP 180 [.agg<|fB p,.agg<|fB q] (bV<|ax<|p.1.order<q.1.order):=by refine gO Tryz.f180.eq_1 λw y=>?_;exact aug
def mh(L:List<|bJ×Bool):Nat->Int->List (bJ×Bool)->Int
 |_,f,[]=>f
 |i,f,p::l=>mh L (i+1) (bif p.2&&(ax (f<0)||ax (p.1.order<((L[f.toNat]?).map λq=>q.1.order).getD 0))then(i:Int)else f) l
def ajC{L:List (bJ×Bool)}{i:Nat}{f:Int}(G:i<aA L):mh L i f (L.drop i)=mh L (i+1) (bif L[i].2 &&(ax (f<0)||ax (L[i].1.order<((L[f.toNat]?).map λq=>q.1.order).getD 0))then(i:Int)else f) (L.drop<|i+1):=by rw[fD G,mh]
def yW(p:bJ×Bool):Prop:=p.2=ab->p.1=zS
def afh(n:Nat)(s t:bJ):bX VP.D (n+3) 114 (.agg [.aN<|.int .u64 s.id.label,.aN<|.int .u64 s.id.no,.aN<|.int .u64 s.order,.aN<|.int .u64 s.dy,.aN<|.int .i64 s.kind,.aN<|.int .i64 s.value]) (.agg [.aN<|.int .u64 t.id.label,.aN<|.int .u64 t.id.no,.aN<|.int .u64 t.order,.aN<|.int .u64 t.dy,.aN<|.int .i64 t.kind,.aN<|.int .i64 t.value])=.ok (!iU s t):=by unfold bX;rw[IH];simp only[ca,aO,MP,dj,eqFields];simp only[M7,se,BM,HW,e6,j7,i',List.getElem?_cons_zero,oK,AZ,KU,KW,Sp,iU,Fk];cases h:(bif s.id.label==t.id.label then s.id.no==t.id.no else ab)<;>cases a:(s.order==t.order)<;>cases d:(s.dy==t.dy)<;>cases A:(s.kind==t.kind)<;>cases Z:(s.value==t.value)<;>rfl
def afk(n:Nat)(a b:Bool):bX VP.D (n+1) 4 (.aN<|.bool a) (.aN<|.bool b)=.ok (a==b):=by unfold bX;rw[ER];rfl
def alQ(cs:aD)(o:Nat):Go.Dt.part VP.D 4 cs o=(match cs[o]? with|some v=>.ok v|none=>.error ""):=by unfold Go.Dt.part;rw[ER];exact awx
def aki(p:bJ×Bool)(h:yW p)(q:Bool):ky VP.D .neq 270 (.agg<|fB p) (.agg<|fB (zS,ab)) q=.ok (bV p.2):=by
 have⟨s,b⟩:=p;have e:b=ab->s=zS:=h;have h:bX VP.D 10 270 (.agg [.aN<|.int .u64 s.id.label,.aN<|.int .u64 s.id.no,.aN<|.int .u64 s.order,.aN<|.int .u64 s.dy,.aN<|.int .i64 s.kind,.aN<|.int .i64 s.value,.aN<|.bool b]) (.agg [.aN<|.int .u64 0,.aN<|.int .u64 0,.aN<|.int .u64 0,.aN<|.int .u64 0,.aN<|.int .i64 0,.aN<|.int .i64 0,.aN<|.bool ab])=.ok (!b):=by unfold bX;rw[aqn];simp only[ca,aO,ak2,dj,eqFields];rw[cG aT,cG aT];have z:bX VP.D 9 114 (.agg [.aN<|.int .u64 s.id.label,.aN<|.int .u64 s.id.no,.aN<|.int .u64 s.order,.aN<|.int .u64 s.dy,.aN<|.int .i64 s.kind,.aN<|.int .i64 s.value]) (.agg [.aN<|.int .u64 0,.aN<|.int .u64 0,.aN<|.int .u64 0,.aN<|.int .u64 0,.aN<|.int .i64 0,.aN<|.int .i64 0])=.ok (!iU s zS):=afh 6 s zS;simp only[Xc,alQ,e6,j7,i',List.getElem?_cons_zero,oK,z,afk];cases b;rw[e rfl];rfl;exact at6
 have:=xE (xs:=fB (s,b)) (ys:=fB (zS,ab)) q ahf aM aM h;exact at6
def UM{α:Type}{f:α->aC}{n:Nat}{h:H}{l:List α}{i:Nat}(G:i<aA l)(j:aA (f l[i])=n):cF h (ae,n) (.fz<|l.map f) (i:Int)=.ok (.bA (f l[i]) 0):=by rw[db f l i G,j,gX];rfl
def arz(L:List<|bJ×Bool)(hn:bk L)(Q:∀p∈L,yW p):aS VP 179 [.fz<|L.map fB,.agg<|fB (zS,ab),.func 180 [] []] (iV<|mh L 0 (-1) L):=by
 generalize o:mh L 0 (-1) L=X;have o:mh L 0 (-1) (L.drop 0)=X:=o;refine gO Tryz.f179.eq_1 λw y=>?_;refine S0 ?_;refine lF 0 (aA L) (λi T h=>T 0=.fz (L.map fB)/\ T 2=.func 180 [] []/\ T 4=.aR 4 1 0 0/\ T 10=.fz (L.map fB)/\ T 11=iV (aA L)/\ T 12=iV i/\ h.y=y/\ h.o 4=⟨1,0,.cells aa ab 270 7 [fB (zS,ab)]⟩/\ ∃f,T 7=iV f/\ mh L i f (L.drop i)=X/\ (f=-1\/ ∃k:Nat,f=k/\ k<aA L)) ?_ ?_ ?_;refine S0 ?_;exact⟨aM,-1,aM,o,.inl aM⟩;rintro i T h G ⟨O,U,N,u,V,W,E,J,f,S,o,j⟩;have x:=λh=>UM (h:=h) (f:=fB) (n:=7) G aM;have C:=aki _ (Q _<|bD G) ab;rw[ajC G]at o
 rcases j with rfl|⟨k,rfl,B⟩
 have l:ax ((-1:Int)<0)=aa:=rfl;rw[l,rm,uO]at o;generalize L[i]=p at*;refine bq O U N u V W S J (a6 G) @bd x (an C l) ?_;exact⟨λM=>⟨E,i,aM,by rw[M]at o;exact o,.inr ⟨i,aM,G⟩⟩,λM=>⟨E,-1,aM,by rw[M]at o;exact o,.inl aM⟩⟩;have l:ax ((k:Int)<0)=ab:=aY;have d:=λh=>UM (h:=h) (f:=fB) (n:=7) B aM;have D:=arA L[i] L[k];rw[l,jP,c6,cx B]at o;generalize L[k]=pk at*;generalize L[i]=p at*;have⟨s,b⟩:=p;cases b;refine bq O U N u V W S J (a6 G) @bd x (an d<|an C l) ?_;exact⟨E,k,aM,o,.inr ⟨k,aM,B⟩⟩;have o:mh L (i+1) (bif ax (s.order<pk.1.order)then(i:Int)else k) (L.drop<|i+1)=X:=o;have D:aS VP 180 [.agg<|fB (s,aa),.agg<|fB pk] (bV<|ax<|s.order<pk.1.order):=D;refine bq O U N u V W S J (a6 G) @bd x (an d<|an C<|an l D.aP) ?_;exact⟨λt=>⟨E,i,aM,by rw[t]at o;exact o,.inr ⟨i,aM,G⟩⟩,λt=>⟨E,k,aM,by rw[t]at o;exact o,.inr ⟨k,aM,B⟩⟩⟩;rintro T h ⟨O,U,N,u,V,W,E,J,f,S,o,j⟩;rw[fS]at o;have o:f=X:=o;subst o;refine S7 O U N u V W S ?_;rw[E]
def S_{α:Type}{k:Nat}{f:α->aC}(j:∀x,aA (f x)=k)(x:α):∀(l:List α) (i:Nat),i<aA l->(l.flatMap f).take (i*k)++(f x++(l.flatMap f).drop (i*k+k))=(l.set i x).flatMap f
 |[],i,h=>absurd h<|gH _
 |a::l,0,_=>by rw[kb,i',b7,bZ,kP,Jf<|j a];rfl
 |a::l,i+1,h=>by have I:=S_ j x l i<|ka h;rw[Jr,kP,kP,<-I,lU,nQ (i*k) k,Pf,zY,j a];have g:(f a).take (k+i*k)=f a:=eM (by rw[j];omega);exact at6
def h8(r:cf)(g:Int):List bJ:=bif dY r==0 then oY r g else[]
def aan(r:cf)(g:Int)(h:eE r):aS VP 115 [.agg<|du r,uV g] (.bn [.fz<|(h8 r g).map cd,iV<|dY r]):=by
 have:=aam r g h;unfold h8
 grind
def nu(next:List Int)(A:List<|bJ×Bool)(p:Nat×cf):List (bJ×Bool):=match h8 p.2 (ef next p.1)with
 |[]=>A
 |e::_=>A.set p.1 (e,aa)
def qM(s:dm)(c:Int)(next:List Int):List (bJ×Bool):=(eW c 0 s.bw).foldl (nu next)<|ak 8 (zS,ab)
def TT(next:aL)(A:List<|bJ×Bool)(p:Nat×cf):aA (nu next A p)=aA A:=by unfold nu;split<;>simp
def GV(next:aL):∀(P:List<|Nat×cf) (A:List<|bJ×Bool),aA (P.foldl (nu next) A)=aA A
 |[],A=>rfl
 |p::P,A=>by rw[gn,GV next P,TT]
def ahA(next:aL){A:List (bJ×Bool)}(h:∀p∈A,yW p)(p:Nat×cf):∀q∈nu next A p,yW q:=by
 unfold nu;split;exact h;intro q M
 rcases wD M with M|rfl
 exact h q M;exact λh=>by cases h
def TZ(next:aL):∀(P:List<|Nat×cf) (A:List<|bJ×Bool),(∀p∈A,yW p)->∀p∈P.foldl (nu next) A,yW p
 |[],A,h=>h
 |p::P,A,h=>TZ next P _ (ahA next h p)
def No:sh VP.D 271=.ok (ad 8,7):=aV
def acZ(s:bJ):ga VP.D 270 [(0,.agg<|cd s),(1,bV aa)]=.ok (.agg<|fB (s,aa)):=aV
def QC:ga VP.D 270 []=.ok (.agg<|fB (zS,ab)):=aV
def Lh{A:List (bJ×Bool)}(h:aA A=8):aA (A.flatMap fB)=56:=by rw[Dm (k:=7)<|λ_=>rfl,h]
def ary(s:dm)(c:Int)(next:aL)(d:jg s)(q0:aA s.bw<=8)(hn:aA next=aA s.bw):aS VP 178 [.agg<|dH s,.agg<|iR c next] (.agg<|(qM s c next).flatMap fB):=by
 have Z:=Dw s c d;have b:=E_ s c;have a0:=d.2
 have J:∀p∈eW c 0 s.bw,p.1<8/\ p.1<aA next/\ eE p.2:=λp M=>by have⟨h1,h2⟩:=BX M;exact⟨aW,aW,by rw[<-h2];exact a0 _<|bD h1⟩
 unfold qM;generalize eW c 0 s.bw=l at*;have⟨d0,o,e0,z⟩:=s;refine gO Tryz.f178.eq_1 λw y=>?_;refine S2 b.bE @cm ?_;generalize S:Vm.dX _ _ _=T;have O:T 3=.aR 3 1 0 0:=by rw[<-S];exact aug
 have B:T 4=.aR 4 1 0 0:=by rw[<-S];exact aug
 clear S;refine rF 0 (l.map qc) Z aM (λi h=>h.y=y/\ h.o 3=⟨1,0,.cells aa ab 45 2 [iR c next]⟩/\ ∃m,h.o 4=⟨1,m,.cells aa ab 271 56 [((l.take i).foldl (nu next)<|ak 8 (zS,ab)).flatMap fB]⟩) ?_ ?_ ?_;refine S1 @cm ?_;exact⟨0,aM⟩;rintro i h g ⟨E,F,m,D⟩;rw[bj]at g;rw[fK];have⟨C,u,X⟩:=J _<|bD g
 have b0:(l.take<|i+1).foldl (nu next) (ak 8 (zS,ab))=nu next ((l.take i).foldl (nu next)<|ak 8 (zS,ab)) l[i]:=by rw[ej g,jQ];rfl
 have W:=GV next (l.take i) (ak 8 (zS,ab))
 rw[jR]at W;rw[b0];generalize(l.take i).foldl (nu next) (ak 8 (zS,ab))=A at*;generalize l[i]=p at*;have⟨j,r⟩:=p
 have x:=λh=>vI (h:=h) next j u
 have G:=aan r (ef next j) X;unfold nu
 generalize ef next j=N at*
 show ew _<|Lr (λh=>h.y=y/\ h.o 3=_/\ ∃m,h.o 4=⟨1,m,.cells aa ab 271 56 [(match h8 r N with|[]=>A|e::_=>A.set j (e,aa)).flatMap fB]⟩) _;have P:=Lh W
 cases L:h8 r N with
 |nil=>rw[L]at G;have U:ax ((0:Int)<((0:Nat):Int))=ab:=rfl;refine bq qc.eq_1 O B F D (dF X) (eI X) @e5 @rl @rk @k6 (an @bZ<|an x<|an G.bE<|an @cm<|an @cC U) ?_;exact⟨E,m,aM⟩
 |cons e t=>
  rw[L]at G;have Y:(A.flatMap fB).take (j*7)++(uV e.id.label::uV e.id.no::uV e.order::uV e.dy::iV e.kind::iV e.value::bV aa::(A.flatMap fB).drop (j*7+7))=(A.set j (e,aa)).flatMap fB:=S_ (k:=7) (f:=fB) (λ_=>rfl) (e,aa) A j aW;have U:ax ((0:Int)<(aA (cd e::t.map cd):Int))=aa:=by rw[cr,c_];omega
  have I:=vo C;have V:ai (j*7) 49=aa:=aw_;refine bq qc.eq_1 O B F D (dF X) (eI X) @e5 @rl @rk @k6 (an @bZ<|an x<|an G.bE<|an @cm<|an @dW<|an @cC<|an @DJ<|an @acZ<|an @No<|an @uh<|an I<|an @c6<|an P<|an V<|an Y U) ?_;exact⟨E,_,aM⟩
 rintro h ⟨E,F,m,D⟩;rw[bj,bP]at D
 have W:=GV next l (ak 8 (zS,ab))
 rw[jR]at W;generalize l.foldl (nu next) (ak 8 (zS,ab))=A at*;have P:=Lh W;have q:(A.flatMap fB).take 56=A.flatMap fB:=eM (by rw[P];exact auS);have Q:(A.flatMap fB).drop 56=[]:=mZ (by rw[P];exact auS);have a:∀(h:H) (n:Nat),d_ (cq h<|n+1) (A.flatMap fB)=.ok (A.flatMap fB,[]):=λh n=>Lx λv c0=>by
  have⟨p,_,M⟩:=oL.1 c0;simp only[dz,List.not_mem_nil,or_false]at M
  rcases M with M|M|M|M|M|M|M<;>exact⟨_,M⟩
 refine S9 O B F D P q Q a @k6 ?_;rw[E]
def W9:∀A:List<|bJ×Bool,(eU<|A.flatMap fB).isSome=aa
 |[]=>rfl
 |p::A=>by have I:=W9 A;have⟨r,x⟩:=JC.1 I;simp only[kP,fB,ck,b7,eU,x];rfl
def Re:∀A:List<|bJ×Bool,vg 7 (aA A) (A.flatMap fB)=A.map fB
 |[]=>rfl
 |p::A=>by rw[cr,vg,kP,List.take_left' (l₁:=fB p) (i:=7) rfl,Jf (l₁:=fB p) (i:=7) rfl,Re A];rfl
def UI(s v i o:Nat):G7 (.aR s v i o)=aa:=rfl
def Qd{D:a_}{h:H}(t s v i o:Nat):Ao D h t (.aR s v i o)=aO (sh D t) λq=>match q.1 with
 |ad n=>aO (gB h s v) λp=>aO (ib (p.2.2.2.2)[i]?) λV=>bif p.2.1&&ah 0 n&&ah 0 q.2&&ai (o+n*q.2) (aA V)&&(eU V).isSome then .ok (.fz<|vg q.2 n<|V.drop o)else .error ""
 |ae=>.error "":=by
 unfold Ao
 grind
def Xd(h:H)(v:VV):H:=match v with
 |.aR s _ _ _=>fM h s
 |_=>h
def Xh{T:Vg}{h:H}{d:Option Tmp}{t x ty:Nat}{p:String}{a:Array Edge}{g:Option (Nat×Bool)}:HX T h [⟨d,.slice t (.tmp x) ae ae ae,ty,p,a,g⟩]=Xd h (T x):=rfl
def Xg{h:H}(s v i o:Nat):Xd h (.aR s v i o)=fM h s:=rfl
def Qj:ah 0 8=aa:=rfl
def Qi:ah 0 7=aa:=rfl
def QP:ai (8*7) 56=aa:=rfl
def VF(L:List<|bJ×Bool):∀(l:List<|bJ×Bool) (i:Nat) (f:Int),l=L.drop i->(f=-1\/ ∃k:Nat,f=k/\ k<aA L)->(mh L i f l=-1\/ ∃k:Nat,mh L i f l=k/\ k<aA L)
 |[],i,f,_,h=>h
 |p::l,i,f,P,h=>by
  have G:i<aA L:=by have:=np aA P;simp only[cr,j5]at this;omega
  have t:l=L.drop (i+1):=by rw[<-ru,<-P];rfl
  rw[mh];refine VF L l (i+1) _ t ?_
  grind
def aq7(s:dm)(c:Int)(next:aL)(J:jg s)(t:aA s.bw<=8)(hn:aA next=aA s.bw):∃e:bJ,aS VP 111 [.agg<|dH s,.agg<|iR c next] (.bn [iV<|mh (qM s c next) 0 (-1)<|qM s c next,.agg<|cd e]):=by
 have P:=ary s c next J t hn
 have W:aA (qM s c next)=8:=by unfold qM;rw[GV,jR]
 have Y:∀p∈qM s c next,yW p:=TZ next _ _ λp M=>by rw[List.mem_replicate]at M;rw[M.2];exact λ_=>rfl
 generalize qM s c next=A at*
 have D:=arz A auQ Y;have l:=Lh W;have Q:=Re A;rw[W]at Q;have L:=W9 A;have⟨X,o,x,z⟩:=s;have B:=VF A A 0 (-1) aY<|.inl aM;generalize mh A 0 (-1) A=k at*
 rcases B with rfl|⟨k,rfl,B⟩
 refine⟨zS,?_⟩;have i:ax ((-1:Int)<0)=aa:=rfl;refine gO Tryz.f111.eq_1 λw y=>?_;exact Pv (P.aP aM L) @bZ @RH @Xh @Xg @UI @Qd @No @Qj @Qi @QP (an @DS<|an @cC<|an @QC<|an D.aP<|an @Ww @FV) tr;refine⟨A[k].1,?_⟩;have i:ax ((k:Int)<0)=ab:=aY;have I:=vo (n:=8) (show k<8 by omega);have V:ai (k*7) 50=aa:=aw_;have a:=Lg (k:=7) (f:=fB) (λ_=>rfl) A k B;have C:((A.flatMap fB).drop<|k*7).take 6=cd A[k].1 :=by
  have:((A.flatMap fB).drop<|k*7).take 6=(((A.flatMap fB).drop<|k*7).take 7).take 6:=by rw[z'];rfl
  rw[this,a];rfl
 refine gO Tryz.f111.eq_1 λw y=>?_;exact Pv (P.aP aM L) @bZ @RH @Xh @Xg @UI @Qd @No @Qj @Qi @QP (an @DS<|an @cC<|an @QC<|an D.aP<|an @Ww<|an @uh<|an @c6 @wG) tr
def as6(n:Int):av .u64 n=n %18446744073709551616:=by show(if(IntKind.u64.signed&&ax (n %18446744073709551616>=9223372036854775808))=aa then n %18446744073709551616-18446744073709551616 else n %18446744073709551616)=n %18446744073709551616;rfl
def ajt(a b c:Int):av .u64 (av .u64 (a+b)-c)=av .u64 (a+IntKind.wrap .u64 (b-c)):=by simp only[as6];omega
def aq9(s:dm)(c:Int)(next:aL)(J:jg s)(hn:aA next=aA s.bw):aS VP 113 [.agg<|dH s,.agg<|iR c next] (uV<|uq s c next):=by
 have P:aA s.bw<1048576:=J.1;have A:=J.2;unfold uq;have⟨l,o,Z,z⟩:=s;have P:aA l<1048576:=P;have A:∀r∈l,eE r:=A
 have hn:aA next=aA l:=hn
 show aS _ _ _<|uV<|(eW c 0 l).foldl (r' next) 0;generalize a:(eW c 0 l).foldl (r' next) 0=X;have a:(eW c 0<|l.drop 0).foldl (r' next) 0=X:=a;refine gO Tryz.f113.eq_1 λw y=>?_;refine S0 ?_;generalize S:H.new _ _ _=V;have E:V.y=y:=by rw[<-S];rfl
 have k:V.o 2=⟨1,0,.cells aa ab 25 4 [dH ⟨l,o,Z,z⟩]⟩:=by rw[<-S];exact aug
 have F:V.o 3=⟨1,0,.cells aa ab 45 2 [iR c next]⟩:=by rw[<-S];exact aug
 clear S;refine lF 0 (aA l) (λi T h=>T 2=.aR 2 1 0 0/\ T 3=.aR 3 1 0 0/\ T 6=iV i/\ h=V/\ ∃n,T 5=uV n/\ (eW c i<|l.drop i).foldl (r' next) n=X) ?_ ?_ ?_;refine S0 ?_;exact⟨aM,0,aM,a⟩;rintro i T h g ⟨W,L,N,rfl,n,B,a⟩;have e:=A _<|bD g;have G:=E' l[i] c e
 have x:=λh=>vI (h:=h) next i aW
 have O:ax ((i:Int)<(aA next:Int))=aa:=auR;rw[Ih g]at a;cases q:below l[i].label c;rw[q]at a G;refine bq W L N B k F O @bd (dF e) (eI e) @e5 (an @rY<|an G.aP x) ?_;exact⟨n,aM,a⟩;rw[q]at a G;simp only[a8,gn,r']at a
 cases t:ax<|ef next i<l[i].first
 rw[t]at a;refine bq W L N B k F O @bd (dF e) (eI e) @e5 (an @rY<|an G.aP<|an x t) ?_;exact⟨n,aM,a⟩;rw[t]at a;refine bq W L N B k F O @bd (dF e) (eI e) @e5 (an @rY<|an G.aP<|an x t) ?_;rw[ajt];exact⟨_,aM,a⟩;rintro T h ⟨W,L,N,rfl,n,B,a⟩;have O:ax ((aA l:Int)<(aA next:Int))=ab:=auI;rw[fS]at a;have a:n=X:=a;subst a;exact S8 W L N B k F O E tr
def an4{c:Int}{l:List cf}(f:Nat×cf->Bool){i:Nat}(G:i<aA l):(eW c i<|l.drop i).any f=((below l[i].label c&&f (i,l[i]))||(eW c (i+1)<|l.drop<|i+1).any f):=by
 rw[Ih G]
 grind
def Oy(s:dm)(c:Int)(next:aL)(Q:jg s)(hn:bk next){E:Int}(S:aS VP 35 [.agg<|dH s]<|iV E):aS VP 53 [.agg<|dH s,.agg<|iR c next] (iV<|c7 E<|gr s c next):=by
 have d:aA s.bw<1048576:=Q.1;have t:=Q.2;unfold gr;have⟨l,o,D,z⟩:=s;have d:aA l<1048576:=d;have t:∀r∈l,eE r:=t;cases f:(E !=0)
 case true=>rw[re f];refine gO Tryz.f53.eq_1 λw y=>?_;exact S2 S.aP f tr
 rw[NV f]
 show aS _ _ _<|iV<|bif (aA next:Int)!=(aA l:Int)then 2 else bif (l.zip next).any (sW c)then 13 else bif (eW c 0 l).any (tp next)then 2 else 0
 cases j:((aA next:Int)!=(aA l:Int))
 case true=>refine gO Tryz.f53.eq_1 λw y=>?_;exact S3 S.aP f j tr
 have A:aA next=aA l:=by rw[Mz]at j;simpa[bne]using j
 refine gO Tryz.f53.eq_1 λw y=>?_;refine S3 S.aP f j ?_;generalize J:H.new _ _ _=M;have U:M.y=y:=by rw[<-J];rfl
 have k:M.o 2=⟨1,0,.cells aa ab 25 4 [dH ⟨l,o,D,z⟩]⟩:=by rw[<-J];exact aug
 have F:M.o 3=⟨1,0,.cells aa ab 45 2 [iR c next]⟩:=by rw[<-J];exact aug
 clear J;refine lF 0 (aA l) (λi T h=>T 2=.aR 2 1 0 0/\ T 3=.aR 3 1 0 0/\ T 6=iV i/\ h=M/\ ((l.zip next).take i).any (sW c)=ab) ?_ ?_ ?_;refine S0 ?_;exact at1;rintro i T h G ⟨W,L,v,rfl,q⟩;have P:i<9223372036854775807:=aW;have e:=t _<|bD G;have g:=E' l[i] c e;have⟨I,Z⟩:=abn G A;have n:=λh=>gI (p:=sW c) I h;have V:=λh=>gJ (p:=sW c) I q h
 have x:=λh=>vI (h:=h) next i aW
 have O:ax ((i:Int)<(aA next:Int))=aa:=auR;rw[Z]at n V;have u:sW c (l[i],ef next i)=(!below l[i].label c&&(ef next i !=0)):=rfl;rw[u]at n V
 generalize ef next i=N at*
 generalize below l[i].label c=B at*;refine bq W L v k F O @bd (dF e) (eI e) @e5 g.aP x ?_;exact⟨λh=>by rw[n h,U];rfl,V⟩;rintro T h ⟨W,L,v,rfl,q⟩;have O:ax ((aA l:Int)<(aA next:Int))=ab:=auI;rw[<-A,show aA next=aA (l.zip next) by rw[List.length_zip];omega,bP]at q;rw[q,br];refine S6 W L v k F O ?_;generalize a:(eW c 0 l).any (tp next)=X;have a:(eW c 0<|l.drop 0).any (tp next)=X:=a;refine lF 2 (aA l) (λi T Y=>T 2=.aR 2 1 0 0/\ T 3=.aR 3 1 0 0/\ T 7=iV i/\ Y=h/\ (eW c i<|l.drop i).any (tp next)=X) ?_ ?_ ?_;refine S2 W L ?_;exact⟨aM,a⟩;rintro i T Y G ⟨W,L,b,rfl,a⟩;have P:i<9223372036854775807:=aW;have e:=t _<|bD G;have g:=E' l[i] c e
 have x:=λh=>vI (h:=h) next i aW
 have O:ax ((i:Int)<(aA next:Int))=aa:=auR;rw[an4 _ G]at a
 have m:tp next (i,l[i])=(ax (ef next i<1)||ax (l[i].next<ef next i)):=rfl
 rw[m]at a
 generalize ef next i=N at*
 generalize below l[i].label c=B at*;refine bq W L b k F O @bd (dF e) (eI e) @e5 @qO (an g.aP x) ?_;exact⟨λh=>by rw[<-a,h,U];rfl,λh=>by rw[<-a,h];rfl⟩;rintro T Y ⟨W,L,b,rfl,a⟩;rw[fS]at a;have a:ab=X:=a;subst a;refine S6 W L b k F O ?_;rw[U]
