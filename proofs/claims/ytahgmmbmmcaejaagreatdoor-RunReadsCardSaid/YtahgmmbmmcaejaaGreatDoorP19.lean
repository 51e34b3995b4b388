/-
  A part of the proof. No statement of this seat stands here.
-/
import Derived.Test.YtahgmmbmmcaejaaGreatDoorP18
namespace Go.Proofs.YtahgmmbmmcaejaaGreatDoor
open Go Go.Dt
set_option maxRecDepth 100000
theorem cmb_comm{a b:Int}(ha:isE a)(hb:isE b):cmb a b=cmb b a:=by
 rcases ha with h | h | h<;>rcases hb with h' | h' | h'<;>subst h<;>subst h'<;>rfl
def nF(s:List UInt8):Bool:=(numS s).isNone
def nG(s:List UInt8):Bool:=(numC s).2==2
theorem numC_cod(s:List UInt8):(numC s).2=cod (nF s) (nG s):=by
 unfold nG nF numC
 cases numS s with
 | none=>rfl
 | some v=>
  by_cases h:9223372036854775807<v
  ·simp only [if_pos h];rfl
  ·simp only [if_neg h];rfl
theorem W59(σ0 σ:St)(r:Nat)(x:ItemD)(iv av vv:AV)(f g:Bool)(h:RfW σ0 σ r x iv av vv f g)(s:List UInt8)(hs:s.length<1099511627776):
  ∃σ',W 59 [.ptr r 0,str s] σ= .ok (.ret (intV .i64 (numC s).1),σ')∧RfW σ0 σ' r x iv av vv (f || nF s) (g || nG s)∧Keep σ σ'∧σ.n≤σ'.n:=by
 have e:=ec59 (kRet tab [.tmp 4]) (.ptr r 0) (str s) σ
 have hn:=W52 s hs 9223372036854775807 (by omega) σ
 rw [natLim_numC] at hn
 have hn':W 52 [str s,intV .u64 9223372036854775807] σ= .ok (.ret (.tuple [intV .u64 (numC s).1,intV .i64 (numC s).2]),σ):=hn
 simp only [sN,W84 s hs] at e
 cases hS:numS s with
 | none=>
  obtain ⟨σ1,s1,s2,s3,s4⟩:=h.setF true
  rw [hS] at e
  have d:(none:Option Nat).isSome=false:=rfl
  simp (decide:=true) only [sN,d,nilC,fa114_1,s1,r59,sR] at e
  have h1:nF s=true:=by simp [nF,hS]
  have h2:nG s=false:=by simp [nG,numC,hS]
  have h3:(numC s).1=0:=by simp [numC,hS]
  rw [h1,h2,h3,Bool.or_true,Bool.or_false]
  exact ⟨σ1,w59 (by simp) e,s2,s3,by omega⟩
 | some v=>
  rw [hS] at e
  have d:(some v).isSome=true:=rfl
  have h1:nF s=false:=by simp [nF,hS]
  simp (decide:=true) only [sN,d,hn'] at e
  rw [h1,Bool.or_false]
  have conv:=convR_int u72 u3
  cases hG:nG s with
  | true=>
   obtain ⟨σ1,s1,s2,s3,s4⟩:=h.setG true
   have d2:((numC s).2 !=0)=true:=by
    have:(numC s).2=2:=by simpa [nG] using hG
    rw [this];rfl
   simp (decide:=true) only [sN,d2,nilC,fa114_2,s1,ec59a,convR_int u72 u3,numC_i64,r59,sR] at e
   rw [Bool.or_true]
   exact ⟨σ1,w59 (by simp) e,s2,s3,by omega⟩
  | false=>
   have d2:((numC s).2 !=0)=false:=by
    rw [numC_cod,h1,hG];rfl
   simp (decide:=true) only [sN,d2,ec59a,convR_int u72 u3,numC_i64,r59,sR] at e
   rw [Bool.or_false]
   exact ⟨σ,w59 (by simp) e,h,Keep.refl _,Nat.le_refl _⟩
theorem cutL_len(l:List UInt8)(c:UInt8):(cutL l c).1.length≤l.length∧(cutL l c).2.1.length≤l.length:=by
 unfold cutL
 split<;>simp
 omega
def evA(w:List UInt8):List UInt8:=(cutL w 58).2.1
def evL(w:List UInt8):List UInt8:=(cutL (cutL w 58).1 35).1
def evN(w:List UInt8):List UInt8:=(cutL (cutL w 58).1 35).2.1
def evB1(w:List UInt8):Bool:=(cutL w 58).2.2
def evB2(w:List UInt8):Bool:=(cutL (cutL w 58).1 35).2.2
def evBad(w:List UInt8):Bool:= !evB1 w || (!evB2 w || (labP (evL w)).isNone)
theorem evE_bad{w:List UInt8}(h:evBad w=true):evE w=3:=by
 unfold evBad evB1 evB2 evL cutL at h
 unfold evE
 cases hi:ixL w 58 with
 | none=>rfl
 | some i=>
  rw [hi] at h
  simp only at h ⊢
  cases hj:ixL (w.take i) 35 with
  | none=>exact cmb_3 _
  | some j=>
   rw [hj] at h
   simp only [Bool.not_true,Bool.false_or] at h ⊢
   rw [labE,h,condT,cmb_3l,cmb_3]
theorem evE_ok{w:List UInt8}(h:evBad w=false):evE w=cmb (numC (evN w)).2 (numC (evA w)).2∧evV w=((labV (evL w),(numC (evN w)).1),(numC (evA w)).1):=by
 unfold evBad evB1 evB2 evL cutL at h
 unfold evE evV evN evA evL cutL
 cases hi:ixL w 58 with
 | none=>rw [hi] at h;simp at h
 | some i=>
  rw [hi] at h
  simp only at h ⊢
  cases hj:ixL (w.take i) 35 with
  | none=>rw [hj] at h;simp at h
  | some j=>
   rw [hj] at h
   simp only [Bool.not_true,Bool.false_or] at h ⊢
   rw [labE,h,condF,cmb_0l (numC_isE _),cmb_comm (numC_isE _) (numC_isE _)]
   refine ⟨?_,?_⟩<;>first | rfl | trivial
theorem cond_unot(c:Bool)(b:Bool)(z:AV):(bif c then Dt.unOp .not (bif c then boolV b else z) else .ok AV.undef)=bif c then .ok (boolV (!b)) else .ok AV.undef:=by cases c<;>rfl
theorem W82(σ0 σ:St)(r:Nat)(x:ItemD)(iv av vv:AV)(f g:Bool)(h:RfW σ0 σ r x iv av vv f g)(hi:x.ids.length+1<1073741824)(ha:x.atoms.length+1<1073741824)(w:List UInt8)(hs:w.length<1099511627776):
  ∃x' iv' av' f' g' σ',W 82 [.ptr r 0,str w] σ= .ok (.ret (.tuple []),σ')∧RfW σ0 σ' r x' iv' av' vv f' g'∧Keep σ σ'∧σ.n≤σ'.n∧cod f' g'=cmb (cod f g) (evE w)∧
   (f'=false→f=false∧x'= {x with ids:=x.ids++[(evV w).1],atoms:=x.atoms++[(evV w).2]})∧x'.ids.length≤x.ids.length+1∧x'.atoms.length≤x.atoms.length+1∧x'.values=x.values:=by
 have e:=ec82 (kRet tab []) (.ptr r 0) (str w) σ
 have c58:(intV .u8 58)=intV .u8 (((58:UInt8).toNat:Nat):Int):=rfl
 have c35:(intV .u8 35)=intV .u8 (((35:UInt8).toNat:Nat):Int):=rfl
 have L1:=cutL_len w 58
 have L2:=cutL_len (cutL w 58).1 35
 have a0:argE [.ptr r 0,str w] 0= .ptr r 0:=rfl
 simp only [sN] at e
 rw [c58] at e
 simp only [sN,W98 w hs 58,cutR] at e
 rw [ec82a,c35] at e
 simp (decide:=true) only [sN,sR,W98 (cutL w 58).1 (by omega) 35,cutR] at e
 rw [ec82b] at e
 obtain ⟨fe,fa,σ1,k1,k2,k3⟩:=lab99 (evL w) (by unfold evL;omega) σ h.wf
 have hA1:=At.new σ1 (.cells [intV .i64 0,intV .i64 0] 26 true 2)
 obtain ⟨σ2,hσ2⟩:∃σ2,σ2=(σ1.push (.cells [intV .i64 0,intV .i64 0] 26 true 2)).set σ1.n (.cells [intV .i64 fe,intV .i64 fa] 26 true 2):=⟨_,rfl⟩
 have hst:storeV tab (σ1.push (.cells [intV .i64 0,intV .i64 0] 26 true 2)) 26 (.ptr σ1.n 0) (.agg [intV .i64 fe,intV .i64 fa])= .ok σ2:=by rw [hσ2];exact st26 hA1
 have hA2:At σ2 σ1.n (.cells [intV .i64 fe,intV .i64 fa] 26 true 2):=by rw [hσ2];exact hA1.set_same (WF.push (k2.wf h.wf) _) _
 have hg2:Grow σ σ2:=by rw [hσ2];exact (k2.trans (Grow.push _ _)).set k2.n hA1.1 _
 have h2:=h.step hg2
 have hl24:loadV tab σ2 24 (.ptr σ1.n 0)= .ok (intV .i64 fe):=ld l24 hA2 rfl
 unfold evL at k1
 simp (decide:=true) only [sN,sR,k1,alloc26,hst] at e
 rw [ec82c] at e
 simp (decide:=true) only [sN,pickV_boolV,sR,a0,nilC,fa114_1] at e
 have b1:(cutL w 58).2.2=evB1 w:=rfl
 have b2:(cutL (cutL w 58).1 35).2.2=evB2 w:=rfl
 rw [b1,b2] at e
 have bad:evBad w=true→∀T,denK tab W 74 c82 (kRet tab []) (argE [.ptr r 0,str w]) σ=bindR (storeV tab σ2 4 (.ptr r 7) (boolV true)) (fun s=>(kRet tab []).ret T s)→∃x' iv' av' f' g' σ',W 82 [.ptr r 0,str w] σ= .ok (.ret (.tuple []),σ')∧RfW σ0 σ' r x' iv' av' vv f' g'∧Keep σ σ'∧σ.n≤σ'.n∧cod f' g'=cmb (cod f g) (evE w)∧
   (f'=false→f=false∧x'= {x with ids:=x.ids++[(evV w).1],atoms:=x.atoms++[(evV w).2]})∧x'.ids.length≤x.ids.length+1∧x'.atoms.length≤x.atoms.length+1∧x'.values=x.values:=by
  intro hb T hT
  obtain ⟨σ3,s1,s2,s3,s4⟩:=h2.setF true
  rw [s1,bindR_val,r82] at hT
  refine ⟨x,iv,av,true,g,σ3,w82 (by simp) hT,s2,hg2.keep.trans s3,by have:=hg2.n;omega,?_,(fun h=>by cases h),by omega,by omega,rfl⟩
  rw [evE_bad hb,cmb_3];rfl
 cases hb1:evB1 w with
 | false=>
  rw [hb1] at e
  simp (decide:=true) only [sN,pickV_boolV] at e
  exact bad (by simp [evBad,hb1]) _ e
 | true=>
  rw [hb1] at e
  simp (decide:=true) only [sN,pickV_boolV] at e
  cases hb2:evB2 w with
  | false=>
   rw [hb2] at e
   simp (decide:=true) only [sN] at e
   exact bad (by simp [evBad,hb1,hb2]) _ e
  | true=>
   rw [hb2] at e
   simp (decide:=true) only [sN,fa26_0,hl24,k3] at e
   have hlb:labP (cutL (cutL w 58).1 35).1=labP (evL w):=rfl
   cases hn:(labP (evL w)).isNone with
   | true=>
    rw [hn] at e
    simp (decide:=true) only [sN] at e
    exact bad (by simp [evBad,hb1,hb2,hn]) _ e
   | false=>
    have hbad:evBad w=false:=by simp [evBad,hb1,hb2,hn]
    obtain ⟨E1,E2⟩:=evE_ok hbad
    obtain ⟨σ3,p1,p2,p3,p4⟩:=W59 σ0 σ2 r x iv av vv f g h2 (evN w) (by unfold evN;omega)
    obtain ⟨q1,q2,q3,σ4,iv',σ5,q4,q5,q6,q7,q8,q9,q10⟩:=p2.addId hi (labV (evL w)) (numC (evN w)).1
    obtain ⟨σ6,u1,u2,u3',u4⟩:=W59 σ0 σ5 r _ iv' av vv _ _ q9 (evA w) (by unfold evA;omega)
    obtain ⟨v1,v2,v3,σ7,av',σ8,v4,v5,v6,v7,v8,v9,v10⟩:=u2.addAtom ha (numC (evA w)).1
    have ldi:loadV tab σ2 37 (.ptr r 2)= .ok iv:=ld l37 h2.at' rfl
    have lda:loadV tab σ5 38 (.ptr r 3)= .ok av:=ld l38 q9.at' rfl
    have bf:∀n,bndA n (AV.func (.func 59) [] [])=true:=fun n=>rfl
    have bstr:∀n (l:List UInt8),bndA n (str l)=true:=fun n l=>rfl
    have bp2:bndA σ2.n (.ptr r 0)=true:=bnd_pt 0 h2.lt
    have bp5:bndA σ5.n (.ptr r 0)=true:=bnd_pt 0 q9.lt
    have bp3:∀o,bndA (σ3.n+2) (.ptr r o)=true:=fun o=>bnd_pt o (by have:=p2.lt;omega)
    have bp6:∀o,bndA (σ6.n+2) (.ptr r o)=true:=fun o=>bnd_pt o (by have:=u2.lt;omega)
    have bl1:Nat.ble σ2.n σ3.n=true:=ble_t p4
    have bl2:Nat.ble (σ3.n+2) σ6.n=true:=ble_t (by omega)
    have bp5':bndA (σ3.n+2) (.ptr r 0)=true:=bp3 0
    have all3:∀(F:AV→Bool) (a b c:AV),[a,b,c].all F=(F a && (F b && F c)):=fun F a b c=>by simp
    have hN:(cutL (cutL w 58).1 35).2.1=evN w:=rfl
    have hA:(cutL w 58).2.1=evA w:=rfl
    have hL:(cutL (cutL w 58).1 35).1=evL w:=rfl
    rw [hn] at e
    simp only [hN,hA,hL] at e
    simp (decide:=true) only [sN,all3,bf,bstr,bp2,p1,bl1,fa114_0,fa41_2,fa41_3,Nat.zero_add,q1,ldi,sameR,q2,convR_int u3 u72,numC_u64,beqI,build74,bs37,bndO2,all2,push_n,q3,bnd_sl,q4,q5,ble12,bp3,q6,q7,q8,bleR,Bool.and_true,
     u1,bl2,v1,lda,v2,bs38,bndO1,v3,v4,v5,bp6,v6,v7,v8] at e
    refine ⟨_,iv',av',_,_,σ8,w82 (by simp) (e.trans ?_),v9,(((hg2.keep.trans p3).trans q10).trans u3').trans v10,?_,?_,?_,?_,?_,rfl⟩
    ·simp only [kRet,resK];rfl
    ·have:=hg2.n;omega
    ·rw [E1,numC_cod,numC_cod,cod_cmb,cod_cmb]
     cases f<;>cases g<;>cases nF (evN w)<;>cases nF (evA w)<;>cases nG (evN w)<;>cases nG (evA w)<;>rfl
    ·intro hf
     refine ⟨?_,by rw [E2]⟩
     cases f with
     | false=>rfl
     | true=>simp at hf
    ·simp
    ·simp
end Go.Proofs.YtahgmmbmmcaejaaGreatDoor
namespace Go.Proofs.YtahgmmbmmcaejaaGreatDoor
open Go Go.Dt
set_option maxRecDepth 100000
theorem nilC'(b o:Nat):nilCheckV (.ptr b o)= .ok (.ptr b o):=nilC b o
theorem intC_cod(s:List UInt8):(intC s).2=cod ((intC s).2==3) ((intC s).2==2):=by
 rcases intC_isE s with h | h | h<;>rw [h]<;>rfl
theorem pick_orT(b:Bool)(c:Bool):pickV (boolV b) (boolV true) (bif !b then boolV c else AV.undef)= .ok (boolV (b || c)):=by cases b<;>rfl
theorem W83(σ0 σ:St)(r:Nat)(x:ItemD)(iv av vv:AV)(f g:Bool)(h:RfW σ0 σ r x iv av vv f g)(hl:x.values.length+1<1073741824)(s:List UInt8)(hs:s.length<1099511627776):
  ∃vv' f' g' σ',W 83 [.ptr r 0,str s] σ= .ok (.ret (.tuple []),σ')∧RfW σ0 σ' r {x with values:=x.values++[(intC s).1]} iv av vv' f' g'∧Keep σ σ'∧σ.n≤σ'.n∧cod f' g'=cmb (cod f g) (intC s).2∧(f'=false→f=false):=by
 have e:=ec83 (kRet tab []) (.ptr r 0) (str s) σ
 obtain ⟨σ1,k1,k2⟩:=W100 s hs σ
 rw [intS_intC] at k1
 have h1:=h.step k2
 obtain ⟨σ2,s1,s2,s3,s4⟩:=h1.setF (f || (intC s).2==3)
 obtain ⟨σ3,t1,t2,t3,t4⟩:=s2.setG (g || (intC s).2==2)
 obtain ⟨q1,q2,q3,σ4,vv',σ5,q4,q5,q6,q7,q8,q9,q10⟩:=t2.addVal hl (intC s).1
 have hF:(bif f then pickV (boolV f) (boolV true) AV.undef else pickV (boolV f) (boolV true) (boolV ((intC s).2==3)))= .ok (boolV (f || (intC s).2==3)):=by cases f<;>rfl
 have e3:∀T,(denK tab W 45 c83 (kRet tab []) (argE [.ptr r 0,str s]) σ=(kRet tab []).nxt T σ5→denK tab W 45 c83 (kRet tab []) (argE [.ptr r 0,str s]) σ= .ok (.ret (.tuple []),σ5)):=by
  intro T hT
  rw [hT];simp only [kRet,resK];rfl
 refine ⟨vv',_,_,σ5,w83 (by simp) ?_,q9,((k2.keep.trans s3).trans t3).trans q10,by have:=k2.n;omega,?_,?_⟩
 ·have ldF:=h1.ldF
  have ldG:=s2.ldG
  cases f with
  | true=>
   cases g with
   | true=>
    simp only [Bool.true_or] at s1 t1 ldG
    simp only [sN,pickV_boolV,k1,nilC,fa114_0,fa114_1,fa114_2,ldF,s1,ldG,t1,fa41_4,Nat.zero_add,q1,bs39,q4,q7] at e
    exact e3 _ e
   | false=>
    simp only [Bool.true_or,Bool.false_or] at s1 t1 ldG
    simp only [sN,pickV_boolV,k1,nilC,fa114_0,fa114_1,fa114_2,ldF,s1,ldG,t1,fa41_4,Nat.zero_add,q1,bs39,q4,q7] at e
    exact e3 _ e
  | false=>
   cases g with
   | true=>
    simp only [Bool.true_or,Bool.false_or] at s1 t1 ldG
    simp only [sN,pickV_boolV,k1,nilC,fa114_0,fa114_1,fa114_2,ldF,s1,ldG,t1,fa41_4,Nat.zero_add,q1,bs39,q4,q7] at e
    exact e3 _ e
   | false=>
    simp only [Bool.false_or] at s1 t1 ldG
    simp only [sN,pickV_boolV,k1,nilC,fa114_0,fa114_1,fa114_2,ldF,s1,ldG,t1,fa41_4,Nat.zero_add,q1,bs39,q4,q7] at e
    exact e3 _ e
 ·have:=intC_cod s
  rw [this,cod_cmb]
  rcases intC_isE s with h | h | h<;>rw [h]<;>rfl
 ·intro hf
  cases f with
  | false=>rfl
  | true=>simp at hf
def StrN(σ:St)(v:AV)(ws:List (List UInt8)):Prop:=
 ∃b o cap cs ow,v= .slice b o ws.length cap 1∧At σ b (.cells cs 9 ow 1)∧(cs.drop o).take ws.length=ws.map str
theorem StrN.keep{σ σ':St}{v:AV}{ws:List (List UInt8)}(h:StrN σ v ws)(hk:Keep σ σ'):StrN σ' v ws:=by
 obtain ⟨b,o,cap,cs,ow,h1,h2,h3⟩:=h
 exact ⟨b,o,cap,cs,ow,h1,hk _ _ _ _ _ (.inl rfl) h2,h3⟩
theorem StrN.len{σ:St}{v:AV}{ws:List (List UInt8)}(h:StrN σ v ws):lenV tab 105 v= .ok (intV .i64 (ws.length:Int)):=by
 obtain ⟨b,o,cap,cs,ow,rfl,h2,h3⟩:=h
 exact len_sl sl105
theorem StrN.get{σ:St}{v:AV}{ws:List (List UInt8)}(h:StrN σ v ws)(i:Nat)(w:List UInt8)(hi:ws[i]? =some w):∃p,indexAddr tab 105 v (intV .i64 (i:Int))= .ok p∧loadV tab σ 9 p= .ok (str w):=by
 obtain ⟨b,o,cap,cs,ow,rfl,h2,h3⟩:=h
 have hlt:=(List.getElem?_eq_some_iff.1 hi).1
 have hv:cs[o+i*1]? =some (str w):=by
  have:((cs.drop o).take ws.length)[i]? =(ws.map str)[i]? :=by rw [h3]
  rw [List.getElem?_take_of_lt hlt,List.getElem?_drop,List.getElem?_map,hi] at this
  rw [Nat.mul_one];exact this
 exact ⟨_,ixAddr el105 hlt,ld l9 h2 hv⟩
theorem Vec.strN{σ:St}{v:AV}{ws:List (List UInt8)}{fp:List Nat}(h:Vec σ 9 1 ws.length v (ws.map str) fp)(hne:ws≠[]):StrN σ v ws:=by
 rcases h.is with ⟨_,h2,_⟩ | ⟨b,h1,h2,_⟩
 ·exact (hne (List.length_eq_zero_iff.1 h2)).elim
 ·exact ⟨b,0,none,_,true,h1,h2,by rw [List.drop_zero];exact List.take_of_length_le (by simp)⟩
theorem Vec.strTail{σ:St}{v:AV}{w:List UInt8}{ws:List (List UInt8)}{fp:List Nat}(h:Vec σ 9 1 (w::ws).length v ((w::ws).map str) fp)(hne:ws≠[]):∃v',sliceV tab 105 v (some (intV .i64 1)) none none= .ok v'∧StrN σ v' ws:=by
 rcases h.is with ⟨_,h2,_⟩ | ⟨b,rfl,h2,_⟩
 ·simp at h2
 ·refine ⟨.slice b 1 ws.length none 1,?_,b,1,none,_,true,rfl,h2,by rw [List.map_cons,List.drop_succ_cons,List.drop_zero];exact List.take_of_length_le (by simp)⟩
  have hb:bound (intV .i64 1) (ws.length+1)= .ok 1:=bound_ok 1 _ (by omega)
  have hl:0<ws.length:=List.length_pos_iff.2 hne
  simp [sliceV,u105,size9,boundO,bindR_eq,List.length_cons,hb,hl]
end Go.Proofs.YtahgmmbmmcaejaaGreatDoor
namespace Go.Proofs.YtahgmmbmmcaejaaGreatDoor
open Go Go.Dt
set_option maxRecDepth 100000
theorem drop_cons_get{α:Type}{l:List α}{i:Nat}{a:α}{r:List α}(h:l.drop i=a::r):l[i]? =some a∧l.drop (i+1)=r∧i<l.length:=by
 have h1:=congrArg (fun l=>l[0]?) h
 have h2:=congrArg (List.drop 1) h
 have h3:=congrArg List.length h
 simp [List.drop_drop] at h1 h2 h3
 exact ⟨h1,h2,by omega⟩
theorem evFold_cons(e:Int)(w:List UInt8)(ws:List (List UInt8)):evFold e (w::ws)=evFold (cmb e (evE w)) ws:=rfl
theorem loop58(σ0:St)(r:Nat)(vv v:AV)(ws:List (List UInt8))(hws:∀w∈ws,w.length<1099511627776)(hwl:ws.length<500000000)(vals:List Int):∀(rem:List (List UInt8)) (i:Nat),ws.drop i=rem→∀(x:ItemD) (iv av:AV) (f g:Bool) (T:Rg) (σ:St),x.ids.length≤i→x.atoms.length≤i→x.values=vals→RfW σ0 σ r x iv av vv f g→StrN σ v ws→
  T 0= .ptr r 0→T 1=v→T 4=intV .i64 (i:Int)→
  ∃T' σ' x' iv' av' f' g',loopLim (dd tab W 113 c58b) T σ= .ok (.exit 0 T' σ')∧T' 0= .ptr r 0∧T' 1=v∧T' 4=intV .i64 ((i+(evW rem).length:Nat):Int)∧RfW σ0 σ' r x' iv' av' vv f' g'∧Keep σ σ'∧σ.n≤σ'.n∧
   cod f' g'=evFold (cod f g) (evW rem)∧(f'=false→f=false∧x'= {x with ids:=x.ids++(evW rem).map (fun w=>(evV w).1),atoms:=x.atoms++(evW rem).map (fun w=>(evV w).2)})∧x'.values=vals:=by
 intro rem
 induction rem with
 | nil=>
  intro i hd x iv av f g T σ hi1 hi2 hv h hS t0 t1 t4
  have hlen:ws.length≤i:=by
   have:=congrArg List.length hd
   simp at this;omega
  have e:=ec58b kOc T σ
  have d:decide ((i:Int)<(ws.length:Int))=false:=by simp;omega
  simp only [sN,pickV_boolV,t4,t1,hS.len,d] at e
  refine ⟨_,σ,x,iv,av,f,g,loop_exit (dd_of tab W 113 e),?_,?_,?_,h,Keep.refl _,Nat.le_refl _,rfl,fun hf=>⟨hf,by simp [evW]⟩,hv⟩
  ·simp (decide:=true) only [sR,t0]
  ·simp (decide:=true) only [sR,t1]
  ·simp (decide:=true) only [sR,t4];rfl
 | cons w rem ih=>
  intro i hd x iv av f g T σ hi1 hi2 hv h hS t0 t1 t4
  obtain ⟨hw,hd2,hil⟩:=drop_cons_get hd
  obtain ⟨p,p1,p2⟩:=hS.get i w hw
  have e:=ec58b kOc T σ
  have d:decide ((i:Int)<(ws.length:Int))=true:=by simp;omega
  simp only [sN,pickV_boolV,t4,t1,hS.len,d,p1,p2] at e
  cases hst:isStop w with
  | true=>
   have hw0:evW (w::rem)=[]:=by simp [evW,List.takeWhile,hst]
   rw [hw0]
   unfold isStop at hst
   have key:∃T',denK tab W 113 c58b kOc T σ= .ok (.exit 0 T' σ)∧T' 0= .ptr r 0∧T' 1=v∧T' 4=intV .i64 (i:Int):=by
    cases h61:w==[61] with
    | true=>
     simp only [sN,h61] at e
     refine ⟨_,e,?_,?_,?_⟩<;>simp (decide:=true) only [sR,t0,t1,t4]
    | false=>
     have h33:(w==[33])=true:=by rw [h61] at hst;simpa using hst
     simp only [sN,h61,p1,p2,h33] at e
     refine ⟨_,e,?_,?_,?_⟩<;>simp (decide:=true) only [sR,t0,t1,t4]
   obtain ⟨T',k1,k2,k3,k4⟩:=key
   exact ⟨T',σ,x,iv,av,f,g,loop_exit (dd_of tab W 113 k1),k2,k3,k4,h,Keep.refl _,Nat.le_refl _,rfl,fun hf=>⟨hf,by simp⟩,hv⟩
  | false=>
   have hw0:evW (w::rem)=w::evW rem:=by simp [evW,List.takeWhile,hst]
   rw [hw0]
   unfold isStop at hst
   have h61:(w==[61])=false:=by cases hq:w==[61] with
    | true=>rw [hq] at hst;cases hst
    | false=>rfl
   have h33:(w==[33])=false:=by rw [h61] at hst;simpa using hst
   obtain ⟨x1,iv1,av1,f1,g1,σ1,k1,k2,k3,k4,k5,k6,k7,k8,k9⟩:=W82 σ0 σ r x iv av vv f g h (by omega) (by omega) w (hws w (List.mem_of_getElem? hw))
   have w1:IntKind.i64.wrap ((i:Int)+1)=((i+1:Nat):Int):=i64_add1 i (by omega)
   simp only [sN,h61,h33,p1,p2,t0,k1,w1] at e
   have key:∃T1,denK tab W 113 c58b kOc T σ= .ok (.nxt T1 σ1)∧T1 0= .ptr r 0∧T1 1=v∧T1 4=intV .i64 ((i+1:Nat):Int):=by
    refine ⟨_,e,?_,?_,?_⟩<;>simp (decide:=true) only [sR,t0,t1]
   obtain ⟨T1,e1,m0,m1,m4⟩:=key
   obtain ⟨T',σ',x',iv',av',f',g',z1,z2,z3,z4,z5,z6,z7,z8,z9,z10⟩:=ih (i+1) hd2 x1 iv1 av1 f1 g1 T1 σ1 (by omega) (by omega) (by rw [k9];exact hv) k2 (hS.keep k3) m0 m1 m4
   refine ⟨T',σ',x',iv',av',f',g',loop_next (dd_of tab W 113 e1) z1,z2,z3,?_,z5,k3.trans z6,by omega,?_,?_,z10⟩
   ·rw [z4,List.length_cons];congr 1;omega
   ·rw [z8,k5,evFold_cons]
   ·intro hf
    obtain ⟨y1,y2⟩:=z9 hf
    obtain ⟨y3,y4⟩:=k6 y1
    refine ⟨y3,?_⟩
    rw [y2,y4]
    simp
theorem loop58v(σ0:St)(r:Nat)(iv av v:AV)(ws:List (List UInt8))(hws:∀w∈ws,w.length<1099511627776)(hwl:ws.length<500000000):∀(rem:List (List UInt8)) (i:Nat),ws.drop i=rem→∀(x:ItemD) (vv:AV) (f g:Bool) (T:Rg) (σ:St),x.values.length≤i→RfW σ0 σ r x iv av vv f g→StrN σ v ws→
  T 0= .ptr r 0→T 1=v→T 4=intV .i64 (i:Int)→
  ∃T' σ' vv' f' g',loopLim (dd tab W 113 c58h) T σ= .ok (.exit 2 T' σ')∧RfW σ0 σ' r {x with values:=x.values++rem.map (fun w=>(intC w).1)} iv av vv' f' g'∧Keep σ σ'∧σ.n≤σ'.n∧
   cod f' g'=valFold (cod f g) rem∧(f'=false→f=false):=by
 intro rem
 induction rem with
 | nil=>
  intro i hd x vv f g T σ hi1 h hS t0 t1 t4
  have hlen:ws.length≤i:=by
   have:=congrArg List.length hd
   simp at this;omega
  have e:=ec58h kOc T σ
  have d:decide ((i:Int)<(ws.length:Int))=false:=by simp;omega
  simp only [sN,t4,t1,hS.len,d] at e
  refine ⟨_,σ,vv,f,g,loop_exit (dd_of tab W 113 e),?_,Keep.refl _,Nat.le_refl _,rfl,id⟩
  have:({x with values:=x.values++([]:List (List UInt8)).map (fun w=>(intC w).1)}:ItemD)=x:=by simp
  rw [this];exact h
 | cons w rem ih=>
  intro i hd x vv f g T σ hi1 h hS t0 t1 t4
  obtain ⟨hw,hd2,hil⟩:=drop_cons_get hd
  obtain ⟨p,p1,p2⟩:=hS.get i w hw
  have e:=ec58h kOc T σ
  have d:decide ((i:Int)<(ws.length:Int))=true:=by simp;omega
  have w1:IntKind.i64.wrap ((i:Int)+1)=((i+1:Nat):Int):=i64_add1 i (by omega)
  obtain ⟨vv1,f1,g1,σ1,k1,k2,k3,k4,k5,k6⟩:=W83 σ0 σ r x iv av vv f g h (by omega) w (hws w (List.mem_of_getElem? hw))
  simp only [sN,t4,t1,hS.len,d,p1,p2,t0,k1,w1] at e
  have key:∃T1,denK tab W 113 c58h kOc T σ= .ok (.nxt T1 σ1)∧T1 0= .ptr r 0∧T1 1=v∧T1 4=intV .i64 ((i+1:Nat):Int):=by
   refine ⟨_,e,?_,?_,?_⟩<;>simp (decide:=true) only [sR,t0,t1]
  obtain ⟨T1,e1,m0,m1,m4⟩:=key
  obtain ⟨T',σ',vv',f',g',z1,z2,z3,z4,z5,z6⟩:=ih (i+1) hd2 _ vv1 f1 g1 T1 σ1 (by simp;omega) k2 (hS.keep k3) m0 m1 m4
  refine ⟨T',σ',vv',f',g',loop_next (dd_of tab W 113 e1) z1,by simpa using z2,k3.trans z3,by omega,?_,fun hf=>k6 (z6 hf)⟩
  rw [z5,k5];rfl
end Go.Proofs.YtahgmmbmmcaejaaGreatDoor
namespace Go.Proofs.YtahgmmbmmcaejaaGreatDoor
open Go Go.Dt
set_option maxRecDepth 100000
theorem bs147_2(b:Nat):buildSliceA tab 147 2 [(0,intV .i64 7),(1,intV .i64 16)] b= .ok (.slice b 0 2 (some 2) 1,.cells [intV .i64 7,intV .i64 16] 24 true 1):=by kernel_rfl
theorem bs147_3(b:Nat):buildSliceA tab 147 3 [(0,intV .i64 17),(1,intV .i64 18),(2,intV .i64 19)] b= .ok (.slice b 0 3 (some 3) 1,.cells [intV .i64 17,intV .i64 18,intV .i64 19] 24 true 1):=by kernel_rfl
noncomputable def k58:K (AEnd×St):=kRet tab []
theorem k58_ret(T:Rg)(s:St):k58.ret T s= .ok (.ret (AV.tuple []),s):=r58 T s
theorem k58_nxt(T:Rg)(s:St):k58.nxt T s= .ok (.ret (AV.tuple []),s):=r58 T s
def End58(σ0 σ:St)(r:Nat)(y:R (AEnd×St))(p:ItemD×List (List UInt8)×Int):Prop:=
 ∃x' iv' av' vv' f' g' σ',y= .ok (.ret (.tuple []),σ')∧RfW σ0 σ' r x' iv' av' vv' f' g'∧Keep σ σ'∧cod f' g'=left3 p∧(f'=false→x'=p.1)
theorem notTail58(σ0 σ σa:St)(r:Nat)(x:ItemD)(iv av vv:AV)(f g:Bool)(h:RfW σ0 σ r x iv av vv f g)(hk:Keep σa σ)(is:Bool)(T:Rg)(t0:T 0= .ptr r 0)(t5:T 5=boolV is)(c:Code)(p:ItemD×List (List UInt8)×Int)
  (hp:cod (f || !is) g=left3 p) (hx:f=false→is=true→x=p.1):End58 σ0 σa r (denK tab W 113 c58f (kseq (denK tab W 113 c k58) k58) T σ) p:=by
 have e:=ec58f (kseq (denK tab W 113 c k58) k58) T σ
 obtain ⟨σ1,s1,s2,s3,s4⟩:=h.setF (f || !is)
 have ldF:=h.ldF
 have key:denK tab W 113 c58f (kseq (denK tab W 113 c k58) k58) T σ= .ok (.ret (.tuple []),σ1):=by
  cases f with
  | true=>
   simp only [Bool.true_or] at s1
   simp only [sN,pickV_boolV,t0,nilC,fa114_1,ldF,s1,k58_ret] at e
   exact e
  | false=>
   simp only [Bool.false_or] at s1
   simp only [sN,pickV_boolV,t0,t5,nilC,fa114_1,ldF,s1,k58_ret] at e
   exact e
 refine ⟨x,iv,av,vv,_,g,σ1,key,s2,hk.trans s3,hp,?_⟩
 intro hf
 cases f with
 | true=>cases hf
 | false=>cases is with
  | true=>exact hx rfl rfl
  | false=>cases hf
theorem tail58(σ0:St)(r:Nat)(v:AV)(ws:List (List UInt8))(hws:∀w∈ws,w.length<1099511627776)(hwl:ws.length<500000000)(rem:List (List UInt8))(i:Nat)(hd:ws.drop i=rem)(hrem:∀w rs,rem=w::rs→isStop w=true)(x x0:ItemD)(iv av vv:AV)(f g:Bool)(T:Rg)(σ:St)
  (h:RfW σ0 σ r x iv av vv f g) (hS:StrN σ v ws) (hx:f=false→x=x0) (hv:x.values=[]) (hile:i≤ws.length) (t0:T 0= .ptr r 0) (t1:T 1=v) (t4:T 4=intV .i64 (i:Int)):
  End58 σ0 σ r (denK tab W 113 c58d k58 T σ) (tailF x0 (cod f g) rem):=by
 have hlen:ws.length=i+rem.length:=by
  have:=congrArg List.length hd
  simp at this;omega
 have e:=ec58d k58 T σ
 cases rem with
 | nil=>
  have d:((i:Int)==(ws.length:Int))=true:=by simp at hlen;rw [beq_iff_eq];omega
  simp only [sN,t4,t1,hS.len,d,k58_ret] at e
  exact ⟨x,iv,av,vv,f,g,σ,e,h,Keep.refl _,rfl,hx⟩
 | cons w rs=>
  obtain ⟨hw,hd2,hil⟩:=drop_cons_get hd
  obtain ⟨p,p1,p2⟩:=hS.get i w hw
  have hst:=hrem w rs rfl
  have d:((i:Int)==(ws.length:Int))=false:=by rw [beq_eq_false_iff_ne];omega
  have w1:IntKind.i64.wrap ((i:Int)+1)=((i+1:Nat):Int):=i64_add1 i (by omega)
  have w2:IntKind.i64.wrap ((i:Int)+2)=((i+2:Nat):Int):=by simp [IntKind.wrap,IntKind.bits,IntKind.signed];omega
  simp only [sN,t4,t1,hS.len,d] at e
  rw [ec58e] at e
  simp (decide:=true) only [sN,sR,t1,t4,p1,p2] at e
  cases h33:w==[33] with
  | true=>
   rw [h33] at e
   simp (decide:=true) only [sN,w2,hS.len] at e
   cases hd2len:(((i+2:Nat):Int)==(ws.length:Int)) with
   | true=>
    have:rs.length=1:=by
     have:((i+2:Nat):Int)=(ws.length:Int):=by simpa using hd2len
     simp at hlen;omega
    obtain ⟨y,hy⟩:∃y,rs=[y]:=List.length_eq_one_iff.1 this
    subst hy
    obtain ⟨hy1,_,_⟩:=drop_cons_get hd2
    obtain ⟨p',p1',p2'⟩:=hS.get (i+1) y hy1
    have hA:=At.new σ (.cells [intV .i64 7,intV .i64 16] 24 true 1)
    have k60:W 60 [str y,.slice σ.n 0 2 (some 2) 1] (σ.push (.cells [intV .i64 7,intV .i64 16] 24 true 1))= .ok (.ret (pickR (pickE y [7,16])),σ.push (.cells [intV .i64 7,intV .i64 16] 24 true 1)):=W60 y [7,16] (by simp) (by simp) σ.n _ true hA
    have h1:=h.step (Grow.push σ (.cells [intV .i64 7,intV .i64 16] 24 true 1))
    have hK:Keep σ (σ.push (.cells [intV .i64 7,intV .i64 16] 24 true 1)):=(Grow.push _ _).keep
    rw [hd2len] at e
    simp (decide:=true) only [sN,t0,w1,p1',p2',bs147_2,k60] at e
    have hpe:pickE y [7,16]=bif errNm 7==y then some 7 else bif errNm 16==y then some 16 else none:=by
     simp only [pickE,List.find?_cons,List.find?_nil]
     cases errNm 7==y
     ·cases errNm 16==y<;>rfl
     ·rfl
    have hbq:∀a b:List UInt8,(a==b)=(b==a):=fun a b=>by rw [Bool.eq_iff_iff,beq_iff_eq,beq_iff_eq];exact eq_comm
    rw [hbq (errNm 7) y,hbq (errNm 16) y] at hpe
    have hwf:wordF [y]=y:=rfl
    have hwe:wordE [y]=0:=rfl
    have hcm:cmb (cod f g) 0=cod f g:=cmb_0 (cod_isE f g)
    cases h7:y==errNm 7 with
    | true=>
     have:pickE y [7,16]=some 7:=by rw [hpe,h7];rfl
     rw [this] at e
     obtain ⟨σ2,u1,u2,u3⟩:=h1.setErr ((7:Nat):Int)
     simp (decide:=true) only [sN,pickR,nilC,fa114_0,fa41_5,Nat.zero_add,u1] at e
     rw [e]
     have hT:tailF x0 (cod f g) (w::[y])=({x0 with err:=7},[],cod f g):=by
      simp only [tailF,h33,hwf,h7,condT,hwe,hcm];rfl
     rw [hT]
     exact notTail58 σ0 σ2 σ r _ iv av vv f g u2 (hK.trans u3) true _ (by simp (decide:=true) only [sR,t0]) (by simp (decide:=true) only [sR]) _ _ (by simp [left3]) (fun hf _=>by rw [hx hf];rfl)
    | false=>
     rw [h7] at hpe
     cases h16:y==errNm 16 with
     | true=>
      have:pickE y [7,16]=some 16:=by rw [hpe,h16];rfl
      rw [this] at e
      obtain ⟨σ2,u1,u2,u3⟩:=h1.setErr ((16:Nat):Int)
      simp (decide:=true) only [sN,pickR,nilC,fa114_0,fa41_5,Nat.zero_add,u1] at e
      rw [e]
      have hT:tailF x0 (cod f g) (w::[y])=({x0 with err:=16},[],cod f g):=by
       simp only [tailF,h33,hwf,h7,h16,condT,condF,hwe,hcm];rfl
      rw [hT]
      exact notTail58 σ0 σ2 σ r _ iv av vv f g u2 (hK.trans u3) true _ (by simp (decide:=true) only [sR,t0]) (by simp (decide:=true) only [sR]) _ _ (by simp [left3]) (fun hf _=>by rw [hx hf];rfl)
     | false=>
      have:pickE y [7,16]=none:=by rw [hpe,h16];rfl
      rw [this] at e
      obtain ⟨σ2,u1,u2,u3⟩:=h1.setErr 0
      simp (decide:=true) only [sN,pickR,nilC,fa114_0,fa41_5,Nat.zero_add,u1] at e
      rw [e]
      have hT:tailF x0 (cod f g) (w::[y])=(x0,[],3):=by
       simp only [tailF,h33,hwf,h7,h16,condT,condF,hwe,hcm,cmb_3];rfl
      rw [hT]
      exact notTail58 σ0 σ2 σ r _ iv av vv f g u2 (hK.trans u3) false _ (by simp (decide:=true) only [sR,t0]) (by simp (decide:=true) only [sR]) _ _ (by simp [left3,cod]) (fun _ h=>by cases h)
   | false=>
    rw [hd2len] at e
    simp (decide:=true) only [sN] at e
    rw [e]
    have hrs:rs.length≠1:=by
     intro h1
     have:((i+2:Nat):Int)≠(ws.length:Int):=by rw [beq_eq_false_iff_ne] at hd2len;exact hd2len
     simp at hlen;omega
    have hT:left3 (tailF x0 (cod f g) (w::rs))=3:=by
     simp only [tailF,h33,condT]
     cases rs with
     | nil=>
      have hwe:wordE []=3:=rfl
      cases wordF []==errNm 7
      ·cases wordF []==errNm 16
       ·simp only [condF,left3,hwe,cmb_3];rfl
       ·simp only [condF,condT,left3,hwe,cmb_3];rfl
      ·simp only [condT,left3,hwe,cmb_3];rfl
     | cons y l=>
      cases l with
      | nil=>exact (hrs rfl).elim
      | cons z l=>
       have he:(y::z::l).tail.isEmpty=false:=rfl
       cases wordF (y::z::l)==errNm 7
       ·cases wordF (y::z::l)==errNm 16
        ·simp only [condF,left3,he,cmb_3]
        ·simp only [condF,condT,left3,he,cmb_3]
       ·simp only [condF,condT,left3,he,cmb_3]
    exact notTail58 σ0 σ σ r _ iv av vv f g h (Keep.refl _) false _ (by simp (decide:=true) only [sR,t0]) (by simp (decide:=true) only [sR]) _ _ (by rw [hT];simp [cod]) (fun _ h=>by cases h)
  | false=>
   rw [h33] at e
   have hT:tailF x0 (cod f g) (w::rs)=({x0 with values:=x0.values++[(intC (wordF rs)).1]++rs.tail.map (fun w=>(intC w).1)},[],valFold (cmb (cmb (cod f g) (wordE rs)) (intC (wordF rs)).2) rs.tail):=by
    simp only [tailF,h33,condF]
   have hdec:(((i+1:Nat):Int)==(ws.length:Int))=rs.isEmpty:=by
    cases rs with
    | nil=>simp at hlen;simp;omega
    | cons y l=>rw [List.isEmpty_cons,beq_eq_false_iff_ne];simp at hlen;omega
   obtain ⟨σ1,s1,s2,s3,s4⟩:=h.setF (f || rs.isEmpty)
   have ldF:=h.ldF
   simp (decide:=true) only [sN,pickV_boolV,t0,nilC,fa114_1,ldF] at e
   have rest:∀T1:Rg,T1 0= .ptr r 0→T1 1=v→T1 4=intV .i64 ((i+1:Nat):Int)→denK tab W 113 c58d k58 T σ=bindR (loopLim (dd tab W 113 c58h) T1 σ1) (K.app (kblk 2 k58))→
     End58 σ0 σ r (denK tab W 113 c58d k58 T σ) (tailF x0 (cod f g) (w::rs)):=by
    intro T1 m0 m1 m4 hT1
    obtain ⟨T',σ',vv',f',g',z1,z2,z3,z4,z5,z6⟩:=loop58v σ0 r iv av v ws hws hwl rs (i+1) hd2 x vv _ g T1 σ1 (by rw [hv];simp) s2 (hS.keep s3) m0 m1 m4
    rw [z1] at hT1
    simp (decide:=true) only [sN,if_true,k58_nxt] at hT1
    refine ⟨_,iv,av,vv',f',g',σ',hT1,z2,s3.trans z3,?_,?_⟩
    ·rw [hT,z5]
     cases rs with
     | nil=>
      have hwe:wordE []=3:=rfl
      simp only [left3,List.isEmpty_nil,condT,hwe,cmb_3,cmb_3l,Bool.or_true,List.tail_nil]
      rfl
     | cons y l=>
      have hwe:wordE (y::l)=0:=rfl
      simp only [left3,List.isEmpty_nil,List.isEmpty_cons,condT,hwe,cmb_0 (cod_isE f g),Bool.or_false,List.tail_cons]
      rfl
    ·intro hf
     have hf0:=z6 hf
     cases f with
     | true=>simp at hf0
     | false=>
      rw [hT,← hx rfl]
      cases rs with
      | nil=>simp at hf0
      | cons y l=>simp [wordF]
   cases f with
   | true=>
    simp only [Bool.true_or] at s1
    simp (decide:=true) only [sN,w1,s1] at e
    exact rest _ (by simp (decide:=true) only [sR,t0]) (by simp (decide:=true) only [sR,t1]) (by simp (decide:=true) only [sR]) e
   | false=>
    simp only [Bool.false_or] at s1
    simp (decide:=true) only [sN,w1,hS.len,hdec,s1] at e
    exact rest _ (by simp (decide:=true) only [sR,t0]) (by simp (decide:=true) only [sR,t1]) (by simp (decide:=true) only [sR]) e
theorem W58(σ0 σ:St)(r:Nat)(v:AV)(w0:List UInt8)(rest:List (List UInt8))(hws:∀w∈w0::rest,w.length<1099511627776)(hwl:(w0::rest).length<500000000)(h:RfW σ0 σ r {zeroI with kind:=1} nilS nilS nilS false false)(hS:StrN σ v (w0::rest)):
  End58 σ0 σ r (W 58 [.ptr r 0,v] σ) (foundF 0 (w0::rest)):=by
 have e:=ec58 k58 (.ptr r 0) v σ
 obtain ⟨p,p1,p2⟩:=hS.get 0 w0 rfl
 have p1':indexAddr tab 105 v (intV .i64 0)= .ok p:=p1
 obtain ⟨σ1,k1,k2,k3,k4⟩:=W59 σ0 σ r _ nilS nilS nilS false false h w0 (hws w0 (by simp))
 obtain ⟨σ2,s1,s2,s3⟩:=k2.setQuery (numC w0).1
 simp only [sN,p1',p2,k1,nilC,fa114_0,fa41_1,Nat.zero_add,s1] at e
 rw [ec58a] at e
 simp only [sN] at e
 generalize hT:puts 113 (puts 113 _ _) _=T at e
 have a0:argE [.ptr r 0,v] 0= .ptr r 0:=rfl
 have a1:argE [.ptr r 0,v] 1=v:=rfl
 have hS2:=(hS.keep k3).keep s3
 obtain ⟨T',σ',x',iv',av',f',g',z1,z2,z3,z4,z5,z6,z7,z8,z9,z10⟩:=loop58 σ0 r nilS v (w0::rest) hws hwl [] rest 1 rfl _ nilS nilS _ _ T σ2 (by simp [zeroI]) (by simp [zeroI]) rfl s2 hS2
  (by rw [← hT];simp (decide:=true) only [sR,a0]) (by rw [← hT];simp (decide:=true) only [sR,a1]) (by rw [← hT];simp (decide:=true) only [sR];rfl)
 rw [z1] at e
 simp (decide:=true) only [sN,if_true] at e
 rw [ec58c] at e
 have hS3:=hS2.keep z6
 have hK:=(k3.trans s3).trans z6
 have hdrop:(w0::rest).drop (1+(evW rest).length)=evR rest:=by
  rw [Nat.add_comm,List.drop_succ_cons]
  have:evW rest++evR rest=rest:=List.takeWhile_append_dropWhile
  have h2:(evW rest++evR rest).drop (evW rest).length=evR rest:=List.drop_left
  rw [this] at h2
  exact h2
 have hstop:∀w rs,evR rest=w::rs→isStop w=true:=by
  intro w rs hr
  unfold evR at hr
  have:=List.head?_dropWhile_not (fun w=> !isStop w) rest
  rw [hr] at this
  simpa using this
 have hle:1+(evW rest).length≤(w0::rest).length:=by have:=evW_len rest;simp;omega
 have hcod0:cod (false || nF w0) (false || nG w0)=cmb (cmb 0 (wordE (w0::rest))) (numC (wordF (w0::rest))).2:=by
  have h1:wordF (w0::rest)=w0:=rfl
  have h2:cmb 0 (wordE (w0::rest))=0:=rfl
  rw [h1,h2,cmb_0l (numC_isE _),numC_cod];rfl
 have pull:∀y:R (AEnd×St),∀σa,denK tab W 113 c58 k58 (argE [.ptr r 0,v]) σ=y→Keep σ σa→∀q,End58 σ0 σa r y q→End58 σ0 σ r (W 58 [.ptr r 0,v] σ) q:=by
  rintro y σa hy hk q ⟨x',iv',av',vv',f',g',σ',q1,q2,q3,q4⟩
  exact ⟨x',iv',av',vv',f',g',σ',w58 (by simp) (hy.trans q1),q2,hk.trans q3,q4⟩
 have hd:(((1+(evW rest).length:Nat):Int)==1)=(evW rest).isEmpty:=by
  cases evW rest with
  | nil=>rfl
  | cons a l=>rw [List.isEmpty_cons,beq_eq_false_iff_ne];simp;omega
 unfold foundF
 rw [← hcod0]
 have htl:(w0::rest).tail=rest:=rfl
 have hx0:f'=false→x'= {kind:=1,query:=(numC (wordF (w0::rest))).1,ids:=(evW rest).map (fun w=>(evV w).1),atoms:=(evW rest).map (fun w=>(evV w).2),values:=[],err:=0,count:=0}:=fun hf=>(z9 hf).2
 rw [htl]
 cases hem:(evW rest).isEmpty with
 | true=>
  obtain ⟨σ3,t1,t2,t3,t4⟩:=z5.setF true
  simp (decide:=true) only [sN,z4,hd,hem,z2,nilC,fa114_1,t1] at e
  refine pull _ σ3 e (hK.trans t3) _ ?_
  have hc3:cmb (evFold (cod (false || nF w0) (false || nG w0)) (evW rest)) 3=cod true g':=by rw [cmb_3];rfl
  simp only [condT]
  rw [hc3]
  exact tail58 σ0 r v (w0::rest) hws hwl _ _ hdrop hstop x' _ iv' av' nilS true g' _ σ3 t2 (hS3.keep t3) (fun h=>by cases h) z10 hle (by simp (decide:=true) only [sR,z2]) (by simp (decide:=true) only [sR,z3]) (by simp (decide:=true) only [sR,z4])
 | false=>
  simp (decide:=true) only [sN,z4,hd,hem] at e
  refine pull _ σ' e hK _ ?_
  simp only [condF]
  rw [← z8]
  exact tail58 σ0 r v (w0::rest) hws hwl _ _ hdrop hstop x' _ iv' av' nilS f' g' _ σ' z5 hS3 hx0 z10 hle (by simp (decide:=true) only [sR,z2]) (by simp (decide:=true) only [sR,z3]) (by simp (decide:=true) only [sR,z4])
end Go.Proofs.YtahgmmbmmcaejaaGreatDoor
namespace Go.Proofs.YtahgmmbmmcaejaaGreatDoor
open Go Go.Dt
set_option maxRecDepth 100000
noncomputable def k27:K (AEnd×St):=kRet tab [.cell 2 41,.tmp 3]
theorem ret27{T:Rg}{σ:St}{cs:List AV}{e:Int}{b:Nat}(h2:T 2= .ptr b 0)(h3:T 3=intV .i64 e)(hl:loadV tab σ 41 (.ptr b 0)= .ok (.agg cs)):k27.ret T σ= .ok (.ret (.tuple [.agg cs,intV .i64 e]),σ):=by
 simp only [k27,kRet,resK,h2,h3,hl,bindR_val];rfl
theorem RfW.item{σ0 σ:St}{r:Nat}{x:ItemD}{iv av vv:AV}{f g:Bool}(h:RfW σ0 σ r x iv av vv f g):loadV tab σ 41 (.ptr r 0)= .ok (.agg [intV .i64 x.kind,intV .i64 x.query,iv,av,vv,intV .i64 x.err,intV .i64 x.count])∧∃fp,ItemR σ [intV .i64 x.kind,intV .i64 x.query,iv,av,vv,intV .i64 x.err,intV .i64 x.count] x fp∧∀y∈fp,σ0.n≤y:=by
 obtain ⟨f1,f2,f3,k1,k2,k3,k4⟩:=h.vecs
 exact ⟨lda a41 h.at' rfl rfl,_,⟨iv,av,vv,f1,f2,f3,rfl,k1,k2,k3,rfl⟩,k4⟩
theorem ldIt{σ:St}{b:Nat}{cs:List AV}(hA:At σ b (.cells cs 41 true 7))(hl:cs.length=7):loadV tab σ 41 (.ptr b 0)= .ok (.agg cs):=lda a41 hA (by rw [List.drop_zero];exact List.take_of_length_le (by omega)) hl
theorem tail27(σ0 σ:St)(r b2:Nat)(x:ItemD)(iv av vv:AV)(f g:Bool)(h:RfW σ0 σ r x iv av vv f g)(hb2:At σ b2 (.cells zero41 41 true 7))(hb2ge:σ0.n≤b2)(p:ItemD×List (List UInt8)×Int)(hp:cod f g=left3 p)(hx:f=false→x=p.1)
  (T:Rg) (t2:T 2= .ptr b2 0) (t5:T 5= .ptr r 0):Out47 σ0 (denK tab W 109 c27b k27 T σ) (finI (some p)) (finE (some p)):=by
 have e:=ec27b k27 T σ
 have zero:∀(σ1:St) (E:Int) (T1:Rg),Grow σ σ1→T1 2= .ptr b2 0→T1 3=intV .i64 E→denK tab W 109 c27b k27 T σ=k27.ret T1 (σ1.set b2 (.cells zero41 41 true 7))→Out47 σ0 (denK tab W 109 c27b k27 T σ) zeroI E:=by
  intro σ1 E T1 hg m2 m3 hT
  have hb21:=hb2.grow hg
  have hA:=hb21.set_same (hg.wf h.wf) (.cells zero41 41 true 7)
  exact ⟨zero41,_,[],hT.trans (ret27 m2 m3 (ldIt hA rfl)),(h.grow.trans hg).set hb2ge hb21.1 _,ItemR.zero _,by simp⟩
 have hz:storeV tab σ 41 (.ptr b2 0) (.agg zero41)= .ok (σ.set b2 (.cells zero41 41 true 7)):=stItem (ItemR.zero σ) hb2
 have ldF:=h.ldF
 have ldG:=h.ldG
 cases f with
 | true=>
  simp only [sN,t5,nilC,fa114_1,ldF,build41_0,t2,hz] at e
  have hE:finE (some p)=3:=by
   show itemFin p=3
   unfold itemFin;rw [← hp];rfl
  have hI:finI (some p)=zeroI:=by
   show (bif itemFin p==0 then p.1 else zeroI)=zeroI
   unfold itemFin;rw [← hp];rfl
  rw [hE,hI]
  exact zero σ 3 _ (Grow.refl _) (by simp (decide:=true) only [sR,t2]) (by simp (decide:=true) only [sR]) e
 | false=>
  have hxp:=hx rfl
  cases g with
  | true=>
   simp only [sN,t5,nilC,fa114_1,fa114_2,ldF,ldG,build41_0,t2,hz] at e
   have hE:finE (some p)=2:=by
    show itemFin p=2
    unfold itemFin;rw [← hp];rfl
   have hI:finI (some p)=zeroI:=by
    show (bif itemFin p==0 then p.1 else zeroI)=zeroI
    unfold itemFin;rw [← hp];rfl
   rw [hE,hI]
   exact zero σ 2 _ (Grow.refl _) (by simp (decide:=true) only [sR,t2]) (by simp (decide:=true) only [sR]) e
  | false=>
   obtain ⟨li,fp,hIt,hfp⟩:=h.item
   obtain ⟨σ1,k1,k2⟩:=W53 σ h.wf _ x fp hIt
   have hE:finE (some p)=itemRight x:=by
    show itemFin p=itemRight x
    unfold itemFin;rw [← hp,hxp];rfl
   have h1:=h.step k2
   obtain ⟨li1,fp1,hIt1,hfp1⟩:=h1.item
   have hb21:=hb2.grow k2
   simp only [sN,t5,nilC,fa114_0,fa114_1,fa114_2,ldF,ldG,li,k1] at e
   rw [hE]
   cases hr:itemRight x !=0 with
   | true=>
    have hI:finI (some p)=zeroI:=by
     show (bif itemFin p==0 then p.1 else zeroI)=zeroI
     have:itemFin p=itemRight x:=hE
     rw [this]
     have h0:(itemRight x==0)=false:=by
      rw [bne] at hr
      cases hq:itemRight x==0 with
      | true=>rw [hq] at hr;cases hr
      | false=>rfl
     rw [h0];rfl
    rw [hr] at e
    simp only [sN,build41_0,t2,stItem (ItemR.zero σ1) hb21] at e
    rw [hI]
    exact zero σ1 _ _ k2 (by simp (decide:=true) only [sR,t2]) (by simp (decide:=true) only [sR]) e
   | false=>
    have h0:itemRight x=0:=by simpa using hr
    have hI:finI (some p)=x:=by
     show (bif itemFin p==0 then p.1 else zeroI)=x
     have:itemFin p=itemRight x:=hE
     rw [this,h0,hxp];rfl
    rw [hr] at e
    simp only [sN,li1,t2,stItem hIt1 hb21] at e
    have hA:=hb21.set_same h1.wf (.cells [intV .i64 x.kind,intV .i64 x.query,iv,av,vv,intV .i64 x.err,intV .i64 x.count] 41 true 7)
    have hs:Mod [b2] σ1 (σ1.set b2 (.cells [intV .i64 x.kind,intV .i64 x.query,iv,av,vv,intV .i64 x.err,intV .i64 x.count] 41 true 7)):=Mod.set (by simp) hb21.1 _
    rw [hI,h0]
    exact ⟨_,_,fp1,e.trans (ret27 (by simp (decide:=true) only [sR,t2]) (by simp (decide:=true) only [sR]) (ldIt hA rfl)),h1.grow.set hb2ge hb21.1 _,hIt1.mod hs (by intro y hy;simpa using hIt1.off hb21 (by omega) (by omega) (by omega) y hy),hfp1⟩
theorem pick3(y:List UInt8):pickE y [17,18,19]=bif y==errNm 17 then some 17 else bif y==errNm 18 then some 18 else bif y==errNm 19 then some 19 else none:=by
 have hbq:∀a b:List UInt8,(a==b)=(b==a):=fun a b=>by rw [Bool.eq_iff_iff,beq_iff_eq,beq_iff_eq];exact eq_comm
 rw [hbq y (errNm 17),hbq y (errNm 18),hbq y (errNm 19)]
 simp only [pickE,List.find?_cons,List.find?_nil]
 cases errNm 17==y
 ·cases errNm 18==y
  ·cases errNm 19==y<;>rfl
  ·rfl
 ·rfl
def pE(o:Option Nat):Int:=((o.getD 0:Nat):Int)
theorem pickR_eq(o:Option Nat):pickR o= .tuple [intV .i64 (pE o),boolV o.isSome]:=by cases o<;>rfl
theorem noticeN_eq(e:Int)(he:isE e)(y:List UInt8):noticeN e y=(pE (pickE y [17,18,19]),cmb e (cod (!(pickE y [17,18,19]).isSome) false)):=by
 rw [pick3]
 unfold noticeN
 have h0:cmb e (cod false false)=e:=cmb_0 he
 cases y==errNm 17
 ·cases y==errNm 18
  ·cases y==errNm 19
   ·rfl
   ·simp only [condF,condT,pE,Option.isSome,Bool.not_true,h0];rfl
  ·simp only [condF,condT,pE,Option.isSome,Bool.not_true,h0];rfl
 ·simp only [condT,pE,Option.isSome,Bool.not_true,h0];rfl
theorem mid27(σ0 σ:St)(r:Nat)(p2:AV)(v:AV)(w0 a b c:List UInt8)(hws:∀w∈[w0,a,b,c],w.length<1099511627776)(h:RfW σ0 σ r {zeroI with kind:=2} nilS nilS nilS false false)(hS:StrN σ v [w0,a,b,c])(T:Rg)(t2:T 2=p2)(t4:T 4=v)(t5:T 5= .ptr r 0)(k:K (AEnd×St)):
  ∃T' x' f' g' σ',denK tab W 109 c27d k T σ=k.nxt T' σ'∧T' 2=p2∧T' 5= .ptr r 0∧RfW σ0 σ' r x' nilS nilS nilS f' g'∧Keep σ σ'∧cod f' g'=left3 (noticeF 0 [a,b,c])∧x'=(noticeF 0 [a,b,c]).1:=by
 have e:=ec27d k T σ
 obtain ⟨q1,i1,l1⟩:=hS.get 1 a rfl
 have i1':indexAddr tab 105 v (intV .i64 1)= .ok q1:=i1
 obtain ⟨σ1,k1,k2,k3,k4⟩:=W59 σ0 σ r _ nilS nilS nilS false false h a (hws a (by simp))
 obtain ⟨σ2,s1,s2,s3⟩:=k2.setQuery (numC a).1
 have hS2:=(hS.keep k3).keep s3
 obtain ⟨q2,i2,l2⟩:=hS2.get 2 b rfl
 have i2':indexAddr tab 105 v (intV .i64 2)= .ok q2:=i2
 have hA:=At.new σ2 (.cells [intV .i64 17,intV .i64 18,intV .i64 19] 24 true 1)
 obtain ⟨σ3,hσ3⟩:∃σ3,σ3=σ2.push (.cells [intV .i64 17,intV .i64 18,intV .i64 19] 24 true 1):=⟨_,rfl⟩
 have hg3:Grow σ2 σ3:=by rw [hσ3];exact Grow.push _ _
 have k60:W 60 [str b,.slice σ2.n 0 3 (some 3) 1] σ3= .ok (.ret (pickR (pickE b [17,18,19])),σ3):=W60 b [17,18,19] (by simp) (by simp) σ2.n σ3 true (by rw [hσ3];exact hA)
 rw [pickR_eq] at k60
 have h3:=s2.step hg3
 obtain ⟨σ4,u1,u2,u3⟩:=h3.setErr (pE (pickE b [17,18,19]))
 obtain ⟨σ5,v1,v2,v3,v4⟩:=u2.setF ((false || nF a) || !(pickE b [17,18,19]).isSome)
 have ldF:=u2.ldF
 have hS5:=((hS2.keep hg3.keep).keep u3).keep v3
 obtain ⟨q3,i3,l3'⟩:=hS5.get 3 c rfl
 have i3':indexAddr tab 105 v (intV .i64 3)= .ok q3:=i3
 obtain ⟨σ6,y1,y2,y3,y4⟩:=W59 σ0 σ5 r _ nilS nilS nilS _ _ v2 c (hws c (by simp))
 obtain ⟨σ7,z1,z2,z3⟩:=y2.setCount (numC c).1
 have hK:Keep σ σ7:=(((((k3.trans s3).trans hg3.keep).trans u3).trans v3).trans y3).trans z3
 have hp:(bif (false || nF a) then pickV (boolV (false || nF a)) (boolV true) AV.undef else pickV (boolV (false || nF a)) (boolV true) (boolV (!(pickE b [17,18,19]).isSome)))= .ok (boolV ((false || nF a) || !(pickE b [17,18,19]).isSome)):=by
  cases (false || nF a)<;>rfl
 have hlast:cod (((false || nF a) || !(pickE b [17,18,19]).isSome) || nF c) ((false || nG a) || nG c)=left3 (noticeF 0 [a,b,c]):=by
  have hn:left3 (noticeF 0 [a,b,c])=cmb (cmb (noticeN (cmb (cmb (cmb 0 0) (numC a).2) 0) b).2 0) (numC c).2:=rfl
  rw [hn,cmb_0 (cmb_isE _ _),noticeN_eq _ (cmb_isE _ _),cmb_0 (cmb_isE _ _),numC_cod a,numC_cod c]
  have h00:cmb 0 0=cod false false:=rfl
  rw [h00,cod_cmb,cod_cmb,cod_cmb,Bool.or_false]
 have hx:({kind:=2,query:=(numC a).1,ids:=[],atoms:=[],values:=[],err:=pE (pickE b [17,18,19]),count:=(numC c).1}:ItemD)=(noticeF 0 [a,b,c]).1:=by
  have:(noticeF 0 [a,b,c]).1= {kind:=2,query:=(numC a).1,ids:=[],atoms:=[],values:=[],err:=(noticeN (cmb (cmb (cmb 0 0) (numC a).2) 0) b).1,count:=(numC c).1}:=rfl
  rw [this,noticeN_eq _ (cmb_isE _ _)]
 have key:∃T',denK tab W 109 c27d k T σ=k.nxt T' σ7∧T' 2=p2∧T' 5= .ptr r 0:=by
  cases hfa:nF a with
  | true=>
   rw [hfa] at v1 ldF
   simp only [Bool.or_true,Bool.true_or] at v1 ldF
   simp only [sN,pickV_boolV,t4,t5,i1',l1,k1,nilC,fa114_0,fa114_1,fa41_1,fa41_5,fa41_6,Nat.zero_add,s1,i2',l2,bs147_3,← hσ3,k60,u1,ldF,v1,i3',l3',y1,z1] at e
   refine ⟨_,e,?_,?_⟩<;>simp (decide:=true) only [sR,t2,t5]
  | false=>
   rw [hfa] at v1 ldF
   simp only [Bool.or_false,Bool.false_or] at v1 ldF
   simp only [sN,pickV_boolV,t4,t5,i1',l1,k1,nilC,fa114_0,fa114_1,fa41_1,fa41_5,fa41_6,Nat.zero_add,s1,i2',l2,bs147_3,← hσ3,k60,u1,ldF,v1,i3',l3',y1,z1] at e
   refine ⟨_,e,?_,?_⟩<;>simp (decide:=true) only [sR,t2,t5]
 obtain ⟨T',d1,d2,d3⟩:=key
 exact ⟨T',_,_,_,σ7,d1,d2,d3,z2,hK,hlast,hx⟩
end Go.Proofs.YtahgmmbmmcaejaaGreatDoor
namespace Go.Proofs.YtahgmmbmmcaejaaGreatDoor
open Go Go.Dt
set_option maxRecDepth 100000
theorem build114:Dt.build tab 114 []= .ok (.agg [intV .i64 0,intV .i64 0,nilS,nilS,nilS,intV .i64 0,intV .i64 0,boolV false,boolV false]):=by kernel_rfl
theorem box114(b:Nat):boxA tab 114 (.agg [intV .i64 0,intV .i64 0,nilS,nilS,nilS,intV .i64 0,intV .i64 0,boolV false,boolV false]) b= .ok (.ptr b 0,.cells [intV .i64 0,intV .i64 0,nilS,nilS,nilS,intV .i64 0,intV .i64 0,boolV false,boolV false] 114 true 9):=by kernel_rfl
theorem foundF_nil:left3 (foundF 0 [])=3:=by
 simp only [foundF,evW,evR,List.tail_nil,List.takeWhile_nil,List.dropWhile_nil,List.isEmpty_nil,condT,cmb_3,tailF,left3]
theorem noticeF_ne(ws:List (List UInt8))(h:ws.length≠3):left3 (noticeF 0 ws)=3:=by
 unfold left3 noticeF
 simp only
 match ws,h with
 | [],_=>simp only [List.tail_nil,List.isEmpty_nil,condT,wordE,cmb_3,cmb_3l]
 | [_],_=>simp only [List.tail_cons,List.tail_nil,List.isEmpty_nil,condT,wordE,cmb_3,cmb_3l]
 | [_,_],_=>simp only [List.tail_cons,List.tail_nil,List.isEmpty_nil,condT,wordE,cmb_3,cmb_3l]
 | [_,_,_],h=>exact (h rfl).elim
 | _::_::_::_::_,_=>simp only [List.tail_cons,List.isEmpty_cons,condF,cmb_3]
theorem len3{α:Type}{l:List α}(h:l.length=3):∃a b c,l=[a,b,c]:=by
 match l,h with
 | [a,b,c],_=>exact ⟨a,b,c,rfl⟩
theorem fin3{p:ItemD×List (List UInt8)×Int}(h:left3 p=3):finE (some p)=3∧finI (some p)=zeroI:=by
 have hE:finE (some p)=3:=by
  show itemFin p=3
  unfold itemFin;rw [h];rfl
 refine ⟨hE,?_⟩
 show (bif itemFin p==0 then p.1 else zeroI)=zeroI
 have:itemFin p=3:=hE
 rw [this];rfl
theorem W27(s:List UInt8)(hs:s.length<490000000)(σ:St)(hw:WF σ):Out47 σ (W 27 [str s] σ) (finI (parseQ (splitB 32 s))) (finE (parseQ (splitB 32 s))):=by
 have e:=ec27 k27 (str s) σ
 have hA0:=At.new σ (.cells zero41 41 true 7)
 obtain ⟨v,σ1,fp,k1,k2,k3,k4⟩:=W57 s (by omega) (σ.push (.cells zero41 41 true 7)) (WF.push hw _)
 have hne:=splitB_ne 32 s
 obtain ⟨w0,rest,hsp⟩:∃w0 rest,splitB 32 s=w0::rest:=by
  cases h:splitB 32 s with
  | nil=>exact (hne h).elim
  | cons a b=>exact ⟨a,b,rfl⟩
 have hlen:∀w∈splitB 32 s,w.length<1099511627776:=fun w hw=>by have:=splitB_mem 32 s w hw;omega
 have hcnt:=splitB_cnt 32 s
 rw [hsp] at k4 hlen hcnt ⊢
 have hb2:=hA0.grow k2
 simp only [sN,alloc41',k1,build114,box114] at e
 obtain ⟨σ2,hσ2⟩:∃σ2,σ2=σ1.push (.cells [intV .i64 0,intV .i64 0,nilS,nilS,nilS,intV .i64 0,intV .i64 0,boolV false,boolV false] 114 true 9):=⟨_,rfl⟩
 have hg2:Grow σ1 σ2:=by rw [hσ2];exact Grow.push _ _
 have hn1:σ.n+1≤σ1.n:=k2.n
 have hg:Grow σ σ2:=((Grow.push _ _).trans k2).trans hg2
 have hR:RfW σ σ2 σ1.n zeroI nilS nilS nilS false false:=
  ⟨hg,hg.wf hw,by omega,by rw [hσ2];exact At.new _ _,[],[],[],Vec.nil _ _ _,Vec.nil _ _ _,Vec.nil _ _ _,by simp⟩
 have hV2:=k4.grow hg2
 have hS:StrN σ2 v (w0::rest):=hV2.strN (by simp)
 have hb22:=hb2.grow hg2
 obtain ⟨p,i0,l0⟩:=hS.get 0 w0 rfl
 have i0':indexAddr tab 105 v (intV .i64 0)= .ok p:=i0
 rw [← hσ2] at e
 simp only [sN,pickV_boolV,i0',l0] at e
 have pull:∀(q:Option (ItemD×List (List UInt8)×Int)),Out47 σ (denK tab W 109 c27 k27 (argE [str s]) σ) (finI q) (finE q)→Out47 σ (W 27 [str s] σ) (finI q) (finE q):=by
  rintro q ⟨cs,σ',fp,q1,q2⟩
  exact ⟨cs,σ',fp,w27 (by simp) q1,q2⟩
 have hb2v:=hb22.2
 have none3:∀q T,finE q=3→finI q=zeroI→T 2= .ptr σ.n 0→T 31=boolV false→denK tab W 109 c27 k27 (argE [str s]) σ=denK tab W 109 c27c (kblk 0 (kseq (denK tab W 109 c27b k27) k27)) T σ2→Out47 σ (W 27 [str s] σ) (finI q) (finE q):=by
  intro q T hE hI t2 t31 hT
  refine pull q ?_
  rw [ec27c] at hT
  simp only [sN,t31,build41_0,t2,stItem (ItemR.zero σ2) hb22] at hT
  have hA:=hb22.set_same hR.wf (.cells zero41 41 true 7)
  rw [hE,hI]
  exact ⟨zero41,_,[],hT.trans (ret27 (by simp (decide:=true) only [sR,t2]) (by simp (decide:=true) only [sR]) (ldIt hA rfl)),hg.set (Nat.le_refl _) hb22.1 _,ItemR.zero _,by simp⟩
 have hwf:wordF (w0::rest)=w0:=rfl
 have htl:(w0::rest).tail=rest:=rfl
 unfold parseQ
 rw [hwf,htl]
 cases hf:w0==[102,111,117,110,100] with
 | true=>
  rw [hf] at e
  have hnn:(w0==[110,111,116,105,99,101])=false:=by
   have:w0=[102,111,117,110,100]:=by simpa using hf
   rw [this];rfl
  simp only [condT]
  cases rest with
  | nil=>
   have d:decide (([w0].length:Int)>1)=false:=rfl
   simp only [sN,hS.len,d] at e
   rw [ec27a] at e
   simp (decide:=true) only [sN,pickV_boolV,sR,i0',l0,hnn] at e
   obtain ⟨f1,f2⟩:=fin3 foundF_nil
   exact none3 (some (foundF 0 [])) _ f1 f2 (by simp (decide:=true) only [sR]) (by simp (decide:=true) only [sR]) e
  | cons a l=>
   have d:decide (((w0::a::l).length:Int)>1)=true:=decide_eq_true (by simp;omega)
   simp only [sN,hS.len,d] at e
   rw [ec27a] at e
   obtain ⟨σ3,s1,s2,s3⟩:=hR.setKind 1
   obtain ⟨v',t1,t2⟩:=hV2.strTail (by simp)
   obtain ⟨x',iv',av',vv',f',g',σ4,y1,y2,y3,y4,y5⟩:=W58 σ σ3 σ1.n v' a l (fun w hw=>hlen w (by simp [List.mem_cons.1 hw])) (by simp at hcnt ⊢;omega) s2 (t2.keep s3)
   simp (decide:=true) only [sN,sR,nilC,fa114_0,fa41_0,s1,t1,y1] at e
   refine pull _ ?_
   rw [e]
   exact tail27 σ σ4 σ1.n σ.n x' iv' av' vv' f' g' y2 ((hb22 |>fun h=>y3 _ _ _ _ _ (.inr rfl) (s3 _ _ _ _ _ (.inr rfl) h))) (Nat.le_refl _) _ y4 y5 _ (by simp (decide:=true) only [sR]) (by simp (decide:=true) only [sR])
 | false=>
  rw [hf] at e
  simp only [sN] at e
  simp only [condF]
  rw [ec27a] at e
  simp (decide:=true) only [sN,pickV_boolV,sR,i0',l0] at e
  cases hn:w0==[110,111,116,105,99,101] with
  | false=>
   rw [hn] at e
   simp (decide:=true) only [sN] at e
   exact none3 none _ rfl rfl (by simp (decide:=true) only [sR]) (by simp (decide:=true) only [sR]) e
  | true=>
   rw [hn] at e
   simp (decide:=true) only [sN,hS.len] at e
   simp only [condT]
   by_cases h4:rest.length=3
   ·obtain ⟨a,b,c,habc⟩:∃a b c,rest=[a,b,c]:=len3 h4
    subst habc
    have d:(([w0,a,b,c].length:Int)==4)=true:=rfl
    simp (decide:=true) only [d] at e
    rw [ec27c] at e
    obtain ⟨σ3,s1,s2,s3⟩:=hR.setKind 2
    simp (decide:=true) only [sN,sR,nilC,fa114_0,fa41_0,s1] at e
    refine pull _ ?_
    rw [e]
    generalize hT:putE 109 _ _ _=T1
    obtain ⟨T',x',f',g',σ',d1,d2,d3,d4,d5,d6,d7⟩:=mid27 σ σ3 σ1.n (.ptr σ.n 0) v w0 a b c hlen s2 (hS.keep s3) T1 (by rw [← hT];simp (decide:=true) only [sR]) (by rw [← hT];simp (decide:=true) only [sR]) (by rw [← hT];simp (decide:=true) only [sR]) (kblk 0 (kseq (denK tab W 109 c27b k27) k27))
    rw [d1]
    simp only [kblk_nxt,kseq_nxt]
    exact tail27 σ σ' σ1.n σ.n x' nilS nilS nilS f' g' d4 (d5 _ _ _ _ _ (.inr rfl) (s3 _ _ _ _ _ (.inr rfl) hb22)) (Nat.le_refl _) _ d6 (fun _=>d7) _ d2 d3
   ·have d:(((w0::rest).length:Int)==4)=false:=by rw [beq_eq_false_iff_ne];simp;omega
    simp (decide:=true) only [d] at e
    obtain ⟨f1,f2⟩:=fin3 (noticeF_ne rest h4)
    exact none3 (some (noticeF 0 rest)) _ f1 f2 (by simp (decide:=true) only [sR]) (by simp (decide:=true) only [sR]) e
end Go.Proofs.YtahgmmbmmcaejaaGreatDoor
namespace Go.Proofs.YtahgmmbmmcaejaaGreatDoor
open Go Go.Dt
set_option maxRecDepth 100000
theorem W68(s:List UInt8)(hs:s.length<1099511627776)(σ:St):W 68 [str s] σ= .ok (.ret (.tuple [intV .i64 (numC s).1,boolV ((numC s).2==0)]),σ):=by
 refine w68 (by simp) ?_
 have hn:=W91 s hs 9223372036854775807 (by omega) σ
 rw [natLim_numC] at hn
 have hn':W 91 [str s,intV .u64 9223372036854775807] σ= .ok (.ret (.tuple [intV .u64 (numC s).1,intV .i64 (numC s).2]),σ):=hn
 rw [ec68]
 simp (decide:=true) only [sN,hn',convR_int u72 u3,numC_i64,r68,sR]
def zeroRec:RecD:= {rule:=0,evL:=0,evN:=0,old:=0,new:=0,tick:=0}
def okN(s:List UInt8):Bool:=(numC s).2==0
def okL(s:List UInt8):Bool:=(labP s).isSome
def recW(w0 w1 w3 w4:List UInt8):RecD×Bool:=
 let c:=cutB w1 35
 ({rule:=(numC w0).1,evL:=labV c.1,evN:=(numC c.2.1).1,old:=labV c.1,new:=labV w3,tick:=(numC (w4.drop 1)).1},
  (((((okN w0 && c.2.2) && okN c.2.1) && okN (w4.drop 1)) && okL c.1) && okL w3) && decide ((numC w0).1≤1000))
def recP(s:List UInt8):RecD×Bool:=match splitB 32 s with
 | [w0,w1,w2,w3,w4]=>if w2=[45,62]∧hasPre w4 [64]=true then recW w0 w1 w3 w4 else (zeroRec,false)
 | _=>(zeroRec,false)
noncomputable def k46:K (AEnd×St):=kRet tab [.cell 2 77,.tmp 3]
theorem ret46{T:Rg}{σ:St}{cs:List AV}{e:Bool}{b:Nat}(h2:T 2= .ptr b 0)(h3:T 3=boolV e)(hl:loadV tab σ 77 (.ptr b 0)= .ok (.agg cs)):k46.ret T σ= .ok (.ret (.tuple [.agg cs,boolV e]),σ):=by
 simp only [k46,kRet,resK,h2,h3,hl,bindR_val];rfl
theorem build77_0:Dt.build tab 77 []= .ok (.agg (recC zeroRec)):=by kernel_rfl
theorem build77(a b c d e f:Int):Dt.build tab 77 [(0,intV .i64 a),(1,.agg [intV .u64 b,intV .u64 c]),(2,intV .u64 d),(3,intV .u64 e),(4,intV .u64 f)]= .ok (.agg [intV .i64 a,intV .u64 b,intV .u64 c,intV .u64 d,intV .u64 e,intV .u64 f]):=by kernel_rfl
theorem alloc77'(b:Nat):allocA tab 77 b= .ok (.ptr b 0,.cells (recC zeroRec) 77 true 6):=alloc77 b
theorem st77{σ:St}{b:Nat}{r r':RecD}(hA:At σ b (.cells (recC r) 77 true 6)):storeV tab σ 77 (.ptr b 0) (.agg (recC r'))= .ok (σ.set b (.cells (recC r') 77 true 6)):=
 stv (o:=0) (x:= .agg (recC r')) sz77 hA rfl (by omega) (by simp [recC]) rfl
theorem ld77{σ:St}{b:Nat}{r:RecD}(hA:At σ b (.cells (recC r) 77 true 6)):loadV tab σ 77 (.ptr b 0)= .ok (.agg (recC r)):=lda a77 hA rfl rfl
theorem putFault{σ0 σ1:St}(hg:Grow σ0 σ1)(hw:WF σ1)(e a:Int):∃σ2,storeV tab (σ1.push (.cells [intV .i64 0,intV .i64 0] 26 true 2)) 26 (.ptr σ1.n 0) (.agg [intV .i64 e,intV .i64 a])= .ok σ2∧Grow σ0 σ2∧WF σ2∧At σ2 σ1.n (.cells [intV .i64 e,intV .i64 a] 26 true 2):=by
 have hA1:=At.new σ1 (.cells [intV .i64 0,intV .i64 0] 26 true 2)
 exact ⟨_,st26 hA1,(hg.trans (Grow.push _ _)).set hg.n hA1.1 _,(WF.push hw _).set _ _,hA1.set_same (WF.push hw _) _⟩
theorem numb0(n:Int):(n==0)= !(n !=0):=by simp [bne]
theorem W46(s:List UInt8)(hs:s.length<500000000)(σ:St)(hw:WF σ):∃σ',W 46 [str s] σ= .ok (.ret (.tuple [.agg (recC (recP s).1),boolV (recP s).2]),σ')∧Grow σ σ':=by
 have e:=ec46 k46 (str s) σ
 have hA0:=At.new σ (.cells (recC zeroRec) 77 true 6)
 obtain ⟨v,σ1,k1,k2,k3⟩:=W67 s (by omega) 32 (σ.push (.cells (recC zeroRec) 77 true 6)) (WF.push hw _)
 have hw1:=k2.wf (WF.push hw _)
 have hg1:Grow σ σ1:=(Grow.push _ _).trans k2
 have hA1:=hA0.grow k2
 have hlen:∀w∈splitB 32 s,w.length<1099511627776:=fun w hw=>by have:=splitB_mem 32 s w hw;omega
 simp only [sN,pickV_boolV,alloc77',k1,k3.len] at e
 have bad:∀T:AV→Rg,(∀v,T v 2= .ptr σ.n 0)→(∀v,T v 3=boolV false)→recP s=(zeroRec,false)→(denK tab W 113 c46 k46 (argE [str s]) σ=bindR (Dt.build tab 77 []) fun v=>bindR (storeV tab σ1 77 (.ptr σ.n 0) v) fun s=>k46.ret (T v) s)→
   ∃σ',W 46 [str s] σ= .ok (.ret (.tuple [.agg (recC (recP s).1),boolV (recP s).2]),σ')∧Grow σ σ':=by
  intro T t2 t3 hP hT
  simp only [build77_0,bindR_val,st77 hA1] at hT
  rw [hP]
  exact ⟨_,w46 (by simp) (hT.trans (ret46 (t2 _) (t3 _) (ld77 (hA1.set_same hw1 _)))),hg1.set (Nat.le_refl _) hA1.1 _⟩
 by_cases h5:(splitB 32 s).length=5
 ·obtain ⟨w0,w1,w2,w3,w4,hsp⟩:∃w0 w1 w2 w3 w4,splitB 32 s=[w0,w1,w2,w3,w4]:=by
   match splitB 32 s,h5 with
   | [a,b,c,d,e],_=>exact ⟨a,b,c,d,e,rfl⟩
  have hP:recP s=if w2=[45,62]∧hasPre w4 [64]=true then recW w0 w1 w3 w4 else (zeroRec,false):=by unfold recP;rw [hsp]
  rw [hsp] at k3 e hlen
  obtain ⟨p0,i0,l0,g0⟩:=k3.get 0 w0 rfl
  obtain ⟨p1,i1,l1,g1⟩:=k3.get 1 w1 rfl
  obtain ⟨p2,i2,l2,g2'⟩:=k3.get 2 w2 rfl
  obtain ⟨p3,i3,l3',g3'⟩:=k3.get 3 w3 rfl
  obtain ⟨p4,i4,l4',g4'⟩:=k3.get 4 w4 rfl
  have i0':indexAddr tab 105 v (intV .i64 0)= .ok p0:=i0
  have i1':indexAddr tab 105 v (intV .i64 1)= .ok p1:=i1
  have i2':indexAddr tab 105 v (intV .i64 2)= .ok p2:=i2
  have i3':indexAddr tab 105 v (intV .i64 3)= .ok p3:=i3
  have i4':indexAddr tab 105 v (intV .i64 4)= .ok p4:=i4
  have d:(([w0,w1,w2,w3,w4].length:Int) !=5)=false:=rfl
  simp only [sN,pickV_boolV,d,i2',l2] at e
  cases h2:w2==[45,62] with
  | false=>
   have hn2:¬(w2=[45,62]∧hasPre w4 [64]=true):=fun h=>by rw [h.1] at h2;cases h2
   rw [if_neg hn2] at hP
   rw [h2] at e
   simp only [sN] at e
   exact bad _ (fun v=>by simp (decide:=true) only [sR]) (fun v=>by simp (decide:=true) only [sR]) hP e
  | true=>
   have h2':w2=[45,62]:=by simpa using h2
   rw [h2] at e
   simp only [sN,i4',l4',W71] at e
   cases hp:hasPre w4 [64] with
   | false=>
    have hn2:¬(w2=[45,62]∧hasPre w4 [64]=true):=fun h=>by rw [h.2] at hp;cases hp
    rw [if_neg hn2] at hP
    rw [hp] at e
    simp only [sN] at e
    exact bad _ (fun v=>by simp (decide:=true) only [sR]) (fun v=>by simp (decide:=true) only [sR]) hP e
   | true=>
    rw [if_pos ⟨h2',hp⟩] at hP
    rw [hp] at e
    simp only [sN] at e
    have hl1:=hlen w1 (by simp)
    have hl4:=hlen w4 (by simp)
    have h4pos:1≤w4.length:=by
     unfold hasPre at hp
     exact (List.isPrefixOf_iff_prefix.1 hp).length_le
    have hcl:(cutB w1 35).1.length≤w1.length∧(cutB w1 35).2.1.length≤w1.length:=by
     unfold cutB
     split<;>simp<;>omega
    rw [ec46a] at e
    simp (decide:=true) only [sN,sR,i0',l0,W68 w0 (hlen w0 (by simp))] at e
    rw [ec46b] at e
    simp (decide:=true) only [sN,sR,i1',l1,W11 w1 hl1 35,cutR] at e
    rw [ec46c] at e
    obtain ⟨fe,fa,σ2,m1,m2,m3⟩:=lab72 (cutB w1 35).1 (by omega) σ1 hw1
    obtain ⟨σ3,n1,n2,n3,n4⟩:=putFault (hg1.trans m2) (m2.wf hw1) fe fa
    simp (decide:=true) only [sN,sR,m1,alloc26,n1] at e
    rw [ec46d] at e
    simp (decide:=true) only [sN,sR,W68 (cutB w1 35).2.1 (by omega)] at e
    rw [ec46e] at e
    have hg13:Grow σ1 σ3:=by
     obtain ⟨σ3',n1',n2',_⟩:=putFault m2 (m2.wf hw1) fe fa
     have:σ3=σ3':=by have:=n1.symm.trans n1';exact Except.ok.inj this
     rw [this];exact n2'
    obtain ⟨ge,ga,σ4,q1,q2,q3⟩:=lab72 w3 (hlen w3 (by simp)) σ3 n3
    obtain ⟨σ5,u1,u2,u3',u4⟩:=putFault (n2.trans q2) (q2.wf n3) ge ga
    have hg35:Grow σ3 σ5:=by
     obtain ⟨σ5',n1',n2',_⟩:=putFault q2 (q2.wf n3) ge ga
     have:σ5=σ5':=by have:=u1.symm.trans n1';exact Except.ok.inj this
     rw [this];exact n2'
    have hg15:=hg13.trans hg35
    have L3:=g3' σ3 hg13
    have L4:=g4' σ5 hg15
    have hA5:=hA1.grow hg15
    have f1:loadV tab σ5 24 (.ptr σ2.n 0)= .ok (intV .i64 fe):=ld l24 (n4.grow hg35) rfl
    have f2:loadV tab σ5 24 (.ptr σ4.n 0)= .ok (intV .i64 ge):=ld l24 u4 rfl
    have z1:(fe==0)=okL (cutB w1 35).1:=by rw [numb0,m3];unfold okL;cases labP (cutB w1 35).1<;>rfl
    have z2:(ge==0)=okL w3:=by rw [numb0,q3];unfold okL;cases labP w3<;>rfl
    simp (decide:=true) only [sN,sR,i3',L3,q1,alloc26,u1] at e
    rw [ec46f] at e
    have sl1:sliceV tab 9 (str w4) (some (intV .i64 1)) none none= .ok (str (w4.drop 1)):=sliceS_lo w4 1 h4pos
    have o0:((numC w0).2==0)=okN w0:=rfl
    have o1:((numC (cutB w1 35).2.1).2==0)=okN (cutB w1 35).2.1:=rfl
    have o4:((numC (w4.drop 1)).2==0)=okN (w4.drop 1):=rfl
    simp (decide:=true) only [sN,sR,i4',L4,sl1,W68 (w4.drop 1) (by simp;omega),o0,o1,o4,sC,fa26_0,f1,f2,z1,z2,convR_int u3 u72,numC_u64,build74,build77] at e
    rw [hP]
    have hst:=st77 (r':=(recW w0 w1 w3 w4).1) hA5
    have hrc:(AV.agg [intV .i64 (numC w0).1,intV .u64 (labV (cutB w1 35).1),intV .u64 (numC (cutB w1 35).2.1).1,intV .u64 (labV (cutB w1 35).1),intV .u64 (labV w3),intV .u64 (numC (w4.drop 1)).1])= .agg (recC (recW w0 w1 w3 w4).1):=rfl
    rw [hrc,hst,bindR_val] at e
    refine ⟨_,w46 (by simp) (e.trans (ret46 (by simp (decide:=true) only [sR]) (by simp (decide:=true) only [sR];rfl) (ld77 (hA5.set_same u3' _)))),u2.set (Nat.le_refl _) hA5.1 _⟩
 ·have hP:recP s=(zeroRec,false):=by
   unfold recP
   split
   ·rename_i h;rw [h] at h5;exact (h5 rfl).elim
   ·rfl
  have d:(((splitB 32 s).length:Int) !=5)=true:=by rw [bne_iff_ne];omega
  simp only [sN,pickV_boolV,d] at e
  exact bad _ (fun v=>by simp (decide:=true) only [sR]) (fun v=>by simp (decide:=true) only [sR]) hP e
end Go.Proofs.YtahgmmbmmcaejaaGreatDoor
namespace Go.Proofs.YtahgmmbmmcaejaaGreatDoor
open Go Go.Dt
set_option maxRecDepth 100000
def zeroRep:RepD:= {to:=0,err:=0,at':=0,num:=0,items:=[],recs:=[]}
def headC(r:RepD):List AV:=[intV .i64 r.to,intV .i64 r.err,intV .i64 r.at',intV .i64 r.num,nilS,nilS]
def headW(w1 w2 w3 w4:List UInt8):RepD×Bool:=
 ({to:=(numC w1).1,err:=pE (errIx w2),at':=(numC w3).1,num:=(numC w4).1,items:=[],recs:=[]},((okN w1 && (errIx w2).isSome) && okN w3) && okN w4)
def headP(s:List UInt8):RepD×Bool:=match splitB 32 s with
 | [w0,w1,w2,w3,w4]=>if w0=[114,101,112,108,121] then headW w1 w2 w3 w4 else (zeroRep,false)
 | _=>(zeroRep,false)
theorem errR_eq(o:Option Nat):errR o= .tuple [intV .i64 (pE o),boolV o.isSome]:=by cases o<;>rfl
noncomputable def k44:K (AEnd×St):=kRet tab [.cell 2 36,.tmp 3]
theorem ret44{T:Rg}{σ:St}{cs:List AV}{e:Bool}{b:Nat}(h2:T 2= .ptr b 0)(h3:T 3=boolV e)(hl:loadV tab σ 36 (.ptr b 0)= .ok (.agg cs)):k44.ret T σ= .ok (.ret (.tuple [.agg cs,boolV e]),σ):=by
 simp only [k44,kRet,resK,h2,h3,hl,bindR_val];rfl
theorem sz36:sizeB 36 6=true:=by kernel_rfl
theorem alloc36(b:Nat):allocA tab 36 b= .ok (.ptr b 0,.cells (headC zeroRep) 36 true 6):=by kernel_rfl
theorem build36_0:Dt.build tab 36 []= .ok (.agg (headC zeroRep)):=by kernel_rfl
theorem build36(a b c d:Int):Dt.build tab 36 [(0,intV .i64 a),(1,intV .i64 b),(2,intV .i64 c),(3,intV .i64 d)]= .ok (.agg [intV .i64 a,intV .i64 b,intV .i64 c,intV .i64 d,nilS,nilS]):=by kernel_rfl
theorem st36{σ:St}{b:Nat}{r r':RepD}(hA:At σ b (.cells (headC r) 36 true 6)):storeV tab σ 36 (.ptr b 0) (.agg (headC r'))= .ok (σ.set b (.cells (headC r') 36 true 6)):=
 stv (o:=0) (x:= .agg (headC r')) sz36 hA rfl (by omega) (by simp [headC]) rfl
theorem ld36{σ:St}{b:Nat}{r:RepD}(hA:At σ b (.cells (headC r) 36 true 6)):loadV tab σ 36 (.ptr b 0)= .ok (.agg (headC r)):=lda a36 hA rfl rfl
theorem W44(s:List UInt8)(hs:s.length<500000000)(σ:St)(hw:WF σ):∃σ',W 44 [str s] σ= .ok (.ret (.tuple [.agg (headC (headP s).1),boolV (headP s).2]),σ')∧Grow σ σ':=by
 have e:=ec44 k44 (str s) σ
 have hA0:=At.new σ (.cells (headC zeroRep) 36 true 6)
 obtain ⟨v,σ1,k1,k2,k3⟩:=W67 s (by omega) 32 (σ.push (.cells (headC zeroRep) 36 true 6)) (WF.push hw _)
 have hw1:=k2.wf (WF.push hw _)
 have hg1:Grow σ σ1:=(Grow.push _ _).trans k2
 have hA1:=hA0.grow k2
 have hlen:∀w∈splitB 32 s,w.length<1099511627776:=fun w hw=>by have:=splitB_mem 32 s w hw;omega
 simp only [sN,pickV_boolV,alloc36,k1,k3.len] at e
 have bad:∀T:AV→Rg,(∀v,T v 2= .ptr σ.n 0)→(∀v,T v 3=boolV false)→headP s=(zeroRep,false)→(denK tab W 68 c44 k44 (argE [str s]) σ=bindR (Dt.build tab 36 []) fun v=>bindR (storeV tab σ1 36 (.ptr σ.n 0) v) fun s=>k44.ret (T v) s)→
   ∃σ',W 44 [str s] σ= .ok (.ret (.tuple [.agg (headC (headP s).1),boolV (headP s).2]),σ')∧Grow σ σ':=by
  intro T t2 t3 hP hT
  simp only [build36_0,bindR_val,st36 hA1] at hT
  rw [hP]
  exact ⟨_,w44 (by simp) (hT.trans (ret44 (t2 _) (t3 _) (ld36 (hA1.set_same hw1 _)))),hg1.set (Nat.le_refl _) hA1.1 _⟩
 by_cases h5:(splitB 32 s).length=5
 ·obtain ⟨w0,w1,w2,w3,w4,hsp⟩:∃w0 w1 w2 w3 w4,splitB 32 s=[w0,w1,w2,w3,w4]:=by
   match splitB 32 s,h5 with
   | [a,b,c,d,e],_=>exact ⟨a,b,c,d,e,rfl⟩
  have hP:headP s=if w0=[114,101,112,108,121] then headW w1 w2 w3 w4 else (zeroRep,false):=by unfold headP;rw [hsp]
  rw [hsp] at k3 e hlen
  obtain ⟨p0,i0,l0,g0⟩:=k3.get 0 w0 rfl
  obtain ⟨p1,i1,l1,g1⟩:=k3.get 1 w1 rfl
  obtain ⟨p2,i2,l2,g2'⟩:=k3.get 2 w2 rfl
  obtain ⟨p3,i3,l3',g3'⟩:=k3.get 3 w3 rfl
  obtain ⟨p4,i4,l4',g4'⟩:=k3.get 4 w4 rfl
  have i0':indexAddr tab 105 v (intV .i64 0)= .ok p0:=i0
  have i1':indexAddr tab 105 v (intV .i64 1)= .ok p1:=i1
  have i2':indexAddr tab 105 v (intV .i64 2)= .ok p2:=i2
  have i3':indexAddr tab 105 v (intV .i64 3)= .ok p3:=i3
  have i4':indexAddr tab 105 v (intV .i64 4)= .ok p4:=i4
  have d:(([w0,w1,w2,w3,w4].length:Int) !=5)=false:=rfl
  simp only [sN,d,i0',l0] at e
  cases h2:w0==[114,101,112,108,121] with
  | false=>
   have hn2:¬(w0=[114,101,112,108,121]):=fun h=>by rw [h] at h2;cases h2
   rw [if_neg hn2] at hP
   rw [h2] at e
   simp only [sN] at e
   exact bad _ (fun v=>by simp (decide:=true) only [sR]) (fun v=>by simp (decide:=true) only [sR]) hP e
  | true=>
   have h2':w0=[114,101,112,108,121]:=by simpa using h2
   rw [if_pos h2'] at hP
   rw [h2] at e
   simp only [sN] at e
   rw [ec44a] at e
   simp (decide:=true) only [sN,sR,i1',l1,W68 w1 (hlen w1 (by simp))] at e
   rw [ec44b] at e
   have o1:((numC w1).2==0)=okN w1:=rfl
   have o3:((numC w3).2==0)=okN w3:=rfl
   have o4:((numC w4).2==0)=okN w4:=rfl
   simp (decide:=true) only [sN,sR,i2',l2,W69,errR_eq,i3',l3',i4',l4',W68 w3 (hlen w3 (by simp)),W68 w4 (hlen w4 (by simp)),o1,o3,o4,sC,build36] at e
   rw [hP]
   have hst:=st36 (r':=(headW w1 w2 w3 w4).1) hA1
   have hrc:(AV.agg [intV .i64 (numC w1).1,intV .i64 (pE (errIx w2)),intV .i64 (numC w3).1,intV .i64 (numC w4).1,nilS,nilS])= .agg (headC (headW w1 w2 w3 w4).1):=rfl
   rw [hrc,hst,bindR_val] at e
   exact ⟨_,w44 (by simp) (e.trans (ret44 (by simp (decide:=true) only [sR]) (by simp (decide:=true) only [sR];rfl) (ld36 (hA1.set_same hw1 _)))),hg1.set (Nat.le_refl _) hA1.1 _⟩
 ·have hP:headP s=(zeroRep,false):=by
   unfold headP
   split
   ·rename_i h;rw [h] at h5;exact (h5 rfl).elim
   ·rfl
  have d:(((splitB 32 s).length:Int) !=5)=true:=by rw [bne_iff_ne];omega
  simp only [sN,d] at e
  exact bad _ (fun v=>by simp (decide:=true) only [sR]) (fun v=>by simp (decide:=true) only [sR]) hP e
theorem errIx_lt{w:List UInt8}{n:Nat}(h:errIx w=some n):n<24∧errNm n=w:=by
 unfold errIx at h
 have h1:=List.mem_of_find?_eq_some h
 have h2:=List.find?_some h
 simp only [List.mem_range'] at h1
 obtain ⟨i,hi,rfl⟩:=h1
 exact ⟨by omega,by simpa using h2⟩
def namesApart:Bool:=(List.range 24).all fun a=>(List.range 24).all fun b=>(a==b) || !(errNm a==errNm b)
theorem namesApart_ok:namesApart=true:=by kernel_rfl
theorem errNm_inj{a b:Nat}(ha:a<24)(hb:b<24)(h:errNm a=errNm b):a=b:=by
 have h1:=List.all_eq_true.1 namesApart_ok a (List.mem_range.2 ha)
 have h2:=List.all_eq_true.1 h1 b (List.mem_range.2 hb)
 simp only [Bool.or_eq_true,beq_iff_eq,Bool.not_eq_true',beq_eq_false_iff_ne] at h2
 rcases h2 with h2 | h2
 ·exact h2
 ·exact (h2 h).elim
def errTo(w:List UInt8):Nat→Int
 | 0=> -1
 | n+1=>if errNm n=w then (n:Int) else errTo w n
theorem errTo_ix(w:List UInt8):errTo w 24=match errIx w with
  | some n=>(n:Int)
  | none=> -1:=by
 have key:∀n,n≤24→(∀m,m<n→errNm m≠w)→errTo w n= -1:=by
  intro n
  induction n with
  | zero=>intro _ _;rfl
  | succ n ih=>
   intro h1 h2
   unfold errTo
   rw [if_neg (h2 n (by omega))]
   exact ih (by omega) fun m hm=>h2 m (by omega)
 have key2:∀k n,n<k→k≤24→errNm n=w→errTo w k=(n:Int):=by
  intro k
  induction k with
  | zero=>intro n h;omega
  | succ k ih=>
   intro n h1 h2 h3
   unfold errTo
   by_cases hk:errNm k=w
   ·rw [if_pos hk]
    have:=errNm_inj (by omega:k<24) (by omega:n<24) (hk.trans h3.symm)
    rw [this]
   ·rw [if_neg hk]
    have:n≠k:=fun h=>hk (h ▸ h3)
    exact ih n (by omega) (by omega) h3
 cases h:errIx w with
 | some n=>
  obtain ⟨h1,h2⟩:=errIx_lt h
  exact key2 24 n h1 (Nat.le_refl _) h2
 | none=>
  refine key 24 (Nat.le_refl _) ?_
  intro m hm hw
  unfold errIx at h
  rw [List.find?_eq_none] at h
  have:=h m (by rw [List.mem_range'];exact ⟨m,hm,by omega⟩)
  simp [hw] at this
end Go.Proofs.YtahgmmbmmcaejaaGreatDoor
