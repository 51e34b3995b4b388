/-
  A part of the proof. No statement of this seat stands here.
-/
import Derived.Test.YtahgmmbmmcaejaaGreatDoorP16
namespace Go.Proofs.YtahgmmbmmcaejaaGreatDoor
open Go Go.Dt
set_option maxRecDepth 100000
theorem splice1(v:AV):∀(cs:List AV) (i:Nat),i<cs.length→splice cs i [v]=cs.take i++v::cs.drop (i+1)
 | [],i,h=>by simp at h
 | c::cs,0,_=>by cases cs<;>rfl
 | c::cs,i+1,h=>by
  show c::splice cs i [v]=_
  rw [splice1 v cs i (by simpa using h)]
  rfl
theorem cnt_ix(c:UInt8)(l:List UInt8):(cntB c l=0→ixB l c=none)∧(∀m,cntB c l=m+1→∃i,ixB l c=some i∧cntB c (l.drop (i+1))=m):=by
 have h1:=splitB_len c l
 have h2:=splitB_ix c l
 cases h:ixB l c with
 | none=>
  rw [h] at h2
  rw [h2] at h1
  refine ⟨fun _=>rfl,fun m hm=> ?_⟩
  simp at h1;omega
 | some i=>
  rw [h] at h2
  rw [h2] at h1
  have h3:=splitB_len c (l.drop (i+1))
  simp at h1
  rw [h3] at h1
  exact ⟨fun h0=>by omega,fun m hm=>⟨i,rfl,by omega⟩⟩
theorem cnt_le(c:UInt8)(l:List UInt8):cntB c l≤l.length:=List.countP_le_length
theorem i64w(n:Nat)(h:n<4611686018427387904):IntKind.i64.wrap (n:Int)=(n:Int):=by
 simp [IntKind.wrap,IntKind.bits,IntKind.signed];omega
theorem loop90(c:UInt8)(b n:Nat)(hn:n<1073741824):∀(m i:Nat) (T:Rg) (σ:St) (cs:List AV) (rest:List UInt8) (done:List (List UInt8)),WF σ→At σ b (.cells cs 9 true 1)→cs.length=n→i+m+1=n→done.length=i→cs.take i=done.map str→
  cntB c rest=m→rest.length<536870912→T 0=str rest→T 1=str [c]→T 2=intV .i64 0→T 3=intV .i64 ((n - 1:Nat):Int)→T 9= .slice b 0 n (some n) 1→T 10=intV .i64 (i:Int)→
  ∃T' σ' cs' last done',loopLim (dd tab W 66 c90d) T σ= .ok (.exit 0 T' σ')∧Mod [b] σ σ'∧At σ' b (.cells cs' 9 true 1)∧cs'.length=n∧T' 0=str last∧T' 9= .slice b 0 n (some n) 1∧T' 10=intV .i64 ((n - 1:Nat):Int)∧cs'.take (n - 1)=done'.map str∧done'.length=n - 1∧done'++[last]=done++splitB c rest:=by
 intro m
 induction m with
 | zero=>
  intro i T σ cs rest done hw hA hcl hi hdl hct hcn hrl h0 h1 h2 h3 h9 h10
  have e:=ec90d kOc T σ
  have d1:decide ((i:Int)<((n - 1:Nat):Int))=false:=by simp;omega
  simp only [sN,h10,h3,d1] at e
  have hi':n - 1=i:=by omega
  refine ⟨_,σ,cs,rest,done,loop_exit (dd_of tab W 66 e),Mod.refl _ _,hA,hcl,?_,?_,?_,?_,?_,?_⟩
  ·simp (decide:=true) only [sR,h0]
  ·simp (decide:=true) only [sR,h9]
  ·simp (decide:=true) only [sR,h10,hi']
  ·rw [hi'];exact hct
  ·omega
  ·rw [splitB_ix,(cnt_ix c rest).1 hcn]
 | succ m ih=>
  intro i T σ cs rest done hw hA hcl hi hdl hct hcn hrl h0 h1 h2 h3 h9 h10
  obtain ⟨k,hk,hkm⟩:=(cnt_ix c rest).2 m hcn
  have hkl:=ixB_lt hk
  have e:=ec90d kOc T σ
  have d1:decide ((i:Int)<((n - 1:Nat):Int))=true:=by simp;omega
  have d2:decide (ixR (some k)<0)=false:=decide_eq_false (by show ¬((k:Int)<0);omega)
  have ek:ixR (some k)=(k:Int):=rfl
  have w0:IntKind.i64.wrap ((k:Int)+0)=(k:Int):=by rw [Int.add_zero];exact i64w k (by omega)
  have w1:IntKind.i64.wrap ((k:Int)+(([c].length:Nat):Int))=((k+1:Nat):Int):=i64_add1 k (by omega)
  have w2:IntKind.i64.wrap ((i:Int)+1)=((i+1:Nat):Int):=i64_add1 i (by omega)
  have hst:storeV tab σ 9 (.ptr b (i*1)) (str (rest.take k))= .ok (σ.set b (.cells (cs.take i++str (rest.take k)::cs.drop (i+1)) 9 true 1)):=by
   have:=stv (o:=i*1) (x:=str (rest.take k)) sz9 hA rfl (by omega) (by omega) rfl
   rw [this,Nat.mul_one]
   have hc:(str (rest.take k)).cells=[str (rest.take k)]:=rfl
   rw [hc,splice1 _ cs i (by omega)]
  simp only [sN,h10,h3,d1,h0,h1,W103,hk,d2] at e
  simp only [sN,ek,h2,h9,w0,w1,w2,sliceS_hi rest k (by omega),sliceS_lo rest (k+1) (by omega),ixA0 el105 (show i<n by omega),hst] at e
  have hA':=hA.set_same hw (.cells (cs.take i++str (rest.take k)::cs.drop (i+1)) 9 true 1)
  have key:∃T1,denK tab W 66 c90d kOc T σ= .ok (.nxt T1 (σ.set b (.cells (cs.take i++str (rest.take k)::cs.drop (i+1)) 9 true 1)))∧T1 0=str (rest.drop (k+1))∧T1 1=str [c]∧T1 2=intV .i64 0∧T1 3=intV .i64 ((n - 1:Nat):Int)∧T1 9= .slice b 0 n (some n) 1∧T1 10=intV .i64 ((i+1:Nat):Int):=by
   refine ⟨_,e,?_,?_,?_,?_,?_,?_⟩<;>simp (decide:=true) only [sR,h1,h2,h3,h9]
  obtain ⟨T1,e1,k0,k1,k2,k3,k9,k10⟩:=key
  have htl:(cs.take i).length=i:=by rw [List.length_take];omega
  obtain ⟨T',σ',cs',last,done',q1,q2,q3,q4,q5,q6,q7,q8,q9,q10⟩:=ih (i+1) T1 _ _ (rest.drop (k+1)) (done++[rest.take k]) (hw.set _ _) hA' (by simp;omega) (by omega) (by simp;omega)
   (by
    rw [List.take_append,htl,(by omega:i+1 - i=1),List.take_of_length_le (by omega:(cs.take i).length≤i+1),hct]
    simp) hkm (by simp;omega) k0 k1 k2 k3 k9 k10
  refine ⟨T',σ',cs',last,done',loop_next (dd_of tab W 66 e1) q1,(Mod.set (by simp) hA.1 _).trans q2,q3,q4,q5,q6,q7,q8,q9,?_⟩
  rw [q10,splitB_ix c rest,hk]
  simp
def Strs(σ:St)(v:AV)(ws:List (List UInt8)):Prop:=
 ∃b o cs ow,v= .slice b o ws.length (some ws.length) 1∧At σ b (.cells cs 9 ow 1)∧(cs.drop o).take ws.length=ws.map str∧WF σ
theorem W90(s:List UInt8)(hs:s.length<536870912)(c:UInt8)(σ:St)(hw:WF σ):∃v σ',W 90 [str s,str [c],intV .i64 0,intV .i64 (-1)] σ= .ok (.ret v,σ')∧Grow σ σ'∧Strs σ' v (splitB c s):=by
 have e:=ec90 (kRet tab [.tmp 8]) (str s) (str [c]) (intV .i64 0) (intV .i64 (-1)) σ
 have d0:(((-1:Int))==0)=false:=rfl
 have d1:([c]==([]:List UInt8))=false:=rfl
 have d2:decide ((-1:Int)<0)=true:=rfl
 have hcl:=cnt_le c s
 have w1:IntKind.i64.wrap (((cntB c s:Nat):Int)+1)=((cntB c s+1:Nat):Int):=i64_add1 _ (by omega)
 have w2:IntKind.i64.wrap ((s.length:Int)+1)=((s.length+1:Nat):Int):=i64_add1 _ (by omega)
 have w3:(if ((s.length+1:Nat):Int)<((cntB c s+1:Nat):Int) then ((s.length+1:Nat):Int) else ((cntB c s+1:Nat):Int))=((cntB c s+1:Nat):Int):=by rw [if_neg (by omega)]
 have w4:IntKind.i64.wrap (((cntB c s+1:Nat):Int) - 1)=((cntB c s+1 - 1:Nat):Int):=by
  have:((cntB c s+1:Nat):Int) - 1=((cntB c s+1 - 1:Nat):Int):=by omega
  rw [this];exact i64w _ (by omega)
 simp only [sN,d0,d1] at e
 rw [ec90a] at e
 have a0:argE [str s,str [c],intV .i64 0,intV .i64 (-1)] 0=str s:=rfl
 have a1:argE [str s,str [c],intV .i64 0,intV .i64 (-1)] 1=str [c]:=rfl
 have a2:argE [str s,str [c],intV .i64 0,intV .i64 (-1)] 2=intV .i64 0:=rfl
 have a3:argE [str s,str [c],intV .i64 0,intV .i64 (-1)] 3=intV .i64 (-1):=rfl
 simp (decide:=true) only [sN,sR,a0,a1,a3,W102,w1] at e
 rw [ec90b] at e
 simp (decide:=true) only [sN,sR,a0,w2,minMax2,w3] at e
 rw [ec90c] at e
 simp (decide:=true) only [sN,sR,mk105 _ (show cntB c s+1<1073741824 by omega),w4] at e
 obtain ⟨n,hn⟩:∃n,n=cntB c s+1:=⟨_,rfl⟩
 rw [← hn] at e
 have hA:=At.new σ (.cells (List.replicate n (str [])) 9 true 1)
 generalize hT:putE 66 _ (some 10) (intV .i64 0)=T at e
 obtain ⟨T',σ',cs',last,done',q1,q2,q3,q4,q5,q6,q7,q8,q9,q10⟩:=loop90 c σ.n n (by omega) (cntB c s) 0 T _ _ s [] (WF.push hw _) hA (by simp) (by omega) rfl (by simp) rfl hs
  (by rw [← hT];simp (decide:=true) only [sR,a0]) (by rw [← hT];simp (decide:=true) only [sR,a1]) (by rw [← hT];simp (decide:=true) only [sR,a2]) (by rw [← hT];simp (decide:=true) only [sR]) (by rw [← hT];simp (decide:=true) only [sR]) (by rw [← hT];simp (decide:=true) only [sR];rfl)
 have hg:Grow σ σ':=((Mod.push [σ.n] σ _).trans q2).grow (by simp)
 have w5:IntKind.i64.wrap (((n - 1:Nat):Int)+1)=((n:Nat):Int):=by rw [i64_add1 _ (by omega)];congr 1;omega
 have hst:storeV tab σ' 9 (.ptr σ.n ((n - 1)*1)) (str last)= .ok (σ'.set σ.n (.cells (cs'.take (n - 1)++str last::cs'.drop (n - 1+1)) 9 true 1)):=by
  have:=stv (o:=(n - 1)*1) (x:=str last) sz9 q3 rfl (by omega) (by omega) rfl
  rw [this,Nat.mul_one]
  have hc:(str last).cells=[str last]:=rfl
  rw [hc,splice1 _ cs' (n - 1) (by omega)]
 have hsl:sliceV tab 105 (.slice σ.n 0 n (some n) 1) none (some (intV .i64 (n:Int))) none= .ok (.slice σ.n 0 n (some n) 1):=by
  have h1:und tab 105= .ok (.slice 9):=by kernel_rfl
  have h2:size tab 9= .ok 1:=by kernel_rfl
  simp [sliceV,h1,h2,boundO,bound_ok n n (Nat.le_refl _),bindR_eq]
 rw [q1] at e
 simp (decide:=true) only [sN,if_true,ec90e,q5,q6,q7,ixA0 el105 (show n - 1<n by omega),hst,w5,hsl,r90,sR] at e
 refine ⟨_,_,w90 (by simp) e,hg.set (Nat.le_refl _) q3.1 _,?_⟩
 have hw':=hg.wf hw
 have hlen:(splitB c s).length=n:=by rw [splitB_len,hn]
 refine ⟨σ.n,0,_,true,by rw [hlen],q3.set_same hw' _,?_,hw'.set _ _⟩
 rw [hlen,List.drop_zero,q8]
 have:splitB c s=done'++[last]:=by rw [q10];rfl
 rw [this,List.map_append]
 have hdl:(done'.map str).length=n - 1:=by simp [q9]
 rw [List.drop_eq_nil_of_le (by omega:cs'.length≤n - 1+1)]
 rw [List.take_of_length_le (by simp;omega)]
 rfl
theorem W67(s:List UInt8)(hs:s.length<536870912)(c:UInt8)(σ:St)(hw:WF σ):∃v σ',W 67 [str s,str [c]] σ= .ok (.ret v,σ')∧Grow σ σ'∧Strs σ' v (splitB c s):=by
 obtain ⟨v,σ',h1,h2,h3⟩:=W90 s hs c σ hw
 refine ⟨v,σ',w67 (by simp) ?_,h2,h3⟩
 rw [ec67]
 simp (decide:=true) only [sN,h1,r67,sR]
end Go.Proofs.YtahgmmbmmcaejaaGreatDoor
namespace Go.Proofs.YtahgmmbmmcaejaaGreatDoor
open Go Go.Dt
set_option maxRecDepth 100000
def cmb(a b:Int):Int:=bif a==3 || b==3 then 3 else bif a==2 || b==2 then 2 else 0
def isE(a:Int):Prop:=a=0∨a=2∨a=3
theorem cmb_isE(a b:Int):isE (cmb a b):=by
 unfold cmb
 cases (a==3 || b==3) with
 | true=>exact .inr (.inr rfl)
 | false=>cases (a==2 || b==2) with
  | true=>exact .inr (.inl rfl)
  | false=>exact .inl rfl
theorem cmb_0{a:Int}(h:isE a):cmb a 0=a:=by rcases h with h | h | h<;>subst h<;>rfl
theorem cmb_0l{a:Int}(h:isE a):cmb 0 a=a:=by rcases h with h | h | h<;>subst h<;>rfl
theorem cmb_3(a:Int):cmb a 3=3:=by simp [cmb]
theorem cmb_3l(a:Int):cmb 3 a=3:=by simp [cmb]
theorem cmb_assoc{a b c:Int}(ha:isE a)(hb:isE b)(hc:isE c):cmb (cmb a b) c=cmb a (cmb b c):=by
 rcases ha with h | h | h<;>rcases hb with h' | h' | h'<;>rcases hc with h'' | h'' | h''<;>subst h<;>subst h'<;>subst h''<;>rfl
def numC(s:List UInt8):Int×Int:=match numS s with
 | none=>(0,3)
 | some v=>if 9223372036854775807<v then (0,2) else ((v:Int),0)
theorem numC_isE(s:List UInt8):isE (numC s).2:=by
 unfold numC isE
 split
 ·simp
 ·split<;>simp
theorem natLim_numC(s:List UInt8):natLim s 9223372036854775807= .tuple [intV .u64 (numC s).1,intV .i64 (numC s).2]:=by
 unfold natLim numC
 cases numS s with
 | none=>rfl
 | some v=>
  by_cases h:9223372036854775807<v
  ·simp only [if_pos h]
  ·simp only [if_neg h]
theorem numC_rng(s:List UInt8):0≤(numC s).1∧(numC s).1≤9223372036854775807:=by
 unfold numC
 split
 ·simp
 ·split
  ·simp
  ·constructor<;>simp only<;>omega
theorem numC_i64(s:List UInt8):IntKind.i64.wrap (numC s).1=(numC s).1:=by
 have:=numC_rng s
 simp only [IntKind.wrap,IntKind.bits,IntKind.signed];simp;omega
theorem numC_u64(s:List UInt8):IntKind.u64.wrap (numC s).1=(numC s).1:=by
 have:=numC_rng s
 simp only [IntKind.wrap,IntKind.bits,IntKind.signed];simp;omega
def intC(s:List UInt8):Int×Int:=match numS (intT s) with
 | none=>(0,3)
 | some v=>if isNeg s=true∧v=0 then (0,3) else match narrowS (isNeg s) v with
  | none=>(0,2)
  | some x=>(x,0)
theorem intC_isE(s:List UInt8):isE (intC s).2:=by
 unfold intC isE
 split
 ·simp
 ·split
  ·simp
  ·split<;>simp
theorem intS_intC(s:List UInt8):intS s= .tuple [intV .i64 (intC s).1,intV .i64 (intC s).2]:=by
 unfold intS intC midS
 cases numS (intT s) with
 | none=>rfl
 | some v=>
  by_cases h:isNeg s=true∧v=0
  ·simp only [if_pos h]
  ·simp only [if_neg h]
   cases narrowS (isNeg s) v<;>rfl
theorem nilC(b o:Nat):nilCheckV (.ptr b o)= .ok (.ptr b o):=eqBy rfl
theorem fa133_0(b:Nat):fieldAddr tab 133 (.ptr b 0) 0= .ok (.ptr b 0):=by kernel_rfl
theorem fa133_1(b:Nat):fieldAddr tab 133 (.ptr b 0) 1= .ok (.ptr b 1):=by kernel_rfl
theorem l105:leafB 105=true:=by kernel_rfl
theorem sz105:sizeB 105 1=true:=by kernel_rfl
theorem sz24:sizeB 24 1=true:=by kernel_rfl
theorem u105:und tab 105= .ok (.slice 9):=by kernel_rfl
theorem size9:size tab 9= .ok 1:=by kernel_rfl
theorem Strs.mod{σ σ':St}{v:AV}{ws:List (List UInt8)}{P:List Nat}(h:Strs σ v ws)(hm:Mod P σ σ')(hp:∀b∈P,∀cs ow,¬At σ b (.cells cs 9 ow 1)):Strs σ' v ws:=by
 obtain ⟨b,o,cs,ow,h1,h2,h3,h4⟩:=h
 exact ⟨b,o,cs,ow,h1,h2.mod hm (fun hb=>hp b hb cs ow h2),h3,hm.wf h4⟩
theorem Strs.grow{σ σ':St}{v:AV}{ws:List (List UInt8)}(h:Strs σ v ws)(hm:Grow σ σ'):Strs σ' v ws:=h.mod (hm.mod []) (by simp)
theorem Strs.len{σ:St}{v:AV}{ws:List (List UInt8)}(h:Strs σ v ws):lenV tab 105 v= .ok (intV .i64 (ws.length:Int)):=by
 obtain ⟨b,o,cs,ow,rfl,h2,h3,h4⟩:=h
 exact len_sl sl105
theorem Strs.one{σ:St}{v:AV}{ws:List (List UInt8)}(h:Strs σ v ws):AV.oneCell v=true:=by
 obtain ⟨b,o,cs,ow,rfl,h2,h3,h4⟩:=h
 rfl
theorem Strs.cell{σ:St}{v:AV}{ws:List (List UInt8)}(h:Strs σ v ws):v.cells=[v]:=by
 obtain ⟨b,o,cs,ow,rfl,h2,h3,h4⟩:=h
 rfl
theorem Strs.get{σ:St}{v:AV}{ws:List (List UInt8)}(h:Strs σ v ws)(i:Nat)(w:List UInt8)(hi:ws[i]? =some w):∃p,indexAddr tab 105 v (intV .i64 (i:Int))= .ok p∧loadV tab σ 9 p= .ok (str w)∧∀σ',Grow σ σ'→loadV tab σ' 9 p= .ok (str w):=by
 obtain ⟨b,o,cs,ow,rfl,h2,h3,h4⟩:=h
 have hlt:=(List.getElem?_eq_some_iff.1 hi).1
 have hv:cs[o+i*1]? =some (str w):=by
  have:((cs.drop o).take ws.length)[i]? =(ws.map str)[i]? :=by rw [h3]
  rw [List.getElem?_take_of_lt hlt,List.getElem?_drop,List.getElem?_map,hi] at this
  rw [Nat.mul_one];exact this
 exact ⟨_,ixAddr el105 hlt,ld l9 h2 hv,fun σ' hg=>ld l9 (h2.grow hg) hv⟩
theorem Strs.get0{σ:St}{v:AV}{w:List UInt8}{ws:List (List UInt8)}(h:Strs σ v (w::ws)):∃p,indexAddr tab 105 v (intV .i64 0)= .ok p∧loadV tab σ 9 p= .ok (str w):=by
 obtain ⟨p,h1,h2,_⟩:=h.get 0 w rfl
 exact ⟨p,h1,h2⟩
theorem Strs.tail{σ:St}{v:AV}{w:List UInt8}{ws:List (List UInt8)}(h:Strs σ v (w::ws)):∃v',sliceV tab 105 v (some (intV .i64 1)) none none= .ok v'∧Strs σ v' ws:=by
 obtain ⟨b,o,cs,ow,rfl,h2,h3,h4⟩:=h
 refine ⟨_,?_,⟨b,if ws.length=0 then o else o+1,cs,ow,rfl,h2,?_,h4⟩⟩
 ·have hb:bound (intV .i64 1) (ws.length+1)= .ok 1:=bound_ok 1 _ (by omega)
  simp [sliceV,u105,size9,boundO,bindR_eq,List.length_cons,hb]
 ·cases ws with
  | nil=>simp
  | cons x ws=>
   rw [if_neg (by simp)]
   have:=congrArg (List.drop 1) h3
   rw [List.drop_take,List.drop_drop] at this
   simpa using this
structure Rd(σ:St)(r:Nat)(ws:List (List UInt8))(err:Int):Prop where
 is:∃v,At σ r (.cells [v,intV .i64 err] 133 true 2)∧Strs σ v ws
 wf:WF σ
theorem Rd.mod{σ σ':St}{r:Nat}{ws:List (List UInt8)}{err:Int}{P:List Nat}(h:Rd σ r ws err)(hm:Mod P σ σ')(hr:r∉P)(hp:∀b∈P,∀cs ow,¬At σ b (.cells cs 9 ow 1)):Rd σ' r ws err:=by
 obtain ⟨⟨v,h1,h2⟩,h3⟩:=h
 exact ⟨⟨v,h1.mod hm hr,h2.mod hm hp⟩,hm.wf h3⟩
theorem Rd.grow{σ σ':St}{r:Nat}{ws:List (List UInt8)}{err:Int}(h:Rd σ r ws err)(hm:Grow σ σ'):Rd σ' r ws err:=h.mod (hm.mod []) (by simp) (by simp)
theorem Rd.set{σ:St}{r:Nat}{ws ws':List (List UInt8)}{err:Int}{v':AV}{err':Int}(h:Rd σ r ws err)(hv:Strs σ v' ws'):Rd (σ.set r (.cells [v',intV .i64 err'] 133 true 2)) r ws' err':=by
 obtain ⟨⟨v,h1,h2⟩,h3⟩:=h
 refine ⟨⟨v',h1.set_same h3 _,hv.mod (Mod.set (P:=[r]) (by simp) h1.1 _) ?_⟩,h3.set _ _⟩
 intro b hb cs ow hA
 simp only [List.mem_singleton] at hb
 subst hb
 have:=h1.2.symm.trans hA.2
 cases this
theorem W74(r:Nat)(ws:List (List UInt8))(err e:Int)(herr:isE err)(he:isE e)(σ:St)(h:Rd σ r ws err):∃σ',W 74 [.ptr r 0,intV .i64 e] σ= .ok (.ret (.tuple []),σ')∧Mod [r] σ σ'∧Rd σ' r ws (cmb err e):=by
 obtain ⟨v,h1,h2⟩:=h.is
 have en:=ec74 (kRet tab []) (.ptr r 0) (intV .i64 e) σ
 have hl:loadV tab σ 24 (.ptr r 1)= .ok (intV .i64 err):=ld l24 h1 rfl
 have hst:storeV tab σ 24 (.ptr r 1) (intV .i64 e)= .ok (σ.set r (.cells [v,intV .i64 e] 133 true 2)):=by
  have:=stv (o:=1) (x:=intV .i64 e) sz24 h1 rfl (by omega) (by simp) rfl
  rw [this];rfl
 simp only [sN,pickV_boolV,nilC,fa133_1] at en
 by_cases h0:e=0
 ·subst h0
  have d:((0:Int) !=0)=false:=rfl
  simp only [sN,d] at en
  refine ⟨σ,w74 (by simp) en,Mod.refl _ _,?_⟩
  rw [cmb_0 herr];exact h
 ·have d:(e !=0)=true:=by simpa using h0
  simp only [sN,d,nilC,fa133_1,hl] at en
  by_cases h3:err=3
  ·subst h3
   have d3:((3:Int) !=3)=false:=rfl
   simp only [sN,d3] at en
   refine ⟨σ,w74 (by simp) en,Mod.refl _ _,?_⟩
   rw [cmb_3l];exact h
  ·have d3:(err !=3)=true:=by simpa using h3
   simp only [sN,d3,hst] at en
   refine ⟨_,w74 (by simp) en,Mod.set (by simp) h1.1 _,?_⟩
   have:cmb err e=e:=by
    rcases herr with h | h | h<;>rcases he with h' | h' | h'<;>subst h<;>subst h'<;>first | rfl | exact (h0 rfl).elim | exact (h3 rfl).elim
   rw [this]
   exact h.set h2
def wordF(ws:List (List UInt8)):List UInt8:=ws.headD []
def wordE(ws:List (List UInt8)):Int:=match ws with
 | []=>3
 | _::_=>0
theorem W73(r:Nat)(ws:List (List UInt8))(err:Int)(herr:isE err)(σ:St)(h:Rd σ r ws err):∃σ',W 73 [.ptr r 0] σ= .ok (.ret (str (wordF ws)),σ')∧Mod [r] σ σ'∧Rd σ' r ws.tail (cmb err (wordE ws)):=by
 obtain ⟨v,h1,h2⟩:=h.is
 have en:=ec73 (kRet tab [.tmp 2]) (.ptr r 0) σ
 have hl:loadV tab σ 105 (.ptr r 0)= .ok v:=ld l105 h1 rfl
 simp only [sN,nilC,fa133_0,hl,h2.len] at en
 cases ws with
 | nil=>
  obtain ⟨σ',k1,k2,k3⟩:=W74 r [] err 3 herr (.inr (.inr rfl)) σ h
  have d:((([]:List (List UInt8)).length:Int)==0)=true:=rfl
  simp (decide:=true) only [sN,d,k1,r73,sR] at en
  exact ⟨σ',w73 (by simp) en,k2,k3⟩
 | cons w ws=>
  have d:(((w::ws).length:Int)==0)=false:=by rw [beq_eq_false_iff_ne];simp;omega
  obtain ⟨p,p1,p2⟩:=h2.get0
  obtain ⟨v',q1,q2⟩:=h2.tail
  have hst:storeV tab σ 105 (.ptr r 0) v'= .ok (σ.set r (.cells [v',intV .i64 err] 133 true 2)):=by
   have:=stv (o:=0) (x:=v') sz105 h1 (by rw [q2.cell];rfl) (by omega) (by simp) (by rw [q2.cell];simp [q2.one])
   rw [this,q2.cell];rfl
  simp (decide:=true) only [sN,d,p1,p2,q1,hst,r73,sR] at en
  refine ⟨_,w73 (by simp) en,Mod.set (by simp) h1.1 _,?_⟩
  have:cmb err (wordE (w::ws))=err:=cmb_0 herr
  rw [this]
  exact h.set q2
theorem W166(r:Nat)(ws:List (List UInt8))(err:Int)(herr:isE err)(s:List UInt8)(hs:s.length<1099511627776)(σ:St)(h:Rd σ r ws err):∃σ',W 166 [.ptr r 0,str s] σ= .ok (.ret (intV .i64 (numC s).1),σ')∧Mod [r] σ σ'∧Rd σ' r ws (cmb err (numC s).2):=by
 obtain ⟨σ',k1,k2,k3⟩:=W74 r ws err (numC s).2 herr (numC_isE s) σ h
 refine ⟨σ',w166 (by simp) ?_,k2,k3⟩
 have hn:=W91 s hs 9223372036854775807 (by omega) σ
 rw [natLim_numC] at hn
 have hn':W 91 [str s,intV .u64 9223372036854775807] σ= .ok (.ret (.tuple [intV .u64 (numC s).1,intV .i64 (numC s).2]),σ):=hn
 rw [ec166]
 simp (decide:=true) only [sN,hn',k1,convR_int u72 u3,numC_i64,r166,sR]
theorem W164(r:Nat)(ws:List (List UInt8))(err:Int)(herr:isE err)(hs:(wordF ws).length<1099511627776)(σ:St)(h:Rd σ r ws err):∃σ',W 164 [.ptr r 0] σ= .ok (.ret (intV .i64 (intC (wordF ws)).1),σ')∧Mod [r] σ σ'∧Rd σ' r ws.tail (cmb (cmb err (wordE ws)) (intC (wordF ws)).2):=by
 obtain ⟨σ1,k1,k2,k3⟩:=W73 r ws err herr σ h
 obtain ⟨σ2,j1,j2,j3⟩:=W74 r ws.tail _ (intC (wordF ws)).2 (cmb_isE _ _) (intC_isE _) σ1 k3
 have hn:=W168 (wordF ws) hs σ1
 rw [intS_intC] at hn
 refine ⟨σ2,w164 (by simp) ?_,k2.trans j2,j3⟩
 rw [ec164]
 simp (decide:=true) only [sN,k1,hn,j1,r164,sR]
end Go.Proofs.YtahgmmbmmcaejaaGreatDoor
namespace Go.Proofs.YtahgmmbmmcaejaaGreatDoor
open Go Go.Dt
set_option maxRecDepth 100000
def ixLn(l:List UInt8)(c:UInt8):Nat→Option Nat
 | 0=>none
 | j+1=>if l[j]? =some c then some j else ixLn l c j
def ixL(l:List UInt8)(c:UInt8):Option Nat:=ixLn l c l.length
theorem ixLn_some{l:List UInt8}{c:UInt8}{j:Nat}:∀ {n:Nat},ixLn l c n=some j→j<n∧l[j]? =some c∧∀k,j<k→k<n→l[k]? ≠some c
 | 0,h=>by cases h
 | n+1,h=>by
  unfold ixLn at h
  split at h
  ·rename_i hc
   have:=Option.some.inj h
   subst this
   exact ⟨Nat.lt_succ_self _,hc,fun k h1 h2=>by omega⟩
  ·rename_i hc
   obtain ⟨h1,h2,h3⟩:=ixLn_some h
   refine ⟨by omega,h2,fun k k1 k2=> ?_⟩
   by_cases hk:k=n
   ·subst hk;exact hc
   ·exact h3 k k1 (by omega)
theorem ixLn_none{l:List UInt8}{c:UInt8}:∀ {n:Nat},ixLn l c n=none→∀k,k<n→l[k]? ≠some c
 | 0,_,k,hk=>by omega
 | n+1,h,k,hk=>by
  unfold ixLn at h
  split at h
  ·cases h
  ·rename_i hc
   by_cases h':k=n
   ·subst h';exact hc
   ·exact ixLn_none h k (by omega)
def ixI:Option Nat→Int
 | some i=>i
 | none=> -1
theorem u8eq(c d:UInt8):(((c.toNat:Nat):Int)==((d.toNat:Nat):Int))=(c==d):=by
 rw [Bool.eq_iff_iff,beq_iff_eq,beq_iff_eq]
 constructor
 ·intro h
  have:c.toNat=d.toNat:=by omega
  exact UInt8.toNat_inj.1 this
 ·intro h;subst h;rfl
theorem loop170(l:List UInt8)(c:UInt8)(σ:St):∀(n:Nat),n≤l.length→n<4611686018427387904→∀(T:Rg),T 0=str l→T 1=intV .u8 (c.toNat:Int)→T 5=intV .i64 ((n:Int) - 1)→
  (∃j T',ixLn l c n=some j∧loopLim (dd tab W 19 c170a) T σ= .ok (.ret T' σ)∧T' 4=intV .i64 (j:Int))∨(ixLn l c n=none∧∃T',loopLim (dd tab W 19 c170a) T σ= .ok (.exit 0 T' σ)):=by
 intro n
 induction n with
 | zero=>
  intro _ _ T h0 h1 h5
  have e:=ec170a kOc T σ
  have d1:decide (((0:Nat):Int) - 1≥0)=false:=rfl
  simp only [sN,h5,d1] at e
  exact .inr ⟨rfl,_,loop_exit (dd_of tab W 19 e)⟩
 | succ n ih=>
  intro hn hb T h0 h1 h5
  have e:=ec170a kOc T σ
  have e5:((n+1:Nat):Int) - 1=(n:Int):=by omega
  rw [e5] at h5
  have d1:decide ((n:Int)≥0)=true:=by simp
  obtain ⟨x,hx⟩:∃x,l[n]? =some x:=⟨l[n],List.getElem?_eq_getElem (by omega)⟩
  have w1:IntKind.i64.wrap ((n:Int) - 1)=(n:Int) - 1:=by simp [IntKind.wrap,IntKind.bits,IntKind.signed];omega
  simp only [sN,h5,h0,h1,d1,indexS l n x hx,u8eq] at e
  by_cases hc:x=c
  ·subst hc
   have d2:(x==x)=true:=by simp
   simp only [sN,d2] at e
   refine .inl ⟨n,_,?_,loop_ret (dd_of tab W 19 e),?_⟩
   ·unfold ixLn;rw [if_pos hx]
   ·simp (decide:=true) only [sR]
  ·have d2:(x==c)=false:=by simpa using hc
   simp only [sN,d2,w1] at e
   have key:∃T1,denK tab W 19 c170a kOc T σ= .ok (.nxt T1 σ)∧T1 0=str l∧T1 1=intV .u8 (c.toNat:Int)∧T1 5=intV .i64 ((n:Int) - 1):=by
    refine ⟨_,e,?_,?_,?_⟩<;>simp (decide:=true) only [sR,h0,h1]
   obtain ⟨T1,e1,k0,k1,k5⟩:=key
   have hne:ixLn l c (n+1)=ixLn l c n:=by
    conv=>lhs;unfold ixLn
    rw [if_neg]
    rw [hx];intro h;exact hc (Option.some.inj h)
   rw [hne]
   rcases ih (by omega) (by omega) T1 k0 k1 k5 with ⟨j,T',q1,q2,q3⟩ | ⟨q1,T',q2⟩
   ·exact .inl ⟨j,T',q1,loop_next (dd_of tab W 19 e1) q2,q3⟩
   ·exact .inr ⟨q1,T',loop_next (dd_of tab W 19 e1) q2⟩
theorem W170(l:List UInt8)(hl:l.length<1099511627776)(c:UInt8)(σ:St):W 170 [str l,intV .u8 (c.toNat:Int)] σ= .ok (.ret (intV .i64 (ixI (ixL l c))),σ):=by
 refine w170 (by simp) ?_
 rw [ec170]
 have w1:IntKind.i64.wrap ((l.length:Int) - 1)=(l.length:Int) - 1:=by simp [IntKind.wrap,IntKind.bits,IntKind.signed];omega
 simp only [sN,w1]
 have a0:argE [str l,intV .u8 (c.toNat:Int)] 0=str l:=rfl
 have a1:argE [str l,intV .u8 (c.toNat:Int)] 1=intV .u8 (c.toNat:Int):=rfl
 generalize hT:puts 19 _ _=T
 unfold ixL
 rcases loop170 l c σ l.length (Nat.le_refl _) (by omega) T (by rw [← hT];simp (decide:=true) only [sR,a0]) (by rw [← hT];simp (decide:=true) only [sR,a1]) (by rw [← hT];simp (decide:=true) only [sR]) with ⟨j,T',q1,q2,q3⟩ | ⟨q1,T',q2⟩
 ·rw [q2,q1]
  simp (decide:=true) only [sN,r170,q3,ixI]
 ·rw [q2,q1]
  simp (decide:=true) only [sN,if_true,ec170b,r170,sR,ixI]
theorem W169(l:List UInt8)(hl:l.length<1099511627776)(c:UInt8)(σ:St):W 169 [str l,intV .u8 (c.toNat:Int)] σ= .ok (.ret (intV .i64 (ixI (ixL l c))),σ):=by
 refine w169 (by simp) ?_
 rw [ec169]
 simp (decide:=true) only [sN,W170 l hl c,r169,sR]
def labE(s:List UInt8):Int:=bif (labP s).isNone then 3 else 0
def labV(s:List UInt8):Int:=((labP s).getD 0:Nat)
theorem labE_isE(s:List UInt8):isE (labE s):=by
 unfold labE isE
 cases (labP s).isNone<;>simp
theorem lab72(s:List UInt8)(hs:s.length<1099511627776)(σ:St)(hw:WF σ):∃e a σ',W 72 [str s] σ= .ok (.ret (.tuple [intV .u64 (labV s),.agg [intV .i64 e,intV .i64 a]]),σ')∧Grow σ σ'∧(e !=0)=(labP s).isNone:=by
 have h:=W72 s hs σ hw
 unfold labOut1 at h
 unfold labV
 cases hp:labP s with
 | none=>
  rw [hp] at h
  obtain ⟨e,a,σ',h1,h2,h3⟩:=h
  exact ⟨e,a,σ',h2,h3,by simpa using h1⟩
 | some l=>
  rw [hp] at h
  obtain ⟨σ',h2,h3⟩:=h
  exact ⟨0,0,σ',h2,h3,rfl⟩
def evE(w:List UInt8):Int:=match ixL w 58 with
 | none=>3
 | some i=>cmb (numC (w.drop (i+1))).2 (match ixL (w.take i) 35 with
  | none=>3
  | some j=>cmb (labE ((w.take i).take j)) (numC ((w.take i).drop (j+1))).2)
def evV(w:List UInt8):(Int×Int)×Int:=match ixL w 58 with
 | none=>((0,0),0)
 | some i=>match ixL (w.take i) 35 with
  | none=>((0,0),0)
  | some j=>((labV ((w.take i).take j),(numC ((w.take i).drop (j+1))).1),(numC (w.drop (i+1))).1)
theorem evE_isE(w:List UInt8):isE (evE w):=by
 unfold evE
 split
 ·exact .inr (.inr rfl)
 ·exact cmb_isE _ _
theorem build74(x y:Int):Dt.build tab 74 [(0,intV .u64 x),(1,intV .u64 y)]= .ok (.agg [intV .u64 x,intV .u64 y]):=by kernel_rfl
theorem build74_0:Dt.build tab 74 []= .ok (.agg [intV .u64 0,intV .u64 0]):=by kernel_rfl
theorem st74{σ:St}{b:Nat}{x y c d:Int}(hA:At σ b (.cells [intV .u64 c,intV .u64 d] 74 true 2)):
  storeV tab σ 74 (.ptr b 0) (.agg [intV .u64 x,intV .u64 y])= .ok (σ.set b (.cells [intV .u64 x,intV .u64 y] 74 true 2)):=
 stv (o:=0) (x:= .agg [intV .u64 x,intV .u64 y]) sz74 hA rfl (by omega) (by simp) rfl
theorem st26{σ:St}{b:Nat}{x y c d:Int}(hA:At σ b (.cells [intV .i64 c,intV .i64 d] 26 true 2)):
  storeV tab σ 26 (.ptr b 0) (.agg [intV .i64 x,intV .i64 y])= .ok (σ.set b (.cells [intV .i64 x,intV .i64 y] 26 true 2)):=store26 hA.1 hA.2
theorem ixL_lt{l:List UInt8}{c:UInt8}{j:Nat}(h:ixL l c=some j):j<l.length:=(ixLn_some h).1
theorem Rd.set_ne{σ:St}{r:Nat}{ws:List (List UInt8)}{err:Int}(h:Rd σ r ws err){b:Nat}{cs:List AV}{e sz:Nat}{ow:Bool}(hA:At σ b (.cells cs e ow sz))(he:e≠9)(hne:r≠b)(o:AO):Rd (σ.set b o) r ws err:=by
 refine h.mod (Mod.set (P:=[b]) (by simp) hA.1 o) (by simpa using hne) ?_
 intro x hx cs' ow' hA'
 simp only [List.mem_singleton] at hx
 subst hx
 have:=hA.2.symm.trans hA'.2
 injection this with _ h2
 exact he h2
theorem W167(r:Nat)(ws:List (List UInt8))(err:Int)(herr:isE err)(w:List UInt8)(hs:w.length<1099511627776)(σ:St)(h:Rd σ r ws err)(hr:r<σ.n):
  ∃σ',W 167 [.ptr r 0,str w] σ= .ok (.ret (.tuple [.agg [intV .u64 (evV w).1.1,intV .u64 (evV w).1.2],intV .i64 (evV w).2]),σ')∧Mod [r] σ σ'∧Rd σ' r ws (cmb err (evE w)):=by
 have en:=ec167 (kRet tab [.cell 4 74,.tmp 5]) (.ptr r 0) (str w) σ
 obtain ⟨σ1,hσ1⟩:∃σ1,σ1=σ.push (.cells [intV .u64 0,intV .u64 0] 74 true 2):=⟨_,rfl⟩
 have hA1:At σ1 σ.n (.cells [intV .u64 0,intV .u64 0] 74 true 2):=by rw [hσ1];exact At.new _ _
 have hg1:Grow σ σ1:=by rw [hσ1];exact Grow.push _ _
 have h1:=h.grow hg1
 have hrn:σ.n≠r:=by omega
 have c58:(intV .u8 58)=intV .u8 (((58:UInt8).toNat:Nat):Int):=rfl
 have c35:(intV .u8 35)=intV .u8 (((35:UInt8).toNat:Nat):Int):=rfl
 have fin:∀(σ2:St) (x y a:Int) (e':Int) (T:Rg),Mod [r] σ1 σ2→Rd σ2 r ws e'→
   (denK tab W 54 c167 (kRet tab [.cell 4 74,.tmp 5]) (argE [.ptr r 0,str w]) σ=bindR (storeV tab σ2 74 (.ptr σ.n 0) (.agg [intV .u64 x,intV .u64 y])) fun s=>(kRet tab [.cell 4 74,.tmp 5]).ret T s)→T 4= .ptr σ.n 0→T 5=intV .i64 a→
   ∃σ',W 167 [.ptr r 0,str w] σ= .ok (.ret (.tuple [.agg [intV .u64 x,intV .u64 y],intV .i64 a]),σ')∧Mod [r] σ σ'∧Rd σ' r ws e':=by
  intro σ2 x y a e' T hm hR t1 t2 t3
  have hA2:=hA1.mod hm (by simpa using hrn)
  rw [st74 hA2,bindR_val] at t1
  have hA3:=hA2.set_same hR.wf (.cells [intV .u64 x,intV .u64 y] 74 true 2)
  have hl:=lda (o:=0) (l:=[intV .u64 x,intV .u64 y]) a74 hA3 rfl rfl
  have hout:(kRet tab [.cell 4 74,.tmp 5]).ret T (σ2.set σ.n (.cells [intV .u64 x,intV .u64 y] 74 true 2))= .ok (.ret (.tuple [.agg [intV .u64 x,intV .u64 y],intV .i64 a]),σ2.set σ.n (.cells [intV .u64 x,intV .u64 y] 74 true 2)):=by
   simp only [kRet,resK,t2,t3,hl,bindR_val];rfl
  refine ⟨_,w167 (by simp) (t1.trans hout),?_,hR.set_ne hA2 (by omega) (Ne.symm hrn) _⟩
  exact ((hg1.mod [r]).trans hm).trans' (Mod.set (P:=[σ.n]) (by simp) hA2.1 _) (by intro x hx;simp at hx;right;omega)
 simp only [sN,alloc74,← hσ1] at en
 rw [c58] at en
 simp only [sN,W169 w hs 58] at en
 unfold evE evV
 cases hi:ixL w 58 with
 | none=>
  simp only
  obtain ⟨σ2,k1,k2,k3⟩:=W74 r ws err 3 herr (.inr (.inr rfl)) σ1 h1
  have d:decide (ixI none<0)=true:=rfl
  rw [hi] at en
  simp only [sN,d,k1,build74_0] at en
  refine fin σ2 0 0 0 _ _ k2 k3 en ?_ ?_<;>simp (decide:=true) only [sR]
 | some i=>
  simp only
  have hil:=ixL_lt hi
  have d:decide ((i:Int)<0)=false:=decide_eq_false (by omega)
  have ei:ixI (some i)=(i:Int):=rfl
  rw [hi] at en
  simp only [sN,d,ei] at en
  rw [ec167a] at en
  have w1:IntKind.i64.wrap ((i:Int)+1)=((i+1:Nat):Int):=i64_add1 i (by omega)
  have a0:argE [.ptr r 0,str w] 0= .ptr r 0:=rfl
  have a1:argE [.ptr r 0,str w] 1=str w:=rfl
  obtain ⟨σ2,k1,k2,k3⟩:=W166 r ws err herr (w.drop (i+1)) (by simp;omega) σ1 h1
  simp (decide:=true) only [sN,sR,a0,a1,w1,sliceS_lo w (i+1) (by omega),k1] at en
  rw [ec167b] at en
  rw [c35] at en
  simp (decide:=true) only [sN,sR,a0,a1,sliceS_hi w i (by omega),W169 (w.take i) (by simp;omega) 35] at en
  cases hj:ixL (w.take i) 35 with
  | none=>
   simp only
   obtain ⟨σ3,j1,j2,j3⟩:=W74 r ws _ 3 (cmb_isE err _) (.inr (.inr rfl)) σ2 k3
   have d:decide (ixI none<0)=true:=rfl
   rw [hj] at en
   simp only [sN,d,j1,build74_0] at en
   rw [cmb_assoc herr (numC_isE _) (.inr (.inr rfl))] at j3
   refine fin σ3 0 0 0 _ _ (k2.trans j2) j3 en ?_ ?_<;>simp (decide:=true) only [sR]
  | some j=>
   simp only
   have hjl:=ixL_lt hj
   have d:decide ((j:Int)<0)=false:=decide_eq_false (by omega)
   have ej:ixI (some j)=(j:Int):=rfl
   obtain ⟨e,a,σ3,j1,j2,j3⟩:=lab72 ((w.take i).take j) (by simp;omega) σ2 k3.wf
   have hA3:=At.new σ3 (.cells [intV .i64 0,intV .i64 0] 26 true 2)
   obtain ⟨σ4,hσ4⟩:∃σ4,σ4=(σ3.push (.cells [intV .i64 0,intV .i64 0] 26 true 2)).set σ3.n (.cells [intV .i64 e,intV .i64 a] 26 true 2):=⟨_,rfl⟩
   have hst26:storeV tab (σ3.push (.cells [intV .i64 0,intV .i64 0] 26 true 2)) 26 (.ptr σ3.n 0) (.agg [intV .i64 e,intV .i64 a])= .ok σ4:=by rw [hσ4];exact st26 hA3
   have hA4:At σ4 σ3.n (.cells [intV .i64 e,intV .i64 a] 26 true 2):=by rw [hσ4];exact hA3.set_same (WF.push (j2.wf k3.wf) _) _
   have hg4:Grow σ2 σ4:=by rw [hσ4];exact (j2.trans (Grow.push _ _)).set j2.n hA3.1 _
   have h4:=k3.grow hg4
   have hl24:loadV tab σ4 24 (.ptr σ3.n 0)= .ok (intV .i64 e):=ld l24 hA4 rfl
   rw [hj] at en
   simp only [sN,d,ej,sliceS_hi (w.take i) j (by omega),j1,alloc26,hst26,fa26_0,hl24,j3] at en
   have w2:IntKind.i64.wrap ((j:Int)+1)=((j+1:Nat):Int):=i64_add1 j (by simp at hjl;omega)
   have hno:=numC_u64 ((w.take i).drop (j+1))
   have last:∀(σ5:St) (e5:Int) (T:Rg),isE e5→Mod [r] σ1 σ5→Rd σ5 r ws e5→denK tab W 54 c167 (kRet tab [.cell 4 74,.tmp 5]) (argE [.ptr r 0,str w]) σ=denK tab W 54 c167c (kRet tab [.cell 4 74,.tmp 5]) T σ5→
     T 0= .ptr r 0→T 1=str (w.take i)→T 4= .ptr σ.n 0→T 5=intV .i64 (numC (w.drop (i+1))).1→T 6=intV .i64 (j:Int)→T 7=intV .u64 (labV ((w.take i).take j))→
     ∃σ',W 167 [.ptr r 0,str w] σ= .ok (.ret (.tuple [.agg [intV .u64 (labV ((w.take i).take j)),intV .u64 (numC ((w.take i).drop (j+1))).1],intV .i64 (numC (w.drop (i+1))).1]),σ')∧Mod [r] σ σ'∧Rd σ' r ws (cmb e5 (numC ((w.take i).drop (j+1))).2):=by
    intro σ5 e5 T he5 hm5 h5 hden t0 t1 t4 t5 t6 t7
    obtain ⟨σ6,q1,q2,q3⟩:=W166 r ws e5 he5 ((w.take i).drop (j+1)) (by simp;omega) σ5 h5
    rw [ec167c] at hden
    simp only [sN,t0,t1,t4,t5,t6,t7,w2,sliceS_lo (w.take i) (j+1) (by omega),q1,convR_int u3 u72,hno,build74] at hden
    refine fin σ6 _ _ _ _ _ (hm5.trans q2) q3 hden ?_ ?_<;>simp (decide:=true) only [sR,t4]
   have hm4:Mod [r] σ1 σ4:=k2.trans (hg4.mod [r])
   unfold labE
   cases hn:(labP ((w.take i).take j)).isNone with
   | true=>
    obtain ⟨σ5,q1,q2,q3⟩:=W74 r ws _ 3 (cmb_isE err _) (.inr (.inr rfl)) σ4 h4
    rw [hn] at en
    simp only [sN,q1] at en
    obtain ⟨σ',z1,z2,z3⟩:=last σ5 _ _ (cmb_isE _ _) (hm4.trans q2) q3 en (by simp (decide:=true) only [sR,a0]) (by simp (decide:=true) only [sR]) (by simp (decide:=true) only [sR]) (by simp (decide:=true) only [sR]) (by simp (decide:=true) only [sR]) (by simp (decide:=true) only [sR])
    refine ⟨σ',z1,z2,?_⟩
    rw [cmb_assoc (cmb_isE _ _) (.inr (.inr rfl)) (numC_isE _),cmb_assoc herr (numC_isE _) (cmb_isE _ _)] at z3
    exact z3
   | false=>
    rw [hn] at en
    simp only [sN] at en
    obtain ⟨σ',z1,z2,z3⟩:=last σ4 _ _ (cmb_isE _ _) hm4 h4 en (by simp (decide:=true) only [sR,a0]) (by simp (decide:=true) only [sR]) (by simp (decide:=true) only [sR]) (by simp (decide:=true) only [sR]) (by simp (decide:=true) only [sR]) (by simp (decide:=true) only [sR])
    refine ⟨σ',z1,z2,?_⟩
    rw [cmb_assoc herr (numC_isE _) (numC_isE _)] at z3
    simp only [condF]
    rw [cmb_0l (numC_isE _)]
    exact z3
end Go.Proofs.YtahgmmbmmcaejaaGreatDoor
namespace Go.Proofs.YtahgmmbmmcaejaaGreatDoor
open Go Go.Dt
set_option maxRecDepth 100000
theorem ble_t{a b:Nat}(h:a≤b):Nat.ble a b=true:=Nat.ble_eq_true_of_le h
theorem blt_t{a b:Nat}(h:a<b):Nat.blt a b=true:=Nat.ble_eq_true_of_le h
theorem At.ne{σ:St}{b c:Nat}{cs cs':List AV}{e e' sz sz':Nat}{ow ow':Bool}(h:At σ b (.cells cs e ow sz))(h':At σ c (.cells cs' e' ow' sz'))(he:e≠e'):b≠c:=by
 intro hbc
 subst hbc
 have:=h.2.symm.trans h'.2
 injection this with _ h2
 exact he h2
theorem Vec.bnd{σ:St}{e sz n:Nat}{v:AV}{cs:List AV}{fp:List Nat}(h:Vec σ e sz n v cs fp){m:Nat}(hm:σ.n≤m):bndA m v=true:=by
 rcases h.is with ⟨rfl,_⟩ | ⟨b,rfl,hA,_⟩
 ·rfl
 ·exact blt_t (Nat.lt_of_lt_of_le hA.1 hm)
theorem beqNat(n:Nat):(n==n)=true:=by simp
theorem Vec.beq{σ:St}{e sz n:Nat}{v:AV}{cs:List AV}{fp:List Nat}(h:Vec σ e sz n v cs fp):beqA v v=true:=by
 rcases h.is with ⟨rfl,_⟩ | ⟨b,rfl,hA,_⟩
 ·rfl
 ·simp [beqA]
theorem Vec.cell{σ:St}{e sz n:Nat}{v:AV}{cs:List AV}{fp:List Nat}(h:Vec σ e sz n v cs fp):v.cells=[v]:=by
 rcases h.is with ⟨rfl,_⟩ | ⟨b,rfl,hA,_⟩<;>rfl
theorem Vec.off{σ:St}{e sz n:Nat}{v:AV}{cs:List AV}{fp:List Nat}(h:Vec σ e sz n v cs fp){b:Nat}{cs':List AV}{e' sz':Nat}{ow:Bool}(hb:At σ b (.cells cs' e' ow sz'))(he:e≠e'):∀y∈fp,y≠b:=by
 intro y hy
 rcases h.is with ⟨_,_,rfl⟩ | ⟨c,rfl,hA,rfl⟩
 ·cases hy
 ·simp only [List.mem_singleton] at hy
  subst hy
  exact hA.ne hb he
theorem Vec.offV{σ:St}{e sz n:Nat}{v:AV}{cs:List AV}{fp:List Nat}(h:Vec σ e sz n v cs fp){e' sz' n':Nat}{v':AV}{cs':List AV}{fp':List Nat}(h':Vec σ e' sz' n' v' cs' fp')(he:e≠e'):∀y∈fp,y∉fp':=by
 intro y hy hy'
 rcases h'.is with ⟨_,_,rfl⟩ | ⟨c,rfl,hA,rfl⟩
 ·cases hy'
 ·exact h.off hA he y hy (by simpa using hy')
theorem vapp{sT e sz n:Nat}{σ:St}{v:AV}{cs new:List AV}{fp:List Nat}(hok:appB sT sT e sz=true)(hw:WF σ)(hV:Vec σ e sz n v cs fp)(hn:n+1<1073741824)(hl:new.length=sz)(hone:new.all AV.oneCell=true):
  ∃σ' v',appendV tab (σ.push (.cells new e true sz)) sT sT v (.slice σ.n 0 1 (some 1) sz)= .ok (v',σ')∧Vec σ' e sz (n+1) v' (cs++new) [σ.n+1]∧Mod fp σ σ'∧σ'.n=σ.n+2:=by
 obtain ⟨σ',h1,h2,h3,h4⟩:=app1 (hok:=hok) hw hV hn hl hone
 exact ⟨σ',_,h1,Vec.app hV.len hl h2,h3,h4⟩
def zero41:List AV:=[intV .i64 0,intV .i64 0,nilS,nilS,nilS,intV .i64 0,intV .i64 0]
structure ItW(σ0 σ:St)(r b b4:Nat)(x:ItemD)(iv av vv:AV)(ws:List (List UInt8))(err:Int):Prop where
 m:Mod [r] σ0 σ
 rd:Rd σ r ws err
 bge:σ0.n≤b
 b4ge:σ0.n≤b4
 ne:b≠b4
 it:∃f1 f2 f3,InItem σ b x iv av vv f1 f2 f3∧∀y∈f1++f2++f3,σ0.n≤y
 out:At σ b4 (.cells zero41 41 true 7)
theorem Rd.off{σ:St}{r:Nat}{ws:List (List UInt8)}{err:Int}(h:Rd σ r ws err){b:Nat}{cs:List AV}{e sz:Nat}{ow:Bool}(hb:At σ b (.cells cs e ow sz))(he:e≠133):b≠r:=by
 obtain ⟨⟨v,h1,_⟩,_⟩:=h
 exact hb.ne h1 he
theorem Rd.offV{σ:St}{r:Nat}{ws:List (List UInt8)}{err:Int}(h:Rd σ r ws err){e sz n:Nat}{v:AV}{cs:List AV}{fp:List Nat}(hV:Vec σ e sz n v cs fp)(he:e≠133):∀y∈fp,y≠r:=by
 obtain ⟨⟨v,h1,_⟩,_⟩:=h
 exact hV.off h1 he
theorem ItW.step{σ0 σ σ':St}{r b b4:Nat}{x:ItemD}{iv av vv:AV}{ws ws':List (List UInt8)}{err err':Int}(h:ItW σ0 σ r b b4 x iv av vv ws err)(hm:Mod [r] σ σ')(hR:Rd σ' r ws' err'):ItW σ0 σ' r b b4 x iv av vv ws' err':=by
 obtain ⟨f1,f2,f3,hI,hf⟩:=h.it
 refine ⟨h.m.trans hm,hR,h.bge,h.b4ge,h.ne,⟨f1,f2,f3,⟨hI.at'.mod hm ?_,hI.ids.mod hm ?_,hI.atoms.mod hm ?_,hI.values.mod hm ?_⟩,hf⟩,h.out.mod hm ?_⟩
 ·simpa using h.rd.off hI.at' (by omega)
 ·intro y hy;simpa using h.rd.offV hI.ids (by omega) y hy
 ·intro y hy;simpa using h.rd.offV hI.atoms (by omega) y hy
 ·intro y hy;simpa using h.rd.offV hI.values (by omega) y hy
 ·simpa using h.rd.off h.out (by omega)
theorem ItW.grow{σ0 σ σ':St}{r b b4:Nat}{x:ItemD}{iv av vv:AV}{ws:List (List UInt8)}{err:Int}(h:ItW σ0 σ r b b4 x iv av vv ws err)(hg:Grow σ σ'):ItW σ0 σ' r b b4 x iv av vv ws err:=h.step (hg.mod _) (h.rd.grow hg)
theorem app39:appB 39 39 2 1=true:=by kernel_rfl
theorem app37:appB 37 37 74 2=true:=by kernel_rfl
theorem app38:appB 38 38 3 1=true:=by kernel_rfl
theorem sz37:sizeB 37 1=true:=by kernel_rfl
theorem sz38:sizeB 38 1=true:=by kernel_rfl
theorem sz39:sizeB 39 1=true:=by kernel_rfl
theorem sz3:sizeB 3 1=true:=by kernel_rfl
theorem bs39(n:Int)(b:Nat):buildSliceA tab 39 1 [(0,intV .i64 n)] b= .ok (.slice b 0 1 (some 1) 1,.cells [intV .i64 n] 2 true 1):=by kernel_rfl
theorem bs38(n:Int)(b:Nat):buildSliceA tab 38 1 [(0,intV .i64 n)] b= .ok (.slice b 0 1 (some 1) 1,.cells [intV .i64 n] 3 true 1):=by kernel_rfl
theorem bs37(x y:Int)(b:Nat):buildSliceA tab 37 1 [(0,.agg [intV .u64 x,intV .u64 y])] b= .ok (.slice b 0 1 (some 1) 2,.cells [intV .u64 x,intV .u64 y] 74 true 2):=by kernel_rfl
theorem Rd.step{σ σ':St}{r:Nat}{ws:List (List UInt8)}{err:Int}{P:List Nat}(h:Rd σ r ws err)(hm:Mod P σ σ')(hp:∀b∈P,∃cs e ow sz,At σ b (.cells cs e ow sz)∧e≠9∧e≠133):Rd σ' r ws err:=by
 refine h.mod hm ?_ ?_
 ·intro hr
  obtain ⟨cs,e,ow,sz,h1,h2,h3⟩:=hp r hr
  exact h.off h1 h3 rfl
 ·intro b hb cs' ow' hA
  obtain ⟨cs,e,ow,sz,h1,h2,h3⟩:=hp b hb
  exact h1.ne hA h2 rfl
theorem Vec.kind{σ:St}{e sz n:Nat}{v:AV}{cs:List AV}{fp:List Nat}(h:Vec σ e sz n v cs fp)(h9:e≠9)(h133:e≠133):∀b∈fp,∃cs e ow sz,At σ b (.cells cs e ow sz)∧e≠9∧e≠133:=by
 intro b hb
 rcases h.is with ⟨_,_,rfl⟩ | ⟨c,rfl,hA,rfl⟩
 ·cases hb
 ·simp only [List.mem_singleton] at hb
  subst hb
  exact ⟨_,_,_,_,hA,h9,h133⟩
theorem ItW.val{σ0 σ:St}{r b b4:Nat}{x:ItemD}{iv av vv:AV}{ws:List (List UInt8)}{err:Int}(h:ItW σ0 σ r b b4 x iv av vv ws err)(hlen:x.values.length+1<1073741824)(n:Int):
  loadV tab σ 39 (.ptr b 4)= .ok vv∧beqA vv vv=true∧bndA (σ.n+1) vv=true∧b<σ.n∧∃σ1 v' σ2,appendV tab (σ.push (.cells [intV .i64 n] 2 true 1)) 39 39 vv (.slice σ.n 0 1 (some 1) 1)= .ok (v',σ1)∧σ1.n=σ.n+2∧bndA (σ.n+2) v'=true∧
   storeV tab σ1 39 (.ptr b 4) v'= .ok σ2∧σ2.n=σ.n+2∧ItW σ0 σ2 r b b4 {x with values:=x.values++[n]} iv av v' ws err:=by
 obtain ⟨f1,f2,f3,hI,hf⟩:=h.it
 obtain ⟨σ1,v',a1,a2,a3,a4⟩:=vapp (new:=[intV .i64 n]) app39 h.rd.wf hI.values hlen rfl rfl
 have o1:=hI.values.off hI.at' (by omega)
 have o4:=hI.values.off h.out (by omega)
 have hb1:=hI.at'.mod a3 (fun hb=>o1 b hb rfl)
 have hb4:=h.out.mod a3 (fun hb=>o4 b4 hb rfl)
 have hst:=stv (o:=4) (x:=v') sz39 hb1 (by rw [a2.cell];rfl) (by omega) (by simp) (by rw [a2.cell];simp [a2.one])
 have hn:σ1.n≤σ.n+2:=by omega
 have hrd1:=h.rd.step a3 (hI.values.kind (by omega) (by omega))
 refine ⟨ld l39 hI.at' rfl,hI.values.beq,hI.values.bnd (by omega),hI.at'.1,σ1,v',_,a1,a4,a2.bnd hn,hst,by rw [set_n];exact a4,?_⟩
 rw [a2.cell]
 have hb2:=hb1.set_same hrd1.wf (.cells [intV .i64 x.kind,intV .i64 x.query,iv,av,v',intV .i64 x.err,intV .i64 x.count] 41 true 7)
 have hsm:Mod [b] σ1 (σ1.set b (.cells [intV .i64 x.kind,intV .i64 x.query,iv,av,v',intV .i64 x.err,intV .i64 x.count] 41 true 7)):=Mod.set (by simp) hb1.1 _
 have a2':=a2.mod hsm (by intro y hy;simpa using a2.off hb1 (by omega) y hy)
 have i1:=(hI.ids.mod a3 (hI.ids.offV hI.values (by omega)))
 have i2:=(hI.atoms.mod a3 (hI.atoms.offV hI.values (by omega)))
 refine ⟨(h.m.trans' a3 ?_).trans' hsm ?_,hrd1.set_ne hb1 (by omega) (Ne.symm (h.rd.off hI.at' (by omega))) _,h.bge,h.b4ge,h.ne,⟨f1,f2,[σ.n+1],⟨hb2,i1.mod hsm (by intro y hy;simpa using i1.off hb1 (by omega) y hy),i2.mod hsm (by intro y hy;simpa using i2.off hb1 (by omega) y hy),?_⟩,?_⟩,hb4.set_ne hb1.1 (Ne.symm h.ne) _⟩
 ·intro y hy;exact .inr (hf y (by simp [hy]))
 ·intro y hy;simp only [List.mem_singleton] at hy;subst hy;exact .inr h.bge
 ·rw [flat_app,flat_one,List.length_append];exact a2'
 ·intro y hy
  simp only [List.mem_append,List.mem_singleton] at hy
  rcases hy with (hy | hy) | hy
  ·exact hf y (by simp [hy])
  ·exact hf y (by simp [hy])
  ·have:=h.m.n;omega
end Go.Proofs.YtahgmmbmmcaejaaGreatDoor
namespace Go.Proofs.YtahgmmbmmcaejaaGreatDoor
open Go Go.Dt
set_option maxRecDepth 100000
theorem ItW.ev{σ0 σ:St}{r b b4:Nat}{x:ItemD}{iv av vv:AV}{ws:List (List UInt8)}{err:Int}(h:ItW σ0 σ r b b4 x iv av vv ws err)(hli:x.ids.length+1<1073741824)(hla:x.atoms.length+1<1073741824)(l n a:Int):
  loadV tab σ 37 (.ptr b 2)= .ok iv∧beqA iv iv=true∧bndA (σ.n+1) iv=true∧b<σ.n∧loadV tab σ 38 (.ptr b 3)= .ok av∧beqA av av=true∧bndA (σ.n+3) av=true∧
  ∃σ1 iv' σ2 av' σ3 σ4,appendV tab (σ.push (.cells [intV .u64 l,intV .u64 n] 74 true 2)) 37 37 iv (.slice σ.n 0 1 (some 1) 2)= .ok (iv',σ1)∧σ1.n=σ.n+2∧loadV tab σ1 38 (.ptr b 3)= .ok av∧
   appendV tab (σ1.push (.cells [intV .i64 a] 3 true 1)) 38 38 av (.slice (σ.n+2) 0 1 (some 1) 1)= .ok (av',σ2)∧σ2.n=σ.n+4∧bndA (σ.n+4) iv'=true∧bndA (σ.n+4) av'=true∧
   storeV tab σ2 37 (.ptr b 2) iv'= .ok σ3∧σ3.n=σ.n+4∧storeV tab σ3 38 (.ptr b 3) av'= .ok σ4∧σ4.n=σ.n+4∧
   ItW σ0 σ4 r b b4 {x with ids:=x.ids++[(l,n)],atoms:=x.atoms++[a]} iv' av' vv ws err:=by
 obtain ⟨f1,f2,f3,hI,hf⟩:=h.it
 obtain ⟨σ1,iv',a1,a2,a3,a4⟩:=vapp (new:=[intV .u64 l,intV .u64 n]) app37 h.rd.wf hI.ids hli rfl rfl
 have o1:=hI.ids.off hI.at' (by omega)
 have o4:=hI.ids.off h.out (by omega)
 have hb1:=hI.at'.mod a3 (fun hb=>o1 b hb rfl)
 have hb41:=h.out.mod a3 (fun hb=>o4 b4 hb rfl)
 have hrd1:=h.rd.step a3 (hI.ids.kind (by omega) (by omega))
 have v1:=hI.atoms.mod a3 (hI.atoms.offV hI.ids (by omega))
 have w1:=hI.values.mod a3 (hI.values.offV hI.ids (by omega))
 obtain ⟨σ2,av',c1,c2,c3,c4⟩:=vapp (new:=[intV .i64 a]) app38 hrd1.wf v1 hla rfl rfl
 rw [a4] at c1 c2
 have p1:=v1.off hb1 (by omega)
 have p4:=v1.off hb41 (by omega)
 have hb2:=hb1.mod c3 (fun hb=>p1 b hb rfl)
 have hb42:=hb41.mod c3 (fun hb=>p4 b4 hb rfl)
 have hrd2:=hrd1.step c3 (v1.kind (by omega) (by omega))
 have u2:=a2.mod c3 (a2.offV v1 (by omega))
 have w2:=w1.mod c3 (w1.offV v1 (by omega))
 have hst1:=stv (o:=2) (x:=iv') sz37 hb2 (by rw [u2.cell];rfl) (by omega) (by simp) (by rw [u2.cell];simp [u2.one])
 rw [u2.cell] at hst1
 have hb3:=hb2.set_same hrd2.wf (.cells [intV .i64 x.kind,intV .i64 x.query,iv',av,vv,intV .i64 x.err,intV .i64 x.count] 41 true 7)
 have hrd3:Rd _ r ws err:=hrd2.set_ne hb2 (by omega) (Ne.symm (hrd2.off hb2 (by omega))) (.cells [intV .i64 x.kind,intV .i64 x.query,iv',av,vv,intV .i64 x.err,intV .i64 x.count] 41 true 7)
 have hst2:=stv (o:=3) (x:=av') sz38 hb3 (by rw [c2.cell];rfl) (by omega) (by simp) (by rw [c2.cell];simp [c2.one])
 rw [c2.cell] at hst2
 have hb4':=hb3.set_same hrd3.wf (.cells [intV .i64 x.kind,intV .i64 x.query,iv',av',vv,intV .i64 x.err,intV .i64 x.count] 41 true 7)
 have hs1:Mod [b] σ2 (σ2.set b (.cells [intV .i64 x.kind,intV .i64 x.query,iv',av,vv,intV .i64 x.err,intV .i64 x.count] 41 true 7)):=Mod.set (by simp) hb2.1 _
 have hs2:Mod [b] _ ((σ2.set b (.cells [intV .i64 x.kind,intV .i64 x.query,iv',av,vv,intV .i64 x.err,intV .i64 x.count] 41 true 7)).set b (.cells [intV .i64 x.kind,intV .i64 x.query,iv',av',vv,intV .i64 x.err,intV .i64 x.count] 41 true 7)):=hs1.trans (Mod.set (by simp) hb3.1 _)
 have hnb:∀z∈[b],z∈[r]∨σ0.n≤z:=by intro y hy;simp only [List.mem_singleton] at hy;subst hy;exact .inr h.bge
 have u4:=u2.mod hs2 (by intro y hy;simpa using u2.off hb2 (by omega) y hy)
 have v4:=c2.mod hs2 (by intro y hy;simpa using c2.off hb2 (by omega) y hy)
 have w4:=w2.mod hs2 (by intro y hy;simpa using w2.off hb2 (by omega) y hy)
 refine ⟨ld l37 hI.at' rfl,hI.ids.beq,hI.ids.bnd (by omega),hI.at'.1,ld l38 hI.at' rfl,hI.atoms.beq,hI.atoms.bnd (by omega),σ1,iv',σ2,av',_,_,a1,a4,ld l38 hb1 rfl,c1,by omega,u2.bnd (by omega),c2.bnd (by omega),hst1,by rw [set_n];omega,hst2,by rw [set_n,set_n];omega,?_⟩
 refine ⟨(((h.m.trans' a3 ?_).trans' c3 ?_).trans' hs2 hnb),hrd3.set_ne hb3 (by omega) (Ne.symm (hrd3.off hb3 (by omega))) _,h.bge,h.b4ge,h.ne,⟨[σ.n+1],[σ.n+2+1],f3,⟨hb4',?_,?_,w4⟩,?_⟩,(hb42.mod hs2 (by simpa using Ne.symm h.ne))⟩
 ·intro y hy;exact .inr (hf y (by simp [hy]))
 ·intro y hy;exact .inr (hf y (by simp [hy]))
 ·rw [flat_app,flat_one,List.length_append];exact u4
 ·rw [flat_app,flat_one,List.length_append];exact v4
 ·intro y hy
  have:=h.m.n
  simp only [List.mem_append,List.mem_singleton] at hy
  rcases hy with (hy | hy) | hy
  ·omega
  ·omega
  ·exact hf y (by simp [hy])
theorem ItW.setErr{σ0 σ:St}{r b b4:Nat}{x:ItemD}{iv av vv:AV}{ws:List (List UInt8)}{err:Int}(h:ItW σ0 σ r b b4 x iv av vv ws err)(e:Int):
  ∃σ1,storeV tab σ 24 (.ptr b 5) (intV .i64 e)= .ok σ1∧ItW σ0 σ1 r b b4 {x with err:=e} iv av vv ws err:=by
 obtain ⟨f1,f2,f3,hI,hf⟩:=h.it
 have hst:=stv (o:=5) (x:=intV .i64 e) sz24 hI.at' rfl (by omega) (by simp) rfl
 refine ⟨_,hst,?_⟩
 have hs:Mod [b] σ (σ.set b (.cells [intV .i64 x.kind,intV .i64 x.query,iv,av,vv,intV .i64 e,intV .i64 x.count] 41 true 7)):=Mod.set (by simp) hI.at'.1 _
 refine ⟨h.m.trans' hs (by intro y hy;simp only [List.mem_singleton] at hy;subst hy;exact .inr h.bge),h.rd.set_ne hI.at' (by omega) (Ne.symm (h.rd.off hI.at' (by omega))) _,h.bge,h.b4ge,h.ne,⟨f1,f2,f3,⟨hI.at'.set_same h.rd.wf _,hI.ids.mod hs ?_,hI.atoms.mod hs ?_,hI.values.mod hs ?_⟩,hf⟩,h.out.mod hs (by simpa using Ne.symm h.ne)⟩
 ·intro y hy;simpa using hI.ids.off hI.at' (by omega) y hy
 ·intro y hy;simpa using hI.atoms.off hI.at' (by omega) y hy
 ·intro y hy;simpa using hI.values.off hI.at' (by omega) y hy
theorem ItW.setCount{σ0 σ:St}{r b b4:Nat}{x:ItemD}{iv av vv:AV}{ws:List (List UInt8)}{err:Int}(h:ItW σ0 σ r b b4 x iv av vv ws err)(e:Int):
  ∃σ1,storeV tab σ 3 (.ptr b 6) (intV .i64 e)= .ok σ1∧ItW σ0 σ1 r b b4 {x with count:=e} iv av vv ws err:=by
 obtain ⟨f1,f2,f3,hI,hf⟩:=h.it
 have hst:=stv (o:=6) (x:=intV .i64 e) sz3 hI.at' rfl (by omega) (by simp) rfl
 refine ⟨_,hst,?_⟩
 have hs:Mod [b] σ (σ.set b (.cells [intV .i64 x.kind,intV .i64 x.query,iv,av,vv,intV .i64 x.err,intV .i64 e] 41 true 7)):=Mod.set (by simp) hI.at'.1 _
 refine ⟨h.m.trans' hs (by intro y hy;simp only [List.mem_singleton] at hy;subst hy;exact .inr h.bge),h.rd.set_ne hI.at' (by omega) (Ne.symm (h.rd.off hI.at' (by omega))) _,h.bge,h.b4ge,h.ne,⟨f1,f2,f3,⟨hI.at'.set_same h.rd.wf _,hI.ids.mod hs ?_,hI.atoms.mod hs ?_,hI.values.mod hs ?_⟩,hf⟩,h.out.mod hs (by simpa using Ne.symm h.ne)⟩
 ·intro y hy;simpa using hI.ids.off hI.at' (by omega) y hy
 ·intro y hy;simpa using hI.atoms.off hI.at' (by omega) y hy
 ·intro y hy;simpa using hI.values.off hI.at' (by omega) y hy
def ItOut(σ0 σ:St)(r:Nat)(ws:List (List UInt8))(err:Int)(x:ItemD)(cs:List AV):Prop:=
 Mod [r] σ0 σ∧Rd σ r ws err∧∃fp,ItemR σ cs x fp∧∀y∈fp,σ0.n≤y
theorem ItW.done{σ0 σ:St}{r b b4:Nat}{x:ItemD}{iv av vv:AV}{ws:List (List UInt8)}{err:Int}(h:ItW σ0 σ r b b4 x iv av vv ws err):
  ∃cs σ1,loadV tab σ 41 (.ptr b 0)= .ok (.agg cs)∧storeV tab σ 41 (.ptr b4 0) (.agg cs)= .ok σ1∧loadV tab σ1 41 (.ptr b4 0)= .ok (.agg cs)∧ItOut σ0 σ1 r ws err x cs:=by
 obtain ⟨f1,f2,f3,hI,hf⟩:=h.it
 have hone:[intV .i64 x.kind,intV .i64 x.query,iv,av,vv,intV .i64 x.err,intV .i64 x.count].all AV.oneCell=true:=by
  simp only [List.all_cons,List.all_nil,hI.ids.one,hI.atoms.one,hI.values.one];rfl
 have hst:=stv (o:=0) (x:= .agg [intV .i64 x.kind,intV .i64 x.query,iv,av,vv,intV .i64 x.err,intV .i64 x.count]) sz41 h.out rfl (by omega) (by simp [zero41]) hone
 have hA:=h.out.set_same h.rd.wf (.cells [intV .i64 x.kind,intV .i64 x.query,iv,av,vv,intV .i64 x.err,intV .i64 x.count] 41 true 7)
 have hs:Mod [b4] σ (σ.set b4 (.cells [intV .i64 x.kind,intV .i64 x.query,iv,av,vv,intV .i64 x.err,intV .i64 x.count] 41 true 7)):=Mod.set (by simp) h.out.1 _
 refine ⟨_,_,lda a41 hI.at' rfl rfl,hst,lda a41 hA rfl rfl,h.m.trans' hs (by intro y hy;simp only [List.mem_singleton] at hy;subst hy;exact .inr h.b4ge),h.rd.set_ne h.out (by omega) (Ne.symm (h.rd.off h.out (by omega))) _,_,⟨iv,av,vv,f1,f2,f3,rfl,hI.ids.mod hs ?_,hI.atoms.mod hs ?_,hI.values.mod hs ?_,rfl⟩,hf⟩
 ·intro y hy;simpa using hI.ids.off h.out (by omega) y hy
 ·intro y hy;simpa using hI.atoms.off h.out (by omega) y hy
 ·intro y hy;simpa using hI.values.off h.out (by omega) y hy
end Go.Proofs.YtahgmmbmmcaejaaGreatDoor
namespace Go.Proofs.YtahgmmbmmcaejaaGreatDoor
open Go Go.Dt
set_option maxRecDepth 100000
def isStop(w:List UInt8):Bool:=w==[61] || w==[33]
def evW(ws:List (List UInt8)):List (List UInt8):=ws.takeWhile fun w=> !isStop w
def evR(ws:List (List UInt8)):List (List UInt8):=ws.dropWhile fun w=> !isStop w
def evFold(err:Int)(ws:List (List UInt8)):Int:=ws.foldl (fun e w=>cmb e (evE w)) err
theorem evFold_isE:∀(ws:List (List UInt8)) {err:Int},isE err→isE (evFold err ws)
 | [],_,h=>h
 | w::ws,err,_=>evFold_isE ws (err:=cmb err (evE w)) (cmb_isE _ _)
theorem bnd_sl(n o l:Nat)(c:Option Nat)(s:Nat):bndA (n+1) (.slice n o l c s)=true:=blt_t (Nat.lt_succ_self n)
theorem bnd_pt{n b:Nat}(o:Nat)(h:b<n):bndA n (.ptr b o)=true:=blt_t h
theorem ble12(n:Nat):Nat.ble (n+1) (n+2)=true:=ble_t (by omega)
theorem ble34(n:Nat):Nat.ble (n+2+1) (n+4)=true:=ble_t (by omega)
theorem bleR(n:Nat):Nat.ble n n=true:=ble_t (Nat.le_refl n)
theorem all2{α:Type}(f:α→Bool)(a b:α):[a,b].all f=(f a && f b):=by simp
theorem Rd.get{σ:St}{r:Nat}{ws:List (List UInt8)}{err:Int}(h:Rd σ r ws err):∃v,loadV tab σ 105 (.ptr r 0)= .ok v∧loadV tab σ 24 (.ptr r 1)= .ok (intV .i64 err)∧lenV tab 105 v= .ok (intV .i64 (ws.length:Int))∧Strs σ v ws∧r<σ.n:=by
 obtain ⟨⟨v,h1,h2⟩,_⟩:=h
 exact ⟨v,ld l105 h1 rfl,ld l24 h1 rfl,h2.len,h2,h1.1⟩
theorem bndO2(m:Nat)(x y:Int):bndO m (.cells [intV .u64 x,intV .u64 y] 74 true 2)=true:=rfl
theorem bndO1(m:Nat)(x:Int)(k:IntKind)(e:Nat):bndO m (.cells [intV k x] e true 1)=true:=rfl
theorem loop165(σ0:St)(r b b4:Nat)(vv:AV):∀(ws:List (List UInt8)),(∀w∈ws,w.length<1099511627776)→∀(x:ItemD) (iv av:AV) (err:Int) (T:Rg) (σ:St),isE err→x.ids.length+ws.length+1<1073741824→x.atoms.length+ws.length+1<1073741824→ItW σ0 σ r b b4 x iv av vv ws err→
  T 1= .ptr r 0→T 4= .ptr b4 0→T 5= .ptr b 0→
  ∃T' σ' iv' av',loopLim (dd tab W 106 c165b) T σ= .ok (.exit 0 T' σ')∧T' 1= .ptr r 0∧T' 4= .ptr b4 0∧T' 5= .ptr b 0∧
   ItW σ0 σ' r b b4 {x with ids:=x.ids++(evW ws).map (fun w=>(evV w).1),atoms:=x.atoms++(evW ws).map (fun w=>(evV w).2)} iv' av' vv (evR ws) (evFold err (evW ws)):=by
 intro ws
 induction ws with
 | nil=>
  intro _ x iv av err T σ herr hl1 hl2 h t1 t4 t5
  obtain ⟨v,g1',g2',g3',g4',g5'⟩:=h.rd.get
  have e:=ec165b kOc T σ
  have d:decide ((([]:List (List UInt8)).length:Int)>0)=false:=rfl
  simp only [sN,pickV_boolV,t1,nilC,fa133_0,g1',g3',d] at e
  refine ⟨_,σ,iv,av,loop_exit (dd_of tab W 106 e),?_,?_,?_,?_⟩
  ·simp (decide:=true) only [sR,t1]
  ·simp (decide:=true) only [sR,t4]
  ·simp (decide:=true) only [sR,t5]
  ·have:({x with ids:=x.ids++(evW []).map (fun w=>(evV w).1),atoms:=x.atoms++(evW []).map (fun w=>(evV w).2)}:ItemD)=x:=by simp [evW]
   rw [this];exact h
 | cons w ws ih=>
  intro hws x iv av err T σ herr hl1 hl2 h t1 t4 t5
  obtain ⟨v,g1',g2',g3',g4',g5'⟩:=h.rd.get
  obtain ⟨p,p1,p2⟩:=g4'.get0
  have e:=ec165b kOc T σ
  have d:decide (((w::ws).length:Int)>0)=true:=by simp
  simp only [sN,pickV_boolV,t1,nilC,fa133_0,g1',g3',d,p1,p2] at e
  cases hst:isStop w with
  | true=>
   have hr:evR (w::ws)=w::ws:=by simp [evR,List.dropWhile,hst]
   have hw:evW (w::ws)=[]:=by simp [evW,List.takeWhile,hst]
   rw [hr,hw]
   unfold isStop at hst
   have key:∃T',denK tab W 106 c165b kOc T σ= .ok (.exit 0 T' σ)∧T' 1= .ptr r 0∧T' 4= .ptr b4 0∧T' 5= .ptr b 0:=by
    cases h61:w==[61] with
    | true=>
     simp only [sN,h61] at e
     refine ⟨_,e,?_,?_,?_⟩<;>simp (decide:=true) only [sR,t1,t4,t5]
    | false=>
     have h33:(w==[33])=true:=by rw [h61] at hst;simpa using hst
     simp only [sN,h61,nilC,fa133_0,g1',p1,p2,h33] at e
     refine ⟨_,e,?_,?_,?_⟩<;>simp (decide:=true) only [sR,t1,t4,t5]
   obtain ⟨T',k1,k2,k3,k4⟩:=key
   refine ⟨T',σ,iv,av,loop_exit (dd_of tab W 106 k1),k2,k3,k4,?_⟩
   have:({x with ids:=x.ids++([]:List (List UInt8)).map (fun w=>(evV w).1),atoms:=x.atoms++([]:List (List UInt8)).map (fun w=>(evV w).2)}:ItemD)=x:=by simp
   rw [this];exact h
  | false=>
   have hr:evR (w::ws)=evR ws:=by simp [evR,List.dropWhile,hst]
   have hw:evW (w::ws)=w::evW ws:=by simp [evW,List.takeWhile,hst]
   rw [hr,hw]
   unfold isStop at hst
   have h61:(w==[61])=false:=by cases hq:w==[61] with
    | true=>rw [hq] at hst;cases hst
    | false=>rfl
   have h33:(w==[33])=false:=by rw [h61] at hst;simpa using hst
   obtain ⟨σ1,k1,k2,k3⟩:=W73 r (w::ws) err herr σ h.rd
   have hcm:cmb err (wordE (w::ws))=err:=cmb_0 herr
   rw [hcm] at k3
   have kw:wordF (w::ws)=w:=rfl
   rw [kw] at k1
   have h1:=h.step k2 k3
   obtain ⟨σ2,j1,j2,j3⟩:=W167 r ws err herr w (hws w (by simp)) σ1 k3 k3.get.choose_spec.2.2.2.2
   have h2:=h1.step j2 j3
   have hA2:=At.new σ2 (.cells [intV .u64 0,intV .u64 0] 74 true 2)
   obtain ⟨σ3,hσ3⟩:∃σ3,σ3=(σ2.push (.cells [intV .u64 0,intV .u64 0] 74 true 2)).set σ2.n (.cells [intV .u64 (evV w).1.1,intV .u64 (evV w).1.2] 74 true 2):=⟨_,rfl⟩
   have hs74:storeV tab (σ2.push (.cells [intV .u64 0,intV .u64 0] 74 true 2)) 74 (.ptr σ2.n 0) (.agg [intV .u64 (evV w).1.1,intV .u64 (evV w).1.2])= .ok σ3:=by rw [hσ3];exact st74 hA2
   have hA3:At σ3 σ2.n (.cells [intV .u64 (evV w).1.1,intV .u64 (evV w).1.2] 74 true 2):=by rw [hσ3];exact hA2.set_same (WF.push h2.rd.wf _) _
   have hg3:Grow σ2 σ3:=by rw [hσ3];exact (Grow.push _ _).set (Nat.le_refl _) hA2.1 _
   have h3:=h2.grow hg3
   have ldp:loadV tab σ3 74 (.ptr σ2.n 0)= .ok (.agg [intV .u64 (evV w).1.1,intV .u64 (evV w).1.2]):=lda a74 hA3 rfl rfl
   have bq:beqA (.agg [intV .u64 (evV w).1.1,intV .u64 (evV w).1.2]) (.agg [intV .u64 (evV w).1.1,intV .u64 (evV w).1.2])=true:=by simp [beqA,beqL,intV,beqBase]
   obtain ⟨q1,q2,q3,q4,q5,q6,q7,τ1,iv',τ2,av',τ3,τ4,u1,u2,u3',u4,u5,u6,u7,u8,u9,u10,u11,u12⟩:=h3.ev (by simp at hl1;omega) (by simp at hl2;omega) (evV w).1.1 (evV w).1.2 (evV w).2
   have q7':bndA (σ3.n+2+1) av=true:=q7
   have bb:∀o,bndA (σ3.n+4) (.ptr b o)=true:=fun o=>bnd_pt o (by omega)
   have bs:bndA (σ3.n+2+1) (.slice (σ3.n+2) 0 1 (some 1) 1)=true:=bnd_sl _ _ _ _ _
   simp only [sN,h61,h33,nilC,fa133_0,g1',p1,p2,k1,j1,alloc74,hs74,t5,fa41_2,fa41_3,Nat.zero_add,q1,sameR,q2,ldp,bq,bs37,bndO2,all2,push_n,q3,bnd_sl,u1,u2,ble12,u3',q5,q6,bs38,bndO1,q7',u4,u5,u6,u7,bb,u8,u9,bleR,u10,u11,Bool.and_true] at e
   have key:∃T1,denK tab W 106 c165b kOc T σ= .ok (.nxt T1 τ4)∧T1 1= .ptr r 0∧T1 4= .ptr b4 0∧T1 5= .ptr b 0:=by
    refine ⟨_,e,?_,?_,?_⟩<;>simp (decide:=true) only [sR,t1,t4,t5]
   obtain ⟨T1,e1,m1,m4,m5⟩:=key
   obtain ⟨T',σ',iv'',av'',z1,z2,z3,z4,z5⟩:=ih (fun y hy=>hws y (by simp [hy])) _ iv' av' _ T1 τ4 (cmb_isE _ _) (by simp at hl1 ⊢;omega) (by simp at hl2 ⊢;omega) u12 m1 m4 m5
   refine ⟨T',σ',iv'',av'',loop_next (dd_of tab W 106 e1) z1,z2,z3,z4,?_⟩
   have e1:evFold err (w::evW ws)=evFold (cmb err (evE w)) (evW ws):=rfl
   rw [e1]
   simpa using z5
end Go.Proofs.YtahgmmbmmcaejaaGreatDoor
namespace Go.Proofs.YtahgmmbmmcaejaaGreatDoor
open Go Go.Dt
set_option maxRecDepth 100000
def valFold(err:Int)(ws:List (List UInt8)):Int:=ws.foldl (fun e w=>cmb e (intC w).2) err
theorem valFold_isE:∀(ws:List (List UInt8)) {err:Int},isE err→isE (valFold err ws)
 | [],_,h=>h
 | w::ws,err,_=>valFold_isE ws (err:=cmb err (intC w).2) (cmb_isE _ _)
theorem loop165v(σ0:St)(r b b4:Nat)(iv av:AV):∀(ws:List (List UInt8)),(∀w∈ws,w.length<1099511627776)→∀(x:ItemD) (vv:AV) (err:Int) (T:Rg) (σ:St),isE err→x.values.length+ws.length+1<1073741824→ItW σ0 σ r b b4 x iv av vv ws err→
  T 1= .ptr r 0→T 4= .ptr b4 0→T 5= .ptr b 0→
  ∃T' σ' vv',loopLim (dd tab W 106 c165h) T σ= .ok (.exit 3 T' σ')∧T' 1= .ptr r 0∧T' 4= .ptr b4 0∧T' 5= .ptr b 0∧
   ItW σ0 σ' r b b4 {x with values:=x.values++ws.map (fun w=>(intC w).1)} iv av vv' [] (valFold err ws):=by
 intro ws
 induction ws with
 | nil=>
  intro _ x vv err T σ herr hl1 h t1 t4 t5
  obtain ⟨v,g1',g2',g3',g4',g5'⟩:=h.rd.get
  have e:=ec165h kOc T σ
  have d:decide ((([]:List (List UInt8)).length:Int)>0)=false:=rfl
  simp only [sN,t1,nilC,fa133_0,g1',g3',d] at e
  refine ⟨_,σ,vv,loop_exit (dd_of tab W 106 e),?_,?_,?_,?_⟩
  ·simp (decide:=true) only [sR,t1]
  ·simp (decide:=true) only [sR,t4]
  ·simp (decide:=true) only [sR,t5]
  ·have:({x with values:=x.values++([]:List (List UInt8)).map (fun w=>(intC w).1)}:ItemD)=x:=by simp
   rw [this];exact h
 | cons w ws ih=>
  intro hws x vv err T σ herr hl1 h t1 t4 t5
  obtain ⟨v,g1',g2',g3',g4',g5'⟩:=h.rd.get
  have e:=ec165h kOc T σ
  have d:decide (((w::ws).length:Int)>0)=true:=by simp
  obtain ⟨f1,f2,f3,hI,hf⟩:=h.it
  have ld0:loadV tab σ 39 (.ptr b 4)= .ok vv:=ld l39 hI.at' rfl
  obtain ⟨σ1,k1,k2,k3⟩:=W164 r (w::ws) err herr (hws w (by simp)) σ h.rd
  have hcm:cmb err (wordE (w::ws))=err:=cmb_0 herr
  have kw:wordF (w::ws)=w:=rfl
  rw [hcm] at k3
  rw [kw] at k1 k3
  have h1:=h.step k2 k3
  obtain ⟨q1,q2,q3,q4,τ1,v',τ2,u1,u2,u3',u4,u5,u6⟩:=h1.val (by simp at hl1;omega) (intC w).1
  have bb:∀o,bndA (σ1.n+2) (.ptr b o)=true:=fun o=>bnd_pt o (by omega)
  have br:bndA σ.n (.ptr r 0)=true:=bnd_pt 0 g5'
  have bf:∀n,bndA n (AV.func (.func 164) [] [])=true:=fun n=>rfl
  have ble1:Nat.ble σ.n σ1.n=true:=ble_t k2.n
  simp only [sN,t1,nilC,fa133_0,g1',g3',d,all2,bf,br,k1,ble1,t5,fa41_4,Nat.zero_add,ld0,q1,sameR,q2,bs39,bndO1,push_n,q3,bnd_sl,u1,u2,ble12,u3',bb,u4,u5,bleR,Bool.and_true] at e
  have key:∃T1,denK tab W 106 c165h kOc T σ= .ok (.nxt T1 τ2)∧T1 1= .ptr r 0∧T1 4= .ptr b4 0∧T1 5= .ptr b 0:=by
   refine ⟨_,e,?_,?_,?_⟩<;>simp (decide:=true) only [sR,t1,t4,t5]
  obtain ⟨T1,e1,m1,m4,m5⟩:=key
  obtain ⟨T',σ',vv'',z1,z2,z3,z4,z5⟩:=ih (fun y hy=>hws y (by simp [hy])) _ v' _ T1 τ2 (cmb_isE _ _) (by simp at hl1 ⊢;omega) u6 m1 m4 m5
  refine ⟨T',σ',vv'',loop_next (dd_of tab W 106 e1) z1,z2,z3,z4,?_⟩
  have e1:valFold err (w::ws)=valFold (cmb err (intC w).2) ws:=rfl
  rw [e1]
  simpa using z5
def tailF(x:ItemD)(e:Int):List (List UInt8)→ItemD×List (List UInt8)×Int
 | []=>(x,[],e)
 | w::rs=>
  bif w==[33] then
   bif wordF rs==errNm 7 then ({x with err:=7},rs.tail,cmb e (wordE rs))
   else bif wordF rs==errNm 16 then ({x with err:=16},rs.tail,cmb e (wordE rs))
   else (x,rs.tail,cmb (cmb e (wordE rs)) 3)
  else ({x with values:=x.values++[(intC (wordF rs)).1]++rs.tail.map (fun w=>(intC w).1)},[],valFold (cmb (cmb e (wordE rs)) (intC (wordF rs)).2) rs.tail)
def foundF(err:Int)(ws:List (List UInt8)):ItemD×List (List UInt8)×Int:=
 tailF {kind:=1,query:=(numC (wordF ws)).1,ids:=(evW ws.tail).map (fun w=>(evV w).1),atoms:=(evW ws.tail).map (fun w=>(evV w).2),values:=[],err:=0,count:=0}
  (bif (evW ws.tail).isEmpty then cmb (evFold (cmb (cmb err (wordE ws)) (numC (wordF ws)).2) (evW ws.tail)) 3 else evFold (cmb (cmb err (wordE ws)) (numC (wordF ws)).2) (evW ws.tail)) (evR ws.tail)
noncomputable def k165:K (AEnd×St):=kRet tab [.cell 4 41]
def Item165(σ0:St)(r:Nat)(y:R (AEnd×St))(p:ItemD×List (List UInt8)×Int):Prop:=∃cs σ',y= .ok (.ret (.agg cs),σ')∧ItOut σ0 σ' r p.2.1 p.2.2 p.1 cs
theorem fin165{σ0 σ:St}{r b b4:Nat}{x:ItemD}{iv av vv:AV}{ws:List (List UInt8)}{err:Int}(h:ItW σ0 σ r b b4 x iv av vv ws err){y:R (AEnd×St)}{T:AV→Rg}(t4:∀v,T v 4= .ptr b4 0)
  (hy:y=bindR (loadV tab σ 41 (.ptr b 0)) fun v=>bindR (storeV tab σ 41 (.ptr b4 0) v) fun s=>k165.ret (T v) s):Item165 σ0 r y (x,ws,err):=by
 obtain ⟨cs,σ1,h1,h2,h3,h4⟩:=h.done
 refine ⟨cs,σ1,?_,h4⟩
 rw [hy,h1,bindR_val,h2,bindR_val]
 simp only [k165,kRet,resK,t4,h3,bindR_val]
 rfl
end Go.Proofs.YtahgmmbmmcaejaaGreatDoor
