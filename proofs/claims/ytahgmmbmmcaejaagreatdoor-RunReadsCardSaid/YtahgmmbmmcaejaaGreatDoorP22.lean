/-
  A part of the proof. No statement of this seat stands here.
-/
import Derived.Test.YtahgmmbmmcaejaaGreatDoorP21
namespace Go.Proofs.YtahgmmbmmcaejaaGreatDoor
open Go Go.Dt
set_option maxRecDepth 100000
theorem bndHeadOf(n:Nat)(r:RepD):bndA n (.agg (headC r))=true:=rfl
theorem ge_rule(_:Rg):True:=trivial
theorem rest13(σ1 σ:St)(rb:Nat)(v:AV)(rs:List RepD)(hlen:rs.length≤400)(hok:∀r∈rs,okRep r)(h:OutR σ1 σ v rs)(hrb:At σ rb (.cells [v] 50 true 1))(hge:σ1.n≤rb)(s:List UInt8)(hs:s.length<480000000)(hh:(headP s).2=false)(T:Rg)
  (t0:T 0= .ptr rb 0) (t1:T 1=str s) (t5:T 5=intV .i64 ((rs.length:Int) - 1)):
  Out13 σ1 rb (denK tab W 131 c13c k13 T σ) (lineS rs s):=by
 have e:=ec13c k13 T σ
 have bad:∀(T1:Rg) (σ3:St),WF σ3→Grow σ1 σ3→T1 4=intV .i64 3→(lineS rs s)=(rs,3)→denK tab W 131 c13c k13 T σ=k13.ret T1 σ3→Out13 σ1 rb (denK tab W 131 c13c k13 T σ) (lineS rs s):=by
  intro T1 σ3 hw hg m4 hl hT
  rw [hl]
  exact ⟨v,σ3,hT.trans ((k13_ret T1 σ3).trans (by rw [m4])),hw,hg,fun h=>by cases h⟩
 by_cases hnil:rs=[]
 ·subst hnil
  have d:decide (((([]:List RepD).length:Int) - 1)<0)=true:=rfl
  rw [t5] at e
  simp (decide:=true) only [sN] at e
  exact bad _ σ h.wf h.grow (by simp (decide:=true) only [sR]) (by simp only [lineS,hh,condF];rfl) e
 ·obtain ⟨rs',r,rfl⟩:=snoc_of hnil
  have hlen':rs'.length+1≤400:=by simpa using hlen
  have hrk:=hok r (by simp)
  have h5:((rs'++[r]).length:Int) - 1=(rs'.length:Int):=by simp
  rw [h5] at t5
  have d:decide ((rs'.length:Int)<0)=false:=decide_eq_false (by omega)
  simp (decide:=true) only [sN,pickV_boolV,t5,d,t1] at e
  have asItem:hasPre s recHd=false∨s=recHd→∀T1:Rg,T1 0= .ptr rb 0→T1 1=str s→T1 5=intV .i64 (rs'.length:Int)→denK tab W 131 c13c k13 T σ=denK tab W 131 c13d k13 T1 σ→Out13 σ1 rb (denK tab W 131 c13c k13 T σ) (lineS (rs'++[r]) s):=by
   intro hor T1 m0 m1 m5 hT
   rw [hT]
   have k:=item13 σ1 σ rb v rs' r hlen' hrk h hrb hge s hs T1 m0 m1 m5
   have hl:lineS (rs'++[r]) s=(bif finE (iQ s)==0 && r.recs.isEmpty then (addTo (putItem (finI (iQ s))) (rs'++[r]),oneS (putItem (finI (iQ s)) r)) else (rs'++[r],3)):=by
    simp only [lineS,hh,condF,getLast_snoc]
    rcases hor with hp | hp
    ·simp only [hp,condF]
    ·subst hp
     have h1:hasPre recHd recHd=true:=rfl
     have h2:(recP (recHd.drop 7)).2=false:=rec_nil
     have h3:(finE (iQ recHd)==0)=false:=by rw [rec_hd];rfl
     simp only [h1,h2,h3,condT,condF,Bool.false_and]
   rw [hl];exact k
  by_cases h7:7<s.length
  ·have d7:decide ((s.length:Int)>7)=true:=decide_eq_true (by omega)
   have s7:sliceV tab 9 (str s) none (some (intV .i64 7)) none= .ok (str (s.take 7)):=sliceS_hi s 7 (by omega)
   have s7':sliceV tab 9 (str s) (some (intV .i64 7)) none none= .ok (str (s.drop 7)):=sliceS_lo s 7 (by omega)
   simp (decide:=true) only [sN,d7,s7] at e
   have hpe:(s.take 7==[114,101,99,111,114,100,32])=hasPre s recHd:=by
    rw [hasPre_iff]
    by_cases hq:s.take 7=recHd
    ·rw [decide_eq_true hq,hq];rfl
    ·rw [decide_eq_false hq,beq_eq_false_iff_ne];exact hq
   rw [hpe] at e
   cases hp:hasPre s recHd with
   | false=>
    rw [hp] at e
    simp only [condF] at e
    exact asItem (.inl hp) _ (by simp (decide:=true) only [sR,t0]) (by simp (decide:=true) only [sR,t1]) (by simp (decide:=true) only [sR,t5]) e
   | true=>
    obtain ⟨q,σ2,k1,k2,k3⟩:=W26 (s.drop 7) (by simp;omega) σ h.wf
    have hA2:=At.new σ2 (.cells (recC zeroRec) 77 true 6)
    have hst:=st77 (r':=q) hA2
    obtain ⟨σ3,hσ3⟩:∃σ3,σ3=(σ2.push (.cells (recC zeroRec) 77 true 6)).set σ2.n (.cells (recC q) 77 true 6):=⟨_,rfl⟩
    rw [← hσ3] at hst
    have hA3:At σ3 σ2.n (.cells (recC q) 77 true 6):=by rw [hσ3];exact hA2.set_same (WF.push (k2.wf h.wf) _) _
    have hg3:Grow σ σ3:=by rw [hσ3];exact (k2.trans (Grow.push _ _)).set k2.n hA2.1 _
    have h3:=h.step hg3
    have hrb3:=hrb.grow hg3
    rw [hp] at e
    simp (decide:=true) only [sN,s7',k1,alloc77',hst] at e
    rw [rec_same] at e k3
    cases hr:(recP (s.drop 7)).2 with
    | false=>
     rw [hr] at e
     have d0:(bif false then some (recP (s.drop 7)).1 else none).isSome=false:=rfl
     rw [d0] at e
     simp (decide:=true) only [sN] at e
     exact bad _ σ3 h3.wf h3.grow (by simp (decide:=true) only [sR]) (by simp only [lineS,hh,condF,getLast_snoc,hp,hr,condT]) e
    | true=>
     rw [hr] at e k3
     have hq:q=(recP (s.drop 7)).1:=k3 _ rfl
     have d0:(bif true then some (recP (s.drop 7)).1 else none).isSome=true:=rfl
     rw [d0] at e
     obtain ⟨b,iv,rv,hL⟩:=h3.toLast
     obtain ⟨q1,q2,q3,q4,σ4,rv'',σ5,u1,u2,u3,u4,u5,u6,u7⟩:=hL.addRec (by have:=hrk.2.1;omega) q
     have bb:bndA (σ3.n+2) (.ptr b (rs'.length*6+5))=true:=bnd_pt _ (by have:=hL.lt;omega)
     have hfa5:fieldAddr tab 36 (.ptr b (rs'.length*6)) 5= .ok (.ptr b (rs'.length*6+5)):=fa36_5 b _
     have hvc:=h.cell
     have hrb45:=u7 _ _ _ _ _ (by omega) (by omega) hrb3
     have ldv:=ldV hrb3
     have ldv4:=ldV hrb45.1
     have ldv5:=ldV hrb45.2
     have hr':okRepL {r with recs:=r.recs++[q]}:=⟨by have:=hrk.1;simp;omega,by have:=hrk.2.1;simp;omega,hrk.2.2⟩
     obtain ⟨cs6,σ6,m1,m2,m3,m4,m5⟩:=last25 σ1 σ5 rb v rs' _ b iv rv'' u6 hr' hrb45.2
     simp (decide:=true) only [sN,t0,nilC,fa50,ldv,sameR,hvc.2.2,hL.ix,hfa5,q1,q2,ld77 hA3,beqRec,bs34',bndORec,all2,push_n,q3,bnd_sl,u1,u2,ble12,ldv4,bb,u3,u4,u5,bleR,ldv5,m1,m2,Bool.and_true] at e
     have hl:lineS (rs'++[r]) s=(rs'++[{r with recs:=r.recs++[q]}],oneS {r with recs:=r.recs++[q]}):=by
      simp only [lineS,hh,condF,getLast_snoc,hp,hr,condT,addTo_snoc,hq];rfl
     rw [hl]
     refine ⟨v,σ6,e.trans ((k13_ret _ _).trans ?_),m5.wf,m5.grow,fun _=>⟨m4,m5⟩⟩
     simp (decide:=true) only [sR]
  ·have d7:decide ((s.length:Int)>7)=false:=decide_eq_false (by omega)
   simp (decide:=true) only [sN,d7] at e
   refine asItem ?_ _ (by simp (decide:=true) only [sR,t0]) (by simp (decide:=true) only [sR,t1]) (by simp (decide:=true) only [sR,t5]) e
   rw [hasPre_iff]
   by_cases hq:s.take 7=recHd
   ·right
    have h2:s.length=7:=by
     have:=congrArg List.length hq
     simp [recHd] at this
     omega
    rw [← hq,List.take_of_length_le (by omega)]
   ·exact .inl (decide_eq_false hq)
theorem W13(σ1 σ:St)(rb:Nat)(v:AV)(rs:List RepD)(hlen:rs.length≤400)(hok:∀r∈rs,okRep r)(h:OutR σ1 σ v rs)(hrb:At σ rb (.cells [v] 50 true 1))(hge:σ1.n≤rb)(s:List UInt8)(hs:s.length<480000000):
  Out13 σ1 rb (W 13 [.ptr rb 0,str s] σ) (lineS rs s):=by
 have pull:∀q,Out13 σ1 rb (denK tab W 131 c13 k13 (argE [.ptr rb 0,str s]) σ) q→Out13 σ1 rb (W 13 [.ptr rb 0,str s] σ) q:=by
  rintro q ⟨v',σ',q1,q2⟩
  exact ⟨v',σ',w13 (by simp) q1,q2⟩
 refine pull _ ?_
 have e:=ec13 k13 (.ptr rb 0) (str s) σ
 have w1:IntKind.i64.wrap ((rs.length:Int) - 1)=(rs.length:Int) - 1:=by simp [IntKind.wrap,IntKind.bits,IntKind.signed];omega
 simp only [sN,nilC,fa50,ldV hrb,h.len sl23,w1] at e
 rw [ec13a] at e
 obtain ⟨r,σ2,k1,k2,k3⟩:=W24 s (by omega) σ h.wf
 have hA2:=At.new σ2 (.cells (headC zeroRep) 36 true 6)
 have hst:=st36 (r':=r) hA2
 obtain ⟨σ3,hσ3⟩:∃σ3,σ3=(σ2.push (.cells (headC zeroRep) 36 true 6)).set σ2.n (.cells (headC r) 36 true 6):=⟨_,rfl⟩
 rw [← hσ3] at hst
 have hA3:At σ3 σ2.n (.cells (headC r) 36 true 6):=by rw [hσ3];exact hA2.set_same (WF.push (k2.wf h.wf) _) _
 have hg3:Grow σ σ3:=by rw [hσ3];exact (k2.trans (Grow.push _ _)).set k2.n hA2.1 _
 have h3:=h.step hg3
 have hrb3:=hrb.grow hg3
 have a0:argE [.ptr rb 0,str s] 0= .ptr rb 0:=rfl
 have a1:argE [.ptr rb 0,str s] 1=str s:=rfl
 simp (decide:=true) only [sN,sR,a1,k1,alloc36,hst] at e
 rw [ec13b] at e
 simp (decide:=true) only [sN,sR] at e
 cases hh:(headP s).2 with
 | false=>
  rw [hh] at e
  simp only [condF] at e
  rw [e]
  exact rest13 σ1 σ3 rb v rs hlen hok h3 hrb3 hge s hs hh _ (by simp (decide:=true) only [sR,a0]) (by simp (decide:=true) only [sR,a1]) (by simp (decide:=true) only [sR])
 | true=>
  have hre:=k3 hh
  subst hre
  have hit:(headP s).1.items=[]∧(headP s).1.recs=[]:=by
   unfold headP
   split
   ·split
    ·exact ⟨rfl,rfl⟩
    ·exact ⟨rfl,rfl⟩
   ·exact ⟨rfl,rfl⟩
  obtain ⟨q1,q2,σ4,v',q3,q4,q5,q6,q7,q8⟩:=h.addRep2 hg3 (by omega) (headP s).1 hit.1 hit.2
  have hA4:=q8 σ2.n _ k2.n hA3
  have hrb4:=q7 _ _ _ _ _ (by omega) hrb3
  have hvc:=h.cell
  have hvc':=q6.cell
  have hst4:=stV hrb4 hvc'.1 hvc'.2.1
  obtain ⟨σ5,hσ5⟩:∃σ5,σ5=σ4.set rb (.cells [v'] 50 true 1):=⟨_,rfl⟩
  rw [← hσ5] at hst4
  have hO5:OutR σ1 σ5 v' (rs++[(headP s).1]):=by rw [hσ5];exact q6.set50 hrb4 hge _
  have hrb5:At σ5 rb (.cells [v'] 50 true 1):=by rw [hσ5];exact hrb4.set_same q6.wf _
  have hne:σ2.n≠rb:=by have:=hrb.1;have:=k2.n;omega
  have hA5:At σ5 σ2.n (.cells (headC (headP s).1) 36 true 6):=by rw [hσ5];exact hA4.set_ne hrb4.1 hne _
  have hn5:σ5.n=σ3.n+2:=by rw [hσ5,set_n];exact q4
  have bb:bndA (σ3.n+2) (.ptr rb 0)=true:=bnd_pt _ (by have:=hrb3.1;omega)
  have hl1:((rs++[(headP s).1]).length:Int)=((rs.length+1:Nat):Int):=by simp
  have hlv:=hO5.len sl23
  rw [hl1] at hlv
  rw [hh] at e
  simp (decide:=true) only [sN,a0,nilC,fa50,ldV hrb3,sameR,hvc.2.2,ld36 hA3,beqHead,bs23',bndOHead,all2,push_n,q2,bnd_sl,q3,q4,ble12,bb,q5,hst4,hn5,bleR,ldV hrb5,hlv,Bool.and_true] at e
  cases h4:rs.length==400 with
  | true=>
   have d:decide (((rs.length+1:Nat):Int)>400)=true:=by have:rs.length=400:=(by simpa using h4);exact decide_eq_true (by omega)
   rw [d] at e
   simp only [condT] at e
   have hl:lineS rs s=(rs,6):=by simp only [lineS,hh,condT,h4]
   rw [hl]
   exact ⟨v',σ5,e.trans ((k13_ret _ _).trans (by simp (decide:=true) only [sR])),hO5.wf,hO5.grow,fun h=>by cases h⟩
  | false=>
   have hn4:rs.length≠400:=by simpa using h4
   have d:decide (((rs.length+1:Nat):Int)>400)=false:=decide_eq_false (by omega)
   obtain ⟨σ6,m1,m2⟩:=W25 σ5 hO5.wf _ (headP s).1 (by rw [hit.1];simp) (by rw [hit.2];simp) [] (headR σ5 _ hit.1 hit.2)
   rw [d] at e
   simp only [sN,ld36 hA5,m1] at e
   have hl:lineS rs s=(rs++[(headP s).1],oneS (headP s).1):=by simp only [lineS,hh,condT,h4,condF]
   rw [hl]
   exact ⟨v',σ6,e.trans ((k13_ret _ _).trans (by simp (decide:=true) only [sR])),m2.wf hO5.wf,hO5.grow.trans m2,fun _=>⟨hrb5.grow m2,hO5.step m2⟩⟩
end Go.Proofs.YtahgmmbmmcaejaaGreatDoor
namespace Go.Proofs.YtahgmmbmmcaejaaGreatDoor
open Go Go.Dt
set_option maxRecDepth 100000
theorem u8ne(c:UInt8):(((c.toNat:Nat):Int) !=10)= !(c==10):=by
 rw [bne]
 congr 1
 exact u8eq c 10
theorem loop6i(s:List UInt8)(hs:s.length<490000000)(σ:St):∀(m i:Nat),i+m=s.length→∀(T:Rg),T 0=str s→T 6=intV .i64 (i:Int)→∀(x3 x4 x5:AV),T 3=x3→T 4=x4→T 5=x5→
  ∃T',loopLim (dd tab W 53 c6d) T σ= .ok (.exit 2 T' σ)∧T' 0=str s∧T' 3=x3∧T' 4=x4∧T' 5=x5∧T' 6=intV .i64 ((i+(match ixB (s.drop i) 10 with | some k=>k | none=>s.length - i):Nat):Int):=by
 intro m
 induction m with
 | zero=>
  intro i hi T t0 t6 x3 x4 x5 h3 h4 h5
  have e:=ec6d kOc T σ
  have d:decide ((i:Int)<(s.length:Int))=false:=decide_eq_false (by omega)
  simp only [sN,pickV_boolV,t0,t6,d] at e
  have hz:i+(match ixB (s.drop i) 10 with | some k=>k | none=>s.length - i)=i:=by
   rw [List.drop_eq_nil_of_le (by omega:s.length≤i)]
   show i+(s.length - i)=i
   omega
  rw [hz]
  refine ⟨_,loop_exit (dd_of tab W 53 e),?_,?_,?_,?_,?_⟩<;>simp (decide:=true) only [sR,t0,h3,h4,h5,t6]
 | succ m ih=>
  intro i hi T t0 t6 x3 x4 x5 h3 h4 h5
  have hil:i<s.length:=by omega
  obtain ⟨c,hc⟩:∃c,s[i]? =some c:=⟨s[i],List.getElem?_eq_getElem hil⟩
  have hd:s.drop i=c::s.drop (i+1):=by
   rw [List.drop_eq_getElem_cons hil]
   rw [List.getElem?_eq_getElem hil] at hc
   rw [Option.some.inj hc]
  have e:=ec6d kOc T σ
  have d:decide ((i:Int)<(s.length:Int))=true:=decide_eq_true (by omega)
  have w1:IntKind.i64.wrap ((i:Int)+1)=((i+1:Nat):Int):=i64_add1 i (by omega)
  simp only [sN,pickV_boolV,t0,t6,d,indexS s i c hc,u8ne,w1] at e
  rw [hd]
  cases hq:c==10 with
  | true=>
   rw [hq] at e
   simp only [sN] at e
   have hz:ixB (c::s.drop (i+1)) 10=some 0:=by simp [ixB,List.findIdx?_cons,hq]
   rw [hz]
   refine ⟨_,loop_exit (dd_of tab W 53 e),?_,?_,?_,?_,?_⟩<;>simp (decide:=true) only [sR,t0,h3,h4,h5,t6,Nat.add_zero]
  | false=>
   rw [hq] at e
   simp only [sN] at e
   have hz:ixB (c::s.drop (i+1)) 10=(ixB (s.drop (i+1)) 10).map (· +1):=by simp [ixB,List.findIdx?_cons,hq]
   have key:∃T1,denK tab W 53 c6d kOc T σ= .ok (.nxt T1 σ)∧T1 0=str s∧T1 3=x3∧T1 4=x4∧T1 5=x5∧T1 6=intV .i64 ((i+1:Nat):Int):=by
    refine ⟨_,e,?_,?_,?_,?_,?_⟩<;>simp (decide:=true) only [sR,t0,h3,h4,h5]
   obtain ⟨T1,e1,k0,k3,k4,k5,k6⟩:=key
   obtain ⟨T',q1,q2,q3,q4,q5,q6⟩:=ih (i+1) (by omega) T1 k0 k6 x3 x4 x5 k3 k4 k5
   refine ⟨T',loop_next (dd_of tab W 53 e1) q1,q2,q3,q4,q5,?_⟩
   rw [q6,hz]
   cases hx:ixB (s.drop (i+1)) 10 with
   | none=>
    show intV .i64 ((i+1+(s.length - (i+1)):Nat):Int)=intV .i64 ((i+(s.length - i):Nat):Int)
    rw [show i+1+(s.length - (i+1))=i+(s.length - i) by omega]
   | some k=>
    show intV .i64 ((i+1+k:Nat):Int)=intV .i64 ((i+(k+1):Nat):Int)
    rw [show i+1+k=i+(k+1) by omega]
def LoopEnd6(σ0 σ1:St)(b3 rb:Nat)(y:R Oc)(q:Option (Int×Nat)×List RepD):Prop:=match q with
 | (none,rs)=>∃T' σ' v',y= .ok (.exit 0 T' σ')∧T' 3= .ptr b3 0∧T' 4= .ptr rb 0∧At σ' rb (.cells [v'] 50 true 1)∧OutR σ1 σ' v' rs
 | (some (e,a),_)=>∃T' σ',y= .ok (.ret T' σ')∧T' 2=nilS∧T' 3= .ptr b3 0∧At σ' b3 (.cells [intV .i64 e,intV .i64 (a:Int)] 26 true 2)∧WF σ'∧Grow σ0 σ'
theorem cut_some{l:List UInt8}{k:Nat}(h:ixB l 10=some k):cutB l 10=(l.take k,l.drop (k+1),true):=by unfold cutB;rw [h]
theorem cut_none{l:List UInt8}(h:ixB l 10=none):cutB l 10=(l,[],false):=by unfold cutB;rw [h]
theorem loop6(s:List UInt8)(hs:s.length<480000000)(σ0 σ1:St)(b3 rb:Nat)(hb:At σ1 b3 (.cells [intV .i64 0,intV .i64 0] 26 true 2))(hb0:σ0.n≤b3)(hg01:Grow σ0 σ1)(hge:σ1.n≤rb):∀(n at':Nat),s.length<at'+n→at'≤s.length+1→∀(rs:List RepD) (v:AV) (T:Rg) (σ:St),OutR σ1 σ v rs→At σ rb (.cells [v] 50 true 1)→rs.length≤400→(∀r∈rs,okRep r)→
  T 0=str s→T 3= .ptr b3 0→T 4= .ptr rb 0→T 5=intV .i64 (at':Int)→LoopEnd6 σ0 σ1 b3 rb (loopLim (dd tab W 53 c6b) T σ) (parseL n s at' rs):=by
 intro n
 induction n with
 | zero=>
  intro at' hn hle rs v T σ hO hrb hlen hok t0 t3 t4 t5
  have e:=ec6b kOc T σ
  have d:decide ((at':Int)<(s.length:Int))=false:=decide_eq_false (by omega)
  simp only [sN,t0,t5,d] at e
  exact ⟨_,σ,v,loop_exit (dd_of tab W 53 e),by simp (decide:=true) only [sR,t3],by simp (decide:=true) only [sR,t4],hrb,hO⟩
 | succ n ih=>
  intro at' hn hle rs v T σ hO hrb hlen hok t0 t3 t4 t5
  have e:=ec6b kOc T σ
  unfold parseL
  by_cases hat:s.length≤at'
  ·have d:decide ((at':Int)<(s.length:Int))=false:=decide_eq_false (by omega)
   simp only [sN,t0,t5,d] at e
   rw [if_pos hat]
   exact ⟨_,σ,v,loop_exit (dd_of tab W 53 e),by simp (decide:=true) only [sR,t3],by simp (decide:=true) only [sR,t4],hrb,hO⟩
  ·have d:decide ((at':Int)<(s.length:Int))=true:=decide_eq_true (by omega)
   rw [if_neg hat]
   dsimp only
   simp only [sN,t0,t5,d] at e
   generalize hT:puts 53 T _=Ti at e
   obtain ⟨T6,y1,y0,y3,y4,y5,y6⟩:=loop6i s (by omega) σ (s.length - at') at' (by omega) Ti (by rw [← hT];simp (decide:=true) only [sR,t0]) (by rw [← hT];simp (decide:=true) only [sR]) (.ptr b3 0) (.ptr rb 0) (intV .i64 (at':Int)) (by rw [← hT];simp (decide:=true) only [sR,t3]) (by rw [← hT];simp (decide:=true) only [sR,t4]) (by rw [← hT];simp (decide:=true) only [sR,t5])
   rw [y1] at e
   simp (decide:=true) only [sN,if_true] at e
   rw [ec6e] at e
   have stop:∀(σ2:St) (E:Int) (T2:Rg),(E !=0)=true→WF σ2→Grow σ1 σ2→T2 3= .ptr b3 0→T2 5=intV .i64 (at':Int)→T2 7=intV .i64 E→denK tab W 53 c6b kOc T σ=denK tab W 53 c6f (kblk 1 kOc) T2 σ2→
     LoopEnd6 σ0 σ1 b3 rb (loopLim (dd tab W 53 c6b) T σ) (some (E,at'),[]):=by
    intro σ2 E T2 hE hw hg m3 m5 m7 hT2
    rw [ec6f] at hT2
    have hb2:=hb.grow hg
    simp only [sN,m7,hE,m5,build26,m3,st26 hb2] at hT2
    exact ⟨_,_,loop_ret (dd_of tab W 53 hT2),by simp (decide:=true) only [sR];rfl,by simp (decide:=true) only [sR,m3],hb2.set_same hw _,hw.set _ _,(hg01.trans hg).set hb0 hb2.1 _⟩
   cases hix:ixB (s.drop at') 10 with
   | none=>
    rw [hix] at y6
    simp only at y6
    have hfull:((at'+(s.length - at'):Nat):Int)=(s.length:Int):=by omega
    rw [hfull] at y6
    have d2:decide ((s.length:Int)<(s.length:Int))=false:=decide_eq_false (by omega)
    simp only [sN,y6,y0,d2] at e
    rw [cut_none hix]
    simp only [condF]
    have h3:((3:Int) !=0)=true:=rfl
    simp only [h3,condT]
    exact stop σ 3 _ h3 hO.wf hO.grow (by simp (decide:=true) only [sR,y3]) (by simp (decide:=true) only [sR,y5]) (by simp (decide:=true) only [sR]) e
   | some k=>
    have hkl:=ixB_lt hix
    simp only [List.length_drop] at hkl
    rw [hix] at y6
    simp only at y6
    have d2:decide (((at'+k:Nat):Int)<(s.length:Int))=true:=decide_eq_true (by omega)
    rw [cut_some hix]
    simp only [condT]
    obtain ⟨v2,σ2,q1,q2,q3,q4⟩:=W13 σ1 σ rb v rs hlen hok hO hrb hge ((s.drop at').take k) (by simp;omega)
    simp only [sN,y6,y0,d2,y4,y5,sliceS2 s at' k (by omega),q1] at e
    have htl:((s.drop at').take k).length=k:=by rw [List.length_take,List.length_drop];omega
    cases hz:(lineS rs ((s.drop at').take k)).2 !=0 with
    | true=>
     simp only [condT]
     exact stop σ2 _ _ hz q2 q3 (by simp (decide:=true) only [sR,y3]) (by simp (decide:=true) only [sR,y5]) (by simp (decide:=true) only [sR]) e
    | false=>
     have hz0:(lineS rs ((s.drop at').take k)).2=0:=by simpa using hz
     simp only [condF]
     obtain ⟨l1,l2⟩:=lineS_ok hlen hok hz0
     obtain ⟨q5,q6⟩:=q4 hz0
     rw [htl]
     rw [ec6f] at e
     have dz:((0:Int) !=0)=false:=rfl
     have w1:IntKind.i64.wrap (((at'+k:Nat):Int)+1)=((at'+k+1:Nat):Int):=i64_add1 _ (by omega)
     simp (decide:=true) only [sN,sR,hz0,dz,y6,w1] at e
     have key:∃T1,denK tab W 53 c6b kOc T σ= .ok (.nxt T1 σ2)∧T1 0=str s∧T1 3= .ptr b3 0∧T1 4= .ptr rb 0∧T1 5=intV .i64 ((at'+k+1:Nat):Int):=by
      refine ⟨_,e,?_,?_,?_,?_⟩<;>simp (decide:=true) only [sR,y0,y3,y4]
     obtain ⟨T1,e1,n0,n3,n4,n5⟩:=key
     have kk:=ih (at'+k+1) (by omega) (by omega) _ v2 T1 σ2 q6 q5 l1 l2 n0 n3 n4 n5
     unfold LoopEnd6 at kk ⊢
     split at kk
     ·rename_i rs3 hq
      obtain ⟨T',σ',v',z1,z2⟩:=kk
      exact ⟨T',σ',v',loop_next (dd_of tab W 53 e1) z1,z2⟩
     ·rename_i e3 a3 x3 hq
      obtain ⟨T',σ',z1,z2⟩:=kk
      exact ⟨T',σ',loop_next (dd_of tab W 53 e1) z1,z2⟩
theorem build50:Dt.build tab 50 []= .ok (.agg [nilS]):=by kernel_rfl
theorem box50(b:Nat):boxA tab 50 (.agg [nilS]) b= .ok (.ptr b 0,.cells [nilS] 50 true 1):=by kernel_rfl
theorem W6(s:List UInt8)(hs:s.length<480000000)(σ:St)(hw:WF σ):ParseR σ (W 6 [str s] σ) (parseS s):=by
 have e:=ec6 k99 (str s) σ
 obtain ⟨σ1,hσ1⟩:∃σ1,σ1=σ.push (.cells [intV .i64 0,intV .i64 0] 26 true 2):=⟨_,rfl⟩
 have hA1:At σ1 σ.n (.cells [intV .i64 0,intV .i64 0] 26 true 2):=by rw [hσ1];exact At.new _ _
 have hw1:WF σ1:=by rw [hσ1];exact WF.push hw _
 have hg1:Grow σ σ1:=by rw [hσ1];exact Grow.push _ _
 simp only [sN,alloc26,← hσ1] at e
 unfold parseS
 have a0:argE [str s] 0=str s:=rfl
 by_cases hl:20000<s.length
 ·have d:decide ((s.length:Int)>20000)=true:=decide_eq_true (by omega)
  rw [if_pos hl]
  simp only [sN,d,build26,st26 hA1] at e
  have hA2:=hA1.set_same hw1 (.cells [intV .i64 4,intV .i64 20000] 26 true 2)
  exact ⟨nilS,_,w6 (by simp) (e.trans (ret99 (by simp (decide:=true) only [sR];rfl) (by simp (decide:=true) only [sR]) (load26 hA2.1 hA2.2))),OutR.nil (hw1.set _ _) (hg1.set (Nat.le_refl _) hA1.1 _)⟩
 ·have d:decide ((s.length:Int)>20000)=false:=decide_eq_false (by omega)
  rw [if_neg hl]
  simp only [sN,d] at e
  rw [ec6a] at e
  simp only [sN,build50,box50] at e
  obtain ⟨σ2,hσ2⟩:∃σ2,σ2=σ1.push (.cells [nilS] 50 true 1):=⟨_,rfl⟩
  have hrb:At σ2 σ1.n (.cells [nilS] 50 true 1):=by rw [hσ2];exact At.new _ _
  have hg2:Grow σ1 σ2:=by rw [hσ2];exact Grow.push _ _
  rw [← hσ2] at e
  generalize hT:puts 53 (puts 53 _ _) _=T at e
  have k:=loop6 s hs σ σ1 σ.n σ1.n hA1 (Nat.le_refl _) hg1 (Nat.le_refl _) (s.length+1) 0 (by omega) (by omega) [] nilS T σ2 (OutR.nil (hg2.wf hw1) hg2) hrb (by simp) (by simp)
   (by rw [← hT];simp (decide:=true) only [sR,a0]) (by rw [← hT];simp (decide:=true) only [sR]) (by rw [← hT];simp (decide:=true) only [sR]) (by rw [← hT];simp (decide:=true) only [sR];rfl)
  unfold LoopEnd6 at k
  split at k
  ·rename_i rs hq
   obtain ⟨T',σ',v',z1,z3,z4,z45,z5⟩:=k
   rw [hq]
   rw [z1] at e
   have hb:=hA1.grow z5.grow
   simp (decide:=true) only [sN,if_true,ec6c,z3,z4,nilC,fa50,ldV z45,build26_0,st26 hb] at e
   have hb':=hb.set_same z5.wf (.cells [intV .i64 0,intV .i64 0] 26 true 2)
   refine ⟨v',_,w6 (by simp) (e.trans (ret99 (by simp (decide:=true) only [sR]) (by simp (decide:=true) only [sR,z3]) (load26 hb'.1 hb'.2))),?_⟩
   obtain ⟨rows,f0,fs,k1,k2,k3,k4⟩:=z5.is
   have hm:Mod [σ.n] σ' (σ'.set σ.n (.cells [intV .i64 0,intV .i64 0] 26 true 2)):=Mod.set (by simp) hb.1 _
   have hge:∀y∈f0++fs.flatten,y∉[σ.n]:=by
    intro y hy h1
    simp only [List.mem_singleton] at h1
    have:=k4 y hy
    have hn:σ1.n=σ.n+1:=by rw [hσ1];rfl
    omega
   exact ⟨z5.wf.set _ _,(hg1.trans z5.grow).set (Nat.le_refl _) hb.1 _,rows,f0,fs,k1.mod hm (fun y hy=>hge y (List.mem_append_left _ hy)),k2.mod hm (fun y hy=>hge y (List.mem_append_right _ hy)),k3,fun y hy=>Nat.le_trans hg1.n (k4 y hy)⟩
  ·rename_i e3 a3 x3 hq
   obtain ⟨T',σ',z1,z2,z3,z4,z5,z6⟩:=k
   rw [z1] at e
   simp (decide:=true) only [sN] at e
   have hx:(parseL (s.length+1) s 0 []).2=[]:=parseL_nil _ _ _ _ (e3,a3) (by rw [hq])
   rw [hq] at hx
   have hx':x3=[]:=hx
   subst hx'
   rw [hq]
   exact ⟨nilS,σ',w6 (by simp) (e.trans (ret99 z2 z3 (load26 z4.1 z4.2))),OutR.nil z5 z6⟩
end Go.Proofs.YtahgmmbmmcaejaaGreatDoor
namespace Go.Proofs.YtahgmmbmmcaejaaGreatDoor
open Go Go.Dt
set_option maxRecDepth 100000
def ifR(b:Bool)(x:R Bool):R Bool:=if b=true then x else .ok false
theorem ifR_t(x:R Bool):ifR true x=x:=rfl
theorem ne74(a b c d:Int):Dt.binOp tab .neq 74 (.agg [intV .u64 a,intV .u64 b]) (.agg [intV .u64 c,intV .u64 d]) false=bindR (ifR (a==c) (ifR (b==d) (.ok true))) (fun e=> .ok (boolV (!e))):=by kernel_rfl
theorem eq26(a b c d:Int):Dt.binOp tab .eql 26 (.agg [intV .i64 a,intV .i64 b]) (.agg [intV .i64 c,intV .i64 d]) false=bindR (ifR (a==c) (ifR (b==d) (.ok true))) (fun e=> .ok (boolV e)):=by kernel_rfl
theorem ne77(a b c d e f a' b' c' d' e' f':Int):Dt.binOp tab .neq 77 (.agg [intV .i64 a,intV .u64 b,intV .u64 c,intV .u64 d,intV .u64 e,intV .u64 f]) (.agg [intV .i64 a',intV .u64 b',intV .u64 c',intV .u64 d',intV .u64 e',intV .u64 f']) false=
  bindR (ifR (a==a') (bindR (ifR (b==b') (ifR (c==c') (.ok true))) fun r=>ifR r (ifR (d==d') (ifR (e==e') (ifR (f==f') (.ok true)))))) (fun e=> .ok (boolV (!e))):=by kernel_rfl
theorem ne74s(p:Int×Int):Dt.binOp tab .neq 74 (.agg (idC p)) (.agg (idC p)) false= .ok (boolV false):=by
 have:=ne74 p.1 p.2 p.1 p.2
 simp only [beq_self_eq_true,ifR_t,bindR_val,Bool.not_true] at this
 exact this
theorem eq26s(a b:Int):Dt.binOp tab .eql 26 (.agg [intV .i64 a,intV .i64 b]) (.agg [intV .i64 a,intV .i64 b]) false= .ok (boolV true):=by
 have:=eq26 a b a b
 simp only [beq_self_eq_true,ifR_t,bindR_val] at this
 exact this
theorem ne77s(r:RecD):Dt.binOp tab .neq 77 (.agg (recC r)) (.agg (recC r)) false= .ok (boolV false):=by
 have:=ne77 r.rule r.evL r.evN r.old r.new r.tick r.rule r.evL r.evN r.old r.new r.tick
 simp only [beq_self_eq_true,ifR_t,bindR_val,Bool.not_true] at this
 exact this
end Go.Proofs.YtahgmmbmmcaejaaGreatDoor
namespace Go.Proofs.YtahgmmbmmcaejaaGreatDoor
open Go Go.Dt
set_option maxRecDepth 100000
theorem beqId(p:Int×Int):beqA (.agg (idC p)) (.agg (idC p))=true:=by simp [idC,beqA,beqL,intV,beqBase]
theorem loop85(σ:St)(xs:List (Int×Int))(v1 v2:AV)(g1' g2':List Nat)(h1:Vec σ 74 2 xs.length v1 (flat idC xs) g1')(h2:Vec σ 74 2 xs.length v2 (flat idC xs) g2')(hn:xs.length<5000000000):∀(m i:Nat),i+m=xs.length→∀(T:Rg),T 0=v1→T 1=v2→T 5=intV .i64 (i:Int)→
  ∃T',loopLim (dd tab W 26 c85a) T σ= .ok (.exit 0 T' σ):=by
 intro m
 induction m with
 | zero=>
  intro i hi T t0 t1 t5
  have e:=ec85a kOc T σ
  have d:decide ((i:Int)<(xs.length:Int))=false:=decide_eq_false (by omega)
  simp only [sN,t0,t5,h1.lenV sl37,d] at e
  exact ⟨_,loop_exit (dd_of tab W 26 e)⟩
 | succ m ih=>
  intro i hi T t0 t1 t5
  have hil:i<xs.length:=by omega
  have hx:xs[i]? =some xs[i]:=List.getElem?_eq_getElem hil
  obtain ⟨x,hxe⟩:∃x,xs[i]=x:=⟨_,rfl⟩
  rw [hxe] at hx
  obtain ⟨b1,rfl,A1,_⟩:=h1.at hil
  obtain ⟨b2,rfl,A2,_⟩:=h2.at hil
  have e:=ec85a kOc T σ
  have d:decide ((i:Int)<(xs.length:Int))=true:=decide_eq_true (by omega)
  have w1:IntKind.i64.wrap ((i:Int)+1)=((i+1:Nat):Int):=i64_add1 i (by omega)
  have ld1:loadV tab σ 74 (.ptr b1 (i*2))= .ok (.agg (idC x)):=lda a74 A1 (flat_at idC 2 idC_len _ i x hx) rfl
  have ld2:loadV tab σ 74 (.ptr b2 (i*2))= .ok (.agg (idC x)):=lda a74 A2 (flat_at idC 2 idC_len _ i x hx) rfl
  simp only [sN,t0,t1,t5,len_sl sl37,d,ixA0 el37 hil,ld1,ld2,sameR,beqId,ne74s,w1,Bool.and_true] at e
  have key:∃T1,denK tab W 26 c85a kOc T σ= .ok (.nxt T1 σ)∧T1 0= .slice b1 0 xs.length none 2∧T1 1= .slice b2 0 xs.length none 2∧T1 5=intV .i64 ((i+1:Nat):Int):=by
   refine ⟨_,e,?_,?_,?_⟩<;>simp (decide:=true) only [sR,t0,t1]
  obtain ⟨T1,e1,k0,k1,k5⟩:=key
  obtain ⟨T',q⟩:=ih (i+1) (by omega) T1 k0 k1 k5
  exact ⟨T',loop_next (dd_of tab W 26 e1) q⟩
theorem W85(σ:St)(xs:List (Int×Int))(v1 v2:AV)(g1' g2':List Nat)(h1:Vec σ 74 2 xs.length v1 (flat idC xs) g1')(h2:Vec σ 74 2 xs.length v2 (flat idC xs) g2')(hn:xs.length<5000000000):W 85 [v1,v2] σ= .ok (.ret (boolV true),σ):=by
 refine w85 (by simp) ?_
 have e:=ec85 (kRet tab [.tmp 4]) v1 v2 σ
 have d:((xs.length:Int) !=(xs.length:Int))=false:=by simp
 simp only [sN,h1.lenV sl37,h2.lenV sl37,d] at e
 rw [e]
 have a0:argE [v1,v2] 0=v1:=rfl
 have a1:argE [v1,v2] 1=v2:=rfl
 generalize hT:puts 26 _ _=T
 obtain ⟨T',q⟩:=loop85 σ xs v1 v2 g1' g2' h1 h2 hn xs.length 0 (by omega) T (by rw [← hT];simp (decide:=true) only [sR,a0]) (by rw [← hT];simp (decide:=true) only [sR,a1]) (by rw [← hT];simp (decide:=true) only [sR];rfl)
 rw [q]
 simp (decide:=true) only [sN,if_true,ec85b,r85,sR]
theorem loop86(σ:St)(xs:List Int)(v1 v2:AV)(g1' g2':List Nat)(h1:Vec σ 3 1 xs.length v1 (flat i1C xs) g1')(h2:Vec σ 3 1 xs.length v2 (flat i1C xs) g2')(hn:xs.length<5000000000):∀(m i:Nat),i+m=xs.length→∀(T:Rg),T 0=v1→T 1=v2→T 5=intV .i64 (i:Int)→
  ∃T',loopLim (dd tab W 26 c86a) T σ= .ok (.exit 0 T' σ):=by
 intro m
 induction m with
 | zero=>
  intro i hi T t0 t1 t5
  have e:=ec86a kOc T σ
  have d:decide ((i:Int)<(xs.length:Int))=false:=decide_eq_false (by omega)
  simp only [sN,t0,t5,h1.lenV sl38,d] at e
  exact ⟨_,loop_exit (dd_of tab W 26 e)⟩
 | succ m ih=>
  intro i hi T t0 t1 t5
  have hil:i<xs.length:=by omega
  have hx:xs[i]? =some xs[i]:=List.getElem?_eq_getElem hil
  obtain ⟨x,hxe⟩:∃x,xs[i]=x:=⟨_,rfl⟩
  rw [hxe] at hx
  obtain ⟨b1,rfl,A1,_⟩:=h1.at hil
  obtain ⟨b2,rfl,A2,_⟩:=h2.at hil
  have e:=ec86a kOc T σ
  have d:decide ((i:Int)<(xs.length:Int))=true:=decide_eq_true (by omega)
  have w1:IntKind.i64.wrap ((i:Int)+1)=((i+1:Nat):Int):=i64_add1 i (by omega)
  have ld1:loadV tab σ 3 (.ptr b1 (i*1))= .ok (intV .i64 x):=ld l3 A1 (flat_get i1C 1 i1C_len _ i 0 x _ hx (by omega) rfl)
  have ld2:loadV tab σ 3 (.ptr b2 (i*1))= .ok (intV .i64 x):=ld l3 A2 (flat_get i1C 1 i1C_len _ i 0 x _ hx (by omega) rfl)
  have dz:(x !=x)=false:=by simp
  simp only [sN,t0,t1,t5,len_sl sl38,d,ixA0 el38 hil,ld1,ld2,sameR,beqI,dz,w1,Bool.and_true] at e
  have key:∃T1,denK tab W 26 c86a kOc T σ= .ok (.nxt T1 σ)∧T1 0= .slice b1 0 xs.length none 1∧T1 1= .slice b2 0 xs.length none 1∧T1 5=intV .i64 ((i+1:Nat):Int):=by
   refine ⟨_,e,?_,?_,?_⟩<;>simp (decide:=true) only [sR,t0,t1]
  obtain ⟨T1,e1,k0,k1,k5⟩:=key
  obtain ⟨T',q⟩:=ih (i+1) (by omega) T1 k0 k1 k5
  exact ⟨T',loop_next (dd_of tab W 26 e1) q⟩
theorem W86(σ:St)(xs:List Int)(v1 v2:AV)(g1' g2':List Nat)(h1:Vec σ 3 1 xs.length v1 (flat i1C xs) g1')(h2:Vec σ 3 1 xs.length v2 (flat i1C xs) g2')(hn:xs.length<5000000000):W 86 [v1,v2] σ= .ok (.ret (boolV true),σ):=by
 refine w86 (by simp) ?_
 have e:=ec86 (kRet tab [.tmp 4]) v1 v2 σ
 have d:((xs.length:Int) !=(xs.length:Int))=false:=by simp
 simp only [sN,h1.lenV sl38,h2.lenV sl38,d] at e
 rw [e]
 have a0:argE [v1,v2] 0=v1:=rfl
 have a1:argE [v1,v2] 1=v2:=rfl
 generalize hT:puts 26 _ _=T
 obtain ⟨T',q⟩:=loop86 σ xs v1 v2 g1' g2' h1 h2 hn xs.length 0 (by omega) T (by rw [← hT];simp (decide:=true) only [sR,a0]) (by rw [← hT];simp (decide:=true) only [sR,a1]) (by rw [← hT];simp (decide:=true) only [sR];rfl)
 rw [q]
 simp (decide:=true) only [sN,if_true,ec86b,r86,sR]
theorem loop87(σ:St)(xs:List Int)(v1 v2:AV)(g1' g2':List Nat)(h1:Vec σ 2 1 xs.length v1 (flat i1C xs) g1')(h2:Vec σ 2 1 xs.length v2 (flat i1C xs) g2')(hn:xs.length<5000000000):∀(m i:Nat),i+m=xs.length→∀(T:Rg),T 0=v1→T 1=v2→T 5=intV .i64 (i:Int)→
  ∃T',loopLim (dd tab W 26 c87a) T σ= .ok (.exit 0 T' σ):=by
 intro m
 induction m with
 | zero=>
  intro i hi T t0 t1 t5
  have e:=ec87a kOc T σ
  have d:decide ((i:Int)<(xs.length:Int))=false:=decide_eq_false (by omega)
  simp only [sN,t0,t5,h1.lenV sl39,d] at e
  exact ⟨_,loop_exit (dd_of tab W 26 e)⟩
 | succ m ih=>
  intro i hi T t0 t1 t5
  have hil:i<xs.length:=by omega
  have hx:xs[i]? =some xs[i]:=List.getElem?_eq_getElem hil
  obtain ⟨x,hxe⟩:∃x,xs[i]=x:=⟨_,rfl⟩
  rw [hxe] at hx
  obtain ⟨b1,rfl,A1,_⟩:=h1.at hil
  obtain ⟨b2,rfl,A2,_⟩:=h2.at hil
  have e:=ec87a kOc T σ
  have d:decide ((i:Int)<(xs.length:Int))=true:=decide_eq_true (by omega)
  have w1:IntKind.i64.wrap ((i:Int)+1)=((i+1:Nat):Int):=i64_add1 i (by omega)
  have ld1:loadV tab σ 2 (.ptr b1 (i*1))= .ok (intV .i64 x):=ld l2 A1 (flat_get i1C 1 i1C_len _ i 0 x _ hx (by omega) rfl)
  have ld2:loadV tab σ 2 (.ptr b2 (i*1))= .ok (intV .i64 x):=ld l2 A2 (flat_get i1C 1 i1C_len _ i 0 x _ hx (by omega) rfl)
  have dz:(x !=x)=false:=by simp
  simp only [sN,t0,t1,t5,len_sl sl39,d,ixA0 el39 hil,ld1,ld2,sameR,beqI,dz,w1,Bool.and_true] at e
  have key:∃T1,denK tab W 26 c87a kOc T σ= .ok (.nxt T1 σ)∧T1 0= .slice b1 0 xs.length none 1∧T1 1= .slice b2 0 xs.length none 1∧T1 5=intV .i64 ((i+1:Nat):Int):=by
   refine ⟨_,e,?_,?_,?_⟩<;>simp (decide:=true) only [sR,t0,t1]
  obtain ⟨T1,e1,k0,k1,k5⟩:=key
  obtain ⟨T',q⟩:=ih (i+1) (by omega) T1 k0 k1 k5
  exact ⟨T',loop_next (dd_of tab W 26 e1) q⟩
theorem W87(σ:St)(xs:List Int)(v1 v2:AV)(g1' g2':List Nat)(h1:Vec σ 2 1 xs.length v1 (flat i1C xs) g1')(h2:Vec σ 2 1 xs.length v2 (flat i1C xs) g2')(hn:xs.length<5000000000):W 87 [v1,v2] σ= .ok (.ret (boolV true),σ):=by
 refine w87 (by simp) ?_
 have e:=ec87 (kRet tab [.tmp 4]) v1 v2 σ
 have d:((xs.length:Int) !=(xs.length:Int))=false:=by simp
 simp only [sN,h1.lenV sl39,h2.lenV sl39,d] at e
 rw [e]
 have a0:argE [v1,v2] 0=v1:=rfl
 have a1:argE [v1,v2] 1=v2:=rfl
 generalize hT:puts 26 _ _=T
 obtain ⟨T',q⟩:=loop87 σ xs v1 v2 g1' g2' h1 h2 hn xs.length 0 (by omega) T (by rw [← hT];simp (decide:=true) only [sR,a0]) (by rw [← hT];simp (decide:=true) only [sR,a1]) (by rw [← hT];simp (decide:=true) only [sR];rfl)
 rw [q]
 simp (decide:=true) only [sN,if_true,ec87b,r87,sR]
theorem loop29(σ:St)(xs:List RecD)(v1 v2:AV)(g1' g2':List Nat)(h1:Vec σ 77 6 xs.length v1 (flat recC xs) g1')(h2:Vec σ 77 6 xs.length v2 (flat recC xs) g2')(hn:xs.length<5000000000):∀(m i:Nat),i+m=xs.length→∀(T:Rg),T 0=v1→T 1=v2→T 5=intV .i64 (i:Int)→
  ∃T',loopLim (dd tab W 26 c29a) T σ= .ok (.exit 0 T' σ):=by
 intro m
 induction m with
 | zero=>
  intro i hi T t0 t1 t5
  have e:=ec29a kOc T σ
  have d:decide ((i:Int)<(xs.length:Int))=false:=decide_eq_false (by omega)
  simp only [sN,t0,t5,h1.lenV sl34,d] at e
  exact ⟨_,loop_exit (dd_of tab W 26 e)⟩
 | succ m ih=>
  intro i hi T t0 t1 t5
  have hil:i<xs.length:=by omega
  have hx:xs[i]? =some xs[i]:=List.getElem?_eq_getElem hil
  obtain ⟨x,hxe⟩:∃x,xs[i]=x:=⟨_,rfl⟩
  rw [hxe] at hx
  obtain ⟨b1,rfl,A1,_⟩:=h1.at hil
  obtain ⟨b2,rfl,A2,_⟩:=h2.at hil
  have e:=ec29a kOc T σ
  have d:decide ((i:Int)<(xs.length:Int))=true:=decide_eq_true (by omega)
  have w1:IntKind.i64.wrap ((i:Int)+1)=((i+1:Nat):Int):=i64_add1 i (by omega)
  have ld1:loadV tab σ 77 (.ptr b1 (i*6))= .ok (.agg (recC x)):=lda a77 A1 (flat_at recC 6 recC_len _ i x hx) rfl
  have ld2:loadV tab σ 77 (.ptr b2 (i*6))= .ok (.agg (recC x)):=lda a77 A2 (flat_at recC 6 recC_len _ i x hx) rfl
  simp only [sN,t0,t1,t5,len_sl sl34,d,ixA0 el34 hil,ld1,ld2,sameR,beqRec,ne77s,w1,Bool.and_true] at e
  have key:∃T1,denK tab W 26 c29a kOc T σ= .ok (.nxt T1 σ)∧T1 0= .slice b1 0 xs.length none 6∧T1 1= .slice b2 0 xs.length none 6∧T1 5=intV .i64 ((i+1:Nat):Int):=by
   refine ⟨_,e,?_,?_,?_⟩<;>simp (decide:=true) only [sR,t0,t1]
  obtain ⟨T1,e1,k0,k1,k5⟩:=key
  obtain ⟨T',q⟩:=ih (i+1) (by omega) T1 k0 k1 k5
  exact ⟨T',loop_next (dd_of tab W 26 e1) q⟩
theorem W29(σ:St)(xs:List RecD)(v1 v2:AV)(g1' g2':List Nat)(h1:Vec σ 77 6 xs.length v1 (flat recC xs) g1')(h2:Vec σ 77 6 xs.length v2 (flat recC xs) g2')(hn:xs.length<5000000000):W 29 [v1,v2] σ= .ok (.ret (boolV true),σ):=by
 refine w29 (by simp) ?_
 have e:=ec29 (kRet tab [.tmp 4]) v1 v2 σ
 have d:((xs.length:Int) !=(xs.length:Int))=false:=by simp
 simp only [sN,h1.lenV sl34,h2.lenV sl34,d] at e
 rw [e]
 have a0:argE [v1,v2] 0=v1:=rfl
 have a1:argE [v1,v2] 1=v2:=rfl
 generalize hT:puts 26 _ _=T
 obtain ⟨T',q⟩:=loop29 σ xs v1 v2 g1' g2' h1 h2 hn xs.length 0 (by omega) T (by rw [← hT];simp (decide:=true) only [sR,a0]) (by rw [← hT];simp (decide:=true) only [sR,a1]) (by rw [← hT];simp (decide:=true) only [sR];rfl)
 rw [q]
 simp (decide:=true) only [sN,if_true,ec29b,r29,sR]
end Go.Proofs.YtahgmmbmmcaejaaGreatDoor
namespace Go.Proofs.YtahgmmbmmcaejaaGreatDoor
open Go Go.Dt
set_option maxRecDepth 100000
theorem beqS(n:Int):(n==n)=true:=by simp
theorem W61(σ:St)(cs1 cs2:List AV)(x:ItemD)(hs:x.small)(f1 f2:List Nat)(h1:ItemR σ cs1 x f1)(h2:ItemR σ cs2 x f2):∃σ',W 61 [.agg cs1,.agg cs2] σ= .ok (.ret (boolV true),σ')∧Grow σ σ':=by
 obtain ⟨iv1,av1,vv1,_,_,_,rfl,i1,a1,v1,_⟩:=h1.is
 obtain ⟨iv2,av2,vv2,_,_,_,rfl,i2,a2,v2,_⟩:=h2.is
 obtain ⟨σ1,hσ1⟩:∃σ1,σ1=(σ.push (.cells [intV .i64 x.kind,intV .i64 x.query,iv1,av1,vv1,intV .i64 x.err,intV .i64 x.count] 41 true 7)).push (.cells [intV .i64 x.kind,intV .i64 x.query,iv2,av2,vv2,intV .i64 x.err,intV .i64 x.count] 41 true 7):=⟨_,rfl⟩
 have hg:Grow σ σ1:=by rw [hσ1];exact (Grow.push _ _).trans (Grow.push _ _)
 have A1:At σ1 σ.n (.cells [intV .i64 x.kind,intV .i64 x.query,iv1,av1,vv1,intV .i64 x.err,intV .i64 x.count] 41 true 7):=by rw [hσ1];exact (At.new σ _).push _
 have A2:At σ1 (σ.n+1) (.cells [intV .i64 x.kind,intV .i64 x.query,iv2,av2,vv2,intV .i64 x.err,intV .i64 x.count] 41 true 7):=by rw [hσ1];exact At.new (σ.push _) _
 have e:=ec61 (kRet tab [.tmp 4]) (.agg [intV .i64 x.kind,intV .i64 x.query,iv1,av1,vv1,intV .i64 x.err,intV .i64 x.count]) (.agg [intV .i64 x.kind,intV .i64 x.query,iv2,av2,vv2,intV .i64 x.err,intV .i64 x.count]) σ
 unfold ItemD.small at hs
 have w85:=W85 σ1 x.ids iv1 iv2 _ _ (i1.grow hg) (i2.grow hg) (by omega)
 have w86:=W86 σ1 x.atoms av1 av2 _ _ (a1.grow hg) (a2.grow hg) (by omega)
 have w87:=W87 σ1 x.values vv1 vv2 _ _ (v1.grow hg) (v2.grow hg) (by omega)
 refine ⟨σ1,w61 (by simp) (e.trans ?_),hg⟩
 simp (decide:=true) only [sN,pickV_boolV,box41,push_n,← hσ1,fa41_0,fa41_1,fa41_2,fa41_3,fa41_4,fa41_5,fa41_6,Nat.zero_add,ld l3 A1 (o:=0) rfl,ld l3 A2 (o:=0) rfl,ld l3 A1 (o:=1) rfl,ld l3 A2 (o:=1) rfl,ld l37 A1 (o:=2) rfl,ld l37 A2 (o:=2) rfl,ld l38 A1 (o:=3) rfl,ld l38 A2 (o:=3) rfl,ld l39 A1 (o:=4) rfl,ld l39 A2 (o:=4) rfl,
  ld l24 A1 (o:=5) rfl,ld l24 A2 (o:=5) rfl,ld l3 A1 (o:=6) rfl,ld l3 A2 (o:=6) rfl,beqS,w85,w86,w87,r61,sR]
theorem loop28(xs:List ItemD)(hsm:∀x∈xs,x.small)(hn:xs.length<5000000000)(v1 v2:AV)(σ0:St)(r1 r2:List (List AV))(e1' e2' g1' g2':List Nat)(h1:Vec σ0 41 7 xs.length v1 r1.flatten e1')(h2:Vec σ0 41 7 xs.length v2 r2.flatten e2')(k1:RowsR σ0 r1 xs g1')(k2:RowsR σ0 r2 xs g2'):∀(m i:Nat),i+m=xs.length→∀(T:Rg) (σ:St),Grow σ0 σ→T 0=v1→T 1=v2→T 5=intV .i64 (i:Int)→
  ∃T' σ',loopLim (dd tab W 27 c28a) T σ= .ok (.exit 0 T' σ')∧Grow σ0 σ':=by
 intro m
 induction m with
 | zero=>
  intro i hi T σ hg t0 t1 t5
  have e:=ec28a kOc T σ
  have d:decide ((i:Int)<(xs.length:Int))=false:=decide_eq_false (by omega)
  simp only [sN,t0,t5,h1.lenV sl33,d] at e
  exact ⟨_,σ,loop_exit (dd_of tab W 27 e),hg⟩
 | succ m ih=>
  intro i hi T σ hg t0 t1 t5
  have hil:i<xs.length:=by omega
  have hx:xs[i]? =some xs[i]:=List.getElem?_eq_getElem hil
  obtain ⟨x,hxe⟩:∃x,xs[i]=x:=⟨_,rfl⟩
  have hxm:x∈xs:=by rw [← hxe];exact List.getElem_mem hil
  rw [hxe] at hx
  obtain ⟨cs1,q1,p1,m1⟩:=k1.get i x hx
  obtain ⟨cs2,q2,p2,m2⟩:=k2.get i x hx
  obtain ⟨b1,hv1,A1,_⟩:=(h1.grow hg).at hil
  obtain ⟨b2,hv2,A2,_⟩:=(h2.grow hg).at hil
  have M1:=m1.grow hg
  have M2:=m2.grow hg
  have e:=ec28a kOc T σ
  have d:decide ((i:Int)<(xs.length:Int))=true:=decide_eq_true (by omega)
  have w1:IntKind.i64.wrap ((i:Int)+1)=((i+1:Nat):Int):=i64_add1 i (by omega)
  have ld1:loadV tab σ 41 (.ptr b1 (i*7))= .ok (.agg cs1):=lda a41 A1 (rows_at 7 r1 k1.lens.1 i cs1 p1) M1.len
  have ld2:loadV tab σ 41 (.ptr b2 (i*7))= .ok (.agg cs2):=lda a41 A2 (rows_at 7 r2 k2.lens.1 i cs2 p2) M2.len
  obtain ⟨σ1,z1,z2⟩:=W61 σ cs1 cs2 x (hsm x hxm) _ _ M1 M2
  have bf:∀n,bndA n (AV.func (.func 61) [] [])=true:=fun n=>rfl
  have b1':bndA σ.n (.agg cs1)=true:=M1.bndv (Nat.le_refl _)
  have b2':bndA σ.n (.agg cs2)=true:=M2.bndv (Nat.le_refl _)
  have all3:∀(F:AV→Bool) (a b c:AV),[a,b,c].all F=(F a && (F b && F c)):=fun F a b c=>by simp
  have ble:Nat.ble σ.n σ1.n=true:=ble_t z2.n
  simp only [sN,t0,t1,t5,hv1,hv2,len_sl sl33,d,ixA0 el33 hil,ld1,ld2,sameR,M1.beqv,M2.beqv,all3,bf,b1',b2',z1,ble,w1,Bool.and_true] at e
  have key:∃T1,denK tab W 27 c28a kOc T σ= .ok (.nxt T1 σ1)∧T1 0=v1∧T1 1=v2∧T1 5=intV .i64 ((i+1:Nat):Int):=by
   refine ⟨_,e,?_,?_,?_⟩<;>simp (decide:=true) only [sR,t0,t1]
  obtain ⟨T1,e1,m0,m1',m5⟩:=key
  obtain ⟨T',σ',q,q'⟩:=ih (i+1) (by omega) T1 σ1 (hg.trans z2) m0 m1' m5
  exact ⟨T',σ',loop_next (dd_of tab W 27 e1) q,q'⟩
theorem W28(σ:St)(xs:List ItemD)(hsm:∀x∈xs,x.small)(hn:xs.length<5000000000)(v1 v2:AV)(r1 r2:List (List AV))(e1' e2' g1' g2':List Nat)(h1:Vec σ 41 7 xs.length v1 r1.flatten e1')(h2:Vec σ 41 7 xs.length v2 r2.flatten e2')(k1:RowsR σ r1 xs g1')(k2:RowsR σ r2 xs g2'):
  ∃σ',W 28 [v1,v2] σ= .ok (.ret (boolV true),σ')∧Grow σ σ':=by
 have e:=ec28 (kRet tab [.tmp 4]) v1 v2 σ
 have d:((xs.length:Int) !=(xs.length:Int))=false:=by simp
 simp only [sN,h1.lenV sl33,h2.lenV sl33,d] at e
 have a0:argE [v1,v2] 0=v1:=rfl
 have a1:argE [v1,v2] 1=v2:=rfl
 generalize hT:puts 27 _ _=T at e
 obtain ⟨T',σ',q,q'⟩:=loop28 xs hsm hn v1 v2 σ r1 r2 e1' e2' g1' g2' h1 h2 k1 k2 xs.length 0 (by omega) T σ (Grow.refl _) (by rw [← hT];simp (decide:=true) only [sR,a0]) (by rw [← hT];simp (decide:=true) only [sR,a1]) (by rw [← hT];simp (decide:=true) only [sR];rfl)
 rw [q] at e
 simp (decide:=true) only [sN,if_true,ec28b,r28,sR] at e
 exact ⟨σ',w28 (by simp) e,q'⟩
theorem W14(σ:St)(cs1 cs2:List AV)(r:RepD)(hr:okRepL r)(f1 f2:List Nat)(h1:RepR σ cs1 r f1)(h2:RepR σ cs2 r f2):∃σ',W 14 [.agg cs1,.agg cs2] σ= .ok (.ret (boolV true),σ')∧Grow σ σ':=by
 obtain ⟨iv1,rv1,rows1,_,_,_,rfl,i1,k1,v1,_⟩:=h1.is
 obtain ⟨iv2,rv2,rows2,_,_,_,rfl,i2,k2,v2,_⟩:=h2.is
 obtain ⟨σ1,hσ1⟩:∃σ1,σ1=(σ.push (.cells [intV .i64 r.to,intV .i64 r.err,intV .i64 r.at',intV .i64 r.num,iv1,rv1] 36 true 6)).push (.cells [intV .i64 r.to,intV .i64 r.err,intV .i64 r.at',intV .i64 r.num,iv2,rv2] 36 true 6):=⟨_,rfl⟩
 have hg:Grow σ σ1:=by rw [hσ1];exact (Grow.push _ _).trans (Grow.push _ _)
 have A1:At σ1 σ.n (.cells [intV .i64 r.to,intV .i64 r.err,intV .i64 r.at',intV .i64 r.num,iv1,rv1] 36 true 6):=by rw [hσ1];exact (At.new σ _).push _
 have A2:At σ1 (σ.n+1) (.cells [intV .i64 r.to,intV .i64 r.err,intV .i64 r.at',intV .i64 r.num,iv2,rv2] 36 true 6):=by rw [hσ1];exact At.new (σ.push _) _
 have e:=ec14 (kRet tab [.tmp 4]) (.agg [intV .i64 r.to,intV .i64 r.err,intV .i64 r.at',intV .i64 r.num,iv1,rv1]) (.agg [intV .i64 r.to,intV .i64 r.err,intV .i64 r.at',intV .i64 r.num,iv2,rv2]) σ
 obtain ⟨σ2,z1,z2⟩:=W28 σ1 r.items hr.2.2 (by have:=hr.1;omega) iv1 iv2 rows1 rows2 _ _ _ _ (i1.grow hg) (i2.grow hg) (k1.grow hg) (k2.grow hg)
 have hg2:=hg.trans z2
 have B1:=A1.grow z2
 have B2:=A2.grow z2
 have w29:=W29 σ2 r.recs rv1 rv2 _ _ (v1.grow hg2) (v2.grow hg2) (by have:=hr.2.1;omega)
 refine ⟨σ2,w14 (by simp) (e.trans ?_),hg2⟩
 simp (decide:=true) only [sN,pickV_boolV,box36,push_n,← hσ1,(fa36 _).1,(fa36 _).2.1,(fa36 _).2.2.1,(fa36 _).2.2.2,fa36_4,fa36_5,Nat.zero_add,ld l3 A1 (o:=0) rfl,ld l3 A2 (o:=0) rfl,ld l24 A1 (o:=1) rfl,ld l24 A2 (o:=1) rfl,ld l3 A1 (o:=2) rfl,ld l3 A2 (o:=2) rfl,ld l3 A1 (o:=3) rfl,ld l3 A2 (o:=3) rfl,ld l33 A1 (o:=4) rfl,ld l33 A2 (o:=4) rfl,
  beqS,z1,ld l34 B1 (o:=5) rfl,ld l34 B2 (o:=5) rfl,w29,r14,sR]
theorem RepR.bndv{σ:St}{cs:List AV}{r:RepD}{f:List Nat}(h:RepR σ cs r f){m:Nat}(hm:σ.n≤m):bndA m (.agg cs)=true:=by
 obtain ⟨iv,rv,rows,_,_,_,rfl,i1,k1,v1,_⟩:=h.is
 have hi:∀n:Int,bndA m (intV .i64 n)=true:=fun n=>rfl
 simp only [bndA,bndL,i1.bnd hm,v1.bnd hm,hi,Bool.and_true]
theorem RepR.beqv{σ:St}{cs:List AV}{r:RepD}{f:List Nat}(h:RepR σ cs r f):beqA (.agg cs) (.agg cs)=true:=by
 obtain ⟨iv,rv,rows,_,_,_,rfl,i1,k1,v1,_⟩:=h.is
 simp only [beqA,beqL,i1.beq,v1.beq,beqI,Bool.and_true]
theorem RepsR.get{σ:St}:∀ {rows:List (List AV)} {rs:List RepD} {fs:List (List Nat)},RepsR σ rows rs fs→∀(i:Nat) (x:RepD),rs[i]? =some x→∃cs f,rows[i]? =some cs∧RepR σ cs x f
 | _,_,_,.nil,i,x,h=>by simp at h
 | _,_,_,.cons h t,0,x,hx=>by
  have:=Option.some.inj hx
  subst this
  exact ⟨_,_,rfl,h⟩
 | _,_,_,.cons h t,i+1,x,hx=>RepsR.get t i x (by simpa using hx)
theorem loop7(rs:List RepD)(hr:∀r∈rs,okRepL r)(hn:rs.length<5000000000)(v1 v2:AV)(σ0:St)(r1 r2:List (List AV))(e1' e2':List Nat)(g1' g2':List (List Nat))(h1:Vec σ0 36 6 rs.length v1 r1.flatten e1')(h2:Vec σ0 36 6 rs.length v2 r2.flatten e2')(k1:RepsR σ0 r1 rs g1')(k2:RepsR σ0 r2 rs g2'):∀(m i:Nat),i+m=rs.length→∀(T:Rg) (σ:St),Grow σ0 σ→T 0=v1→T 1=v2→T 5=intV .i64 (i:Int)→
  ∃T' σ',loopLim (dd tab W 27 c7a) T σ= .ok (.exit 0 T' σ')∧Grow σ0 σ':=by
 intro m
 induction m with
 | zero=>
  intro i hi T σ hg t0 t1 t5
  have e:=ec7a kOc T σ
  have d:decide ((i:Int)<(rs.length:Int))=false:=decide_eq_false (by omega)
  simp only [sN,t0,t5,h1.lenV sl23,d] at e
  exact ⟨_,σ,loop_exit (dd_of tab W 27 e),hg⟩
 | succ m ih=>
  intro i hi T σ hg t0 t1 t5
  have hil:i<rs.length:=by omega
  have hx:rs[i]? =some rs[i]:=List.getElem?_eq_getElem hil
  obtain ⟨x,hxe⟩:∃x,rs[i]=x:=⟨_,rfl⟩
  have hxm:x∈rs:=by rw [← hxe];exact List.getElem_mem hil
  rw [hxe] at hx
  obtain ⟨cs1,q1,p1,m1⟩:=k1.get i x hx
  obtain ⟨cs2,q2,p2,m2⟩:=k2.get i x hx
  obtain ⟨b1,hv1,A1,_⟩:=(h1.grow hg).at hil
  obtain ⟨b2,hv2,A2,_⟩:=(h2.grow hg).at hil
  have M1:=m1.grow hg
  have M2:=m2.grow hg
  have e:=ec7a kOc T σ
  have d:decide ((i:Int)<(rs.length:Int))=true:=decide_eq_true (by omega)
  have w1:IntKind.i64.wrap ((i:Int)+1)=((i+1:Nat):Int):=i64_add1 i (by omega)
  have ld1:loadV tab σ 36 (.ptr b1 (i*6))= .ok (.agg cs1):=lda a36 A1 (rows_at 6 r1 k1.lens.1 i cs1 p1) M1.len
  have ld2:loadV tab σ 36 (.ptr b2 (i*6))= .ok (.agg cs2):=lda a36 A2 (rows_at 6 r2 k2.lens.1 i cs2 p2) M2.len
  obtain ⟨σ1,z1,z2⟩:=W14 σ cs1 cs2 x (hr x hxm) _ _ M1 M2
  have bf:∀n,bndA n (AV.func (.func 14) [] [])=true:=fun n=>rfl
  have b1':bndA σ.n (.agg cs1)=true:=M1.bndv (Nat.le_refl _)
  have b2':bndA σ.n (.agg cs2)=true:=M2.bndv (Nat.le_refl _)
  have all3:∀(F:AV→Bool) (a b c:AV),[a,b,c].all F=(F a && (F b && F c)):=fun F a b c=>by simp
  have ble:Nat.ble σ.n σ1.n=true:=ble_t z2.n
  simp only [sN,t0,t1,t5,hv1,hv2,len_sl sl23,d,ixA0 el23 hil,ld1,ld2,sameR,M1.beqv,M2.beqv,all3,bf,b1',b2',z1,ble,w1,Bool.and_true] at e
  have key:∃T1,denK tab W 27 c7a kOc T σ= .ok (.nxt T1 σ1)∧T1 0=v1∧T1 1=v2∧T1 5=intV .i64 ((i+1:Nat):Int):=by
   refine ⟨_,e,?_,?_,?_⟩<;>simp (decide:=true) only [sR,t0,t1]
  obtain ⟨T1,e1,m0,m1',m5⟩:=key
  obtain ⟨T',σ',q,q'⟩:=ih (i+1) (by omega) T1 σ1 (hg.trans z2) m0 m1' m5
  exact ⟨T',σ',loop_next (dd_of tab W 27 e1) q,q'⟩
theorem W7(σa σb σ:St)(rs:List RepD)(hr:∀r∈rs,okRepL r)(hn:rs.length<5000000000)(v1 v2:AV)(h1:OutR σa σ v1 rs)(h2:OutR σb σ v2 rs):
  ∃σ',W 7 [v1,v2] σ= .ok (.ret (boolV true),σ')∧Grow σ σ':=by
 obtain ⟨r1,e1',g1',q1,q2,_⟩:=h1.is
 obtain ⟨r2,e2',g2',p1,p2,_⟩:=h2.is
 have e:=ec7 (kRet tab [.tmp 4]) v1 v2 σ
 have d:((rs.length:Int) !=(rs.length:Int))=false:=by simp
 simp only [sN,q1.lenV sl23,p1.lenV sl23,d] at e
 have a0:argE [v1,v2] 0=v1:=rfl
 have a1:argE [v1,v2] 1=v2:=rfl
 generalize hT:puts 27 _ _=T at e
 obtain ⟨T',σ',q,q'⟩:=loop7 rs hr hn v1 v2 σ r1 r2 e1' e2' g1' g2' q1 p1 q2 p2 rs.length 0 (by omega) T σ (Grow.refl _) (by rw [← hT];simp (decide:=true) only [sR,a0]) (by rw [← hT];simp (decide:=true) only [sR,a1]) (by rw [← hT];simp (decide:=true) only [sR];rfl)
 rw [q] at e
 simp (decide:=true) only [sN,if_true,ec7b,r7,sR] at e
 exact ⟨σ',w7 (by simp) e,q'⟩
end Go.Proofs.YtahgmmbmmcaejaaGreatDoor
