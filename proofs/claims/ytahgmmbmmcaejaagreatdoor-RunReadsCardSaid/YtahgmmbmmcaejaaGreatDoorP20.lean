/-
  A part of the proof. No statement of this seat stands here.
-/
import Derived.Test.YtahgmmbmmcaejaaGreatDoorP19
namespace Go.Proofs.YtahgmmbmmcaejaaGreatDoor
open Go Go.Dt
set_option maxRecDepth 100000
theorem fa36(b:Nat):fieldAddr tab 36 (.ptr b 0) 0= .ok (.ptr b 0)∧fieldAddr tab 36 (.ptr b 0) 1= .ok (.ptr b 1)∧fieldAddr tab 36 (.ptr b 0) 2= .ok (.ptr b 2)∧fieldAddr tab 36 (.ptr b 0) 3= .ok (.ptr b 3):=by
 refine ⟨?_,?_,?_,?_⟩
 ·exact fa36_0 b 0
 ·exact fa36_1 b 0
 ·exact fa36_2 b 0
 ·exact fa36_3 b 0
theorem loop24(v:AV)(ws:List (List UInt8))(w2:List UInt8)(h2:ws[2]? =some w2)(rb b2:Nat)(hne:b2≠rb)(σ0:St)(hge:σ0.n≤rb):∀(m i:Nat),i+m=24→∀(T:Rg) (σ:St),WF σ→Grow σ0 σ→StrN σ v ws→At σ b2 (.cells (headC zeroRep) 36 true 6)→At σ rb (.cells [intV .i64 0,intV .i64 (errTo w2 i),intV .i64 0,intV .i64 0,nilS,nilS] 36 true 6)→
  T 2= .ptr b2 0→T 4=v→T 5= .ptr rb 0→T 6=intV .i64 (i:Int)→
  ∃T' σ',loopLim (dd tab W 84 c24b) T σ= .ok (.exit 0 T' σ')∧WF σ'∧Grow σ0 σ'∧StrN σ' v ws∧At σ' b2 (.cells (headC zeroRep) 36 true 6)∧At σ' rb (.cells [intV .i64 0,intV .i64 (errTo w2 24),intV .i64 0,intV .i64 0,nilS,nilS] 36 true 6)∧T' 2= .ptr b2 0∧T' 4=v∧T' 5= .ptr rb 0:=by
 intro m
 induction m with
 | zero=>
  intro i hi T σ hw hg hS hb2 hrb t2 t4 t5 t6
  have e:=ec24b kOc T σ
  have hi24:i=24:=by omega
  subst hi24
  have d:decide (((24:Nat):Int)≤23)=false:=rfl
  simp only [sN,t6,d] at e
  refine ⟨_,σ,loop_exit (dd_of tab W 84 e),hw,hg,hS,hb2,hrb,?_,?_,?_⟩
  ·simp (decide:=true) only [sR,t2]
  ·simp (decide:=true) only [sR,t4]
  ·simp (decide:=true) only [sR,t5]
 | succ m ih=>
  intro i hi T σ hw hg hS hb2 hrb t2 t4 t5 t6
  have e:=ec24b kOc T σ
  have d:decide ((i:Int)≤23)=true:=by simp;omega
  obtain ⟨p,p1,p2⟩:=hS.get 2 w2 h2
  have p1':indexAddr tab 105 v (intV .i64 2)= .ok p:=p1
  have w51:W 51 [intV .i64 (i:Int)] σ= .ok (.ret (str (errNm i)),σ):=W51 i (by omega) σ
  have w1:IntKind.i64.wrap ((i:Int)+1)=((i+1:Nat):Int):=i64_add1 i (by omega)
  have bf:∀n,bndA n (AV.func (.func 51) [] [])=true:=fun n=>rfl
  have bi:∀n (j:Int),bndA n (intV .i64 j)=true:=fun n j=>rfl
  have bs:beqA (str w2) (str w2)=true:=by simp [beqA,str,beqBase]
  simp only [sN,t6,d,all2,bf,bi,w51,bleR,t4,p1',p2,sameR,bs,Bool.and_true] at e
  cases hq:errNm i==w2 with
  | true=>
   have hq':errNm i=w2:=by simpa using hq
   have hst:=stv (o:=1) (x:=intV .i64 (i:Int)) sz24 hrb rfl (by omega) (by simp) rfl
   have hE:errTo w2 (i+1)=(i:Int):=by
    conv=>lhs;unfold errTo
    rw [if_pos hq']
   rw [hq] at e
   simp only [sN,t5,(fa36 rb).2.1,hst] at e
   rw [ec24d] at e
   simp (decide:=true) only [sN,sR,t6,w1] at e
   have hrb':=hrb.set_same hw (.cells [intV .i64 0,intV .i64 (i:Int),intV .i64 0,intV .i64 0,nilS,nilS] 36 true 6)
   rw [← hE] at hrb'
   obtain ⟨T1,hT1⟩:∃T1,denK tab W 84 c24b kOc T σ= .ok (.nxt T1 (σ.set rb (.cells [intV .i64 0,intV .i64 (i:Int),intV .i64 0,intV .i64 0,nilS,nilS] 36 true 6)))∧T1 2= .ptr b2 0∧T1 4=v∧T1 5= .ptr rb 0∧T1 6=intV .i64 ((i+1:Nat):Int):=by
    refine ⟨_,e,?_,?_,?_,?_⟩<;>simp (decide:=true) only [sR,t2,t4,t5]
   obtain ⟨e1,m2,m4,m5,m6⟩:=hT1
   rw [← hE] at e1
   obtain ⟨T',σ',z1,z2⟩:=ih (i+1) (by omega) T1 _ (hw.set _ _) (hg.set hge hrb.1 _) (hS.keep (hrb.keep (by omega) _)) (hb2.set_ne hrb.1 hne _) hrb' m2 m4 m5 m6
   exact ⟨T',σ',loop_next (dd_of tab W 84 e1) z1,z2⟩
  | false=>
   have hq':errNm i≠w2:=by simpa using hq
   have hE:errTo w2 (i+1)=errTo w2 i:=by
    conv=>lhs;unfold errTo
    rw [if_neg hq']
   rw [hq] at e
   simp only [sN] at e
   rw [ec24d] at e
   simp (decide:=true) only [sN,sR,t6,w1] at e
   obtain ⟨T1,hT1⟩:∃T1,denK tab W 84 c24b kOc T σ= .ok (.nxt T1 σ)∧T1 2= .ptr b2 0∧T1 4=v∧T1 5= .ptr rb 0∧T1 6=intV .i64 ((i+1:Nat):Int):=by
    refine ⟨_,e,?_,?_,?_,?_⟩<;>simp (decide:=true) only [sR,t2,t4,t5]
   obtain ⟨e1,m2,m4,m5,m6⟩:=hT1
   rw [← hE] at hrb
   obtain ⟨T',σ',z1,z2⟩:=ih (i+1) (by omega) T1 _ hw hg hS hb2 hrb m2 m4 m5 m6
   exact ⟨T',σ',loop_next (dd_of tab W 84 e1) z1,z2⟩
theorem build36_1:Dt.build tab 36 [(1,intV .i64 (-1))]= .ok (.agg [intV .i64 0,intV .i64 (-1),intV .i64 0,intV .i64 0,nilS,nilS]):=by kernel_rfl
theorem W24(s:List UInt8)(hs:s.length<490000000)(σ:St)(hw:WF σ):∃r σ',W 24 [str s] σ= .ok (.ret (.tuple [.agg (headC r),boolV (headP s).2]),σ')∧Grow σ σ'∧((headP s).2=true→r=(headP s).1):=by
 have e:=ec24 k44 (str s) σ
 have hA0:=At.new σ (.cells (headC zeroRep) 36 true 6)
 obtain ⟨v,σ1,fp,k1,k2,k3,k4⟩:=W50 s (by omega) (σ.push (.cells (headC zeroRep) 36 true 6)) (WF.push hw _)
 have hw1:=k2.wf (WF.push hw _)
 have hg1:Grow σ σ1:=(Grow.push _ _).trans k2
 have hA1:=hA0.grow k2
 have hS:=k4.strN (splitB_ne 32 s)
 have hlen:∀w∈splitB 32 s,w.length<1099511627776:=fun w hw=>by have:=splitB_mem 32 s w hw;omega
 simp only [sN,pickV_boolV,alloc36,k1,hS.len] at e
 have bad:∀T:AV→Rg,(∀v,T v 2= .ptr σ.n 0)→(∀v,T v 3=boolV false)→headP s=(zeroRep,false)→(denK tab W 84 c24 k44 (argE [str s]) σ=bindR (Dt.build tab 36 []) fun v=>bindR (storeV tab σ1 36 (.ptr σ.n 0) v) fun s=>k44.ret (T v) s)→
   ∃r σ',W 24 [str s] σ= .ok (.ret (.tuple [.agg (headC r),boolV (headP s).2]),σ')∧Grow σ σ'∧((headP s).2=true→r=(headP s).1):=by
  intro T t2 t3 hP hT
  simp only [build36_0,bindR_val,st36 hA1] at hT
  rw [hP]
  exact ⟨zeroRep,_,w24 (by simp) (hT.trans (ret44 (t2 _) (t3 _) (ld36 (hA1.set_same hw1 _)))),hg1.set (Nat.le_refl _) hA1.1 _,fun _=>rfl⟩
 by_cases h5:(splitB 32 s).length=5
 ·obtain ⟨w0,w1,w2,w3,w4,hsp⟩:∃w0 w1 w2 w3 w4,splitB 32 s=[w0,w1,w2,w3,w4]:=by
   match splitB 32 s,h5 with
   | [a,b,c,d,e],_=>exact ⟨a,b,c,d,e,rfl⟩
  have hP:headP s=if w0=[114,101,112,108,121] then headW w1 w2 w3 w4 else (zeroRep,false):=by unfold headP;rw [hsp]
  rw [hsp] at hS e hlen
  obtain ⟨p0,i0,l0⟩:=hS.get 0 w0 rfl
  have i0':indexAddr tab 105 v (intV .i64 0)= .ok p0:=i0
  have d:(([w0,w1,w2,w3,w4].length:Int) !=5)=false:=rfl
  simp only [sN,d,i0',l0] at e
  cases h2:w0==[114,101,112,108,121] with
  | false=>
   have hn2:¬(w0=[114,101,112,108,121]):=fun h=>by rw [h] at h2;cases h2
   rw [if_neg hn2] at hP
   rw [h2] at e
   simp only [sN] at e
   exact bad _ (fun v=>by simp (decide:=true) only [sR]) (fun v=>by simp (decide:=true) only [sR]) hP e
  | true=>
   have h2':w0=[114,101,112,108,121]:=by simpa using h2
   rw [if_pos h2'] at hP
   rw [h2] at e
   simp only [sN] at e
   rw [ec24a] at e
   have hN:=At.new σ1 (.cells (headC zeroRep) 36 true 6)
   have hstN:storeV tab (σ1.push (.cells (headC zeroRep) 36 true 6)) 36 (.ptr σ1.n 0) (.agg [intV .i64 0,intV .i64 (-1),intV .i64 0,intV .i64 0,nilS,nilS])= .ok ((σ1.push (.cells (headC zeroRep) 36 true 6)).set σ1.n (.cells [intV .i64 0,intV .i64 (-1),intV .i64 0,intV .i64 0,nilS,nilS] 36 true 6)):=
    stv (o:=0) (x:= .agg [intV .i64 0,intV .i64 (-1),intV .i64 0,intV .i64 0,nilS,nilS]) sz36 hN rfl (by omega) (by simp [headC]) rfl
   obtain ⟨σ2,hσ2⟩:∃σ2,σ2=(σ1.push (.cells (headC zeroRep) 36 true 6)).set σ1.n (.cells [intV .i64 0,intV .i64 (-1),intV .i64 0,intV .i64 0,nilS,nilS] 36 true 6):=⟨_,rfl⟩
   have hg2:Grow σ1 σ2:=by rw [hσ2];exact (Grow.push _ _).set (Nat.le_refl _) hN.1 _
   have hrb:At σ2 σ1.n (.cells [intV .i64 0,intV .i64 (-1),intV .i64 0,intV .i64 0,nilS,nilS] 36 true 6):=by rw [hσ2];exact hN.set_same (WF.push hw1 _) _
   rw [← hσ2] at hstN
   simp (decide:=true) only [sN,sR,build36_1,alloc36,hstN] at e
   generalize hT:putE 84 _ (some 6) _=T at e
   obtain ⟨T',σ3,z1,z2,z3,z4,z5,z6,z7,z8,z9⟩:=loop24 v [w0,w1,w2,w3,w4] w2 rfl σ1.n σ.n (by have:=hA1.1;omega) σ1 (Nat.le_refl _) 24 0 rfl T σ2 (hg2.wf hw1) hg2 (hS.keep hg2.keep) (hA1.grow hg2) hrb
    (by rw [← hT];simp (decide:=true) only [sR]) (by rw [← hT];simp (decide:=true) only [sR]) (by rw [← hT];simp (decide:=true) only [sR]) (by rw [← hT];simp (decide:=true) only [sR];rfl)
   rw [z1] at e
   simp (decide:=true) only [sN,if_true] at e
   obtain ⟨p1,i1,l1⟩:=z4.get 1 w1 rfl
   obtain ⟨p3,i3,l3'⟩:=z4.get 3 w3 rfl
   obtain ⟨p4,i4,l4'⟩:=z4.get 4 w4 rfl
   have i1':indexAddr tab 105 v (intV .i64 1)= .ok p1:=i1
   have i3':indexAddr tab 105 v (intV .i64 3)= .ok p3:=i3
   have i4':indexAddr tab 105 v (intV .i64 4)= .ok p4:=i4
   have nat:∀w∈[w0,w1,w2,w3,w4],W 52 [str w,intV .u64 9223372036854775807] σ3= .ok (.ret (.tuple [intV .u64 (numC w).1,intV .i64 (numC w).2]),σ3):=fun w hw=>by
    have hn:=W52 w (hlen w hw) 9223372036854775807 (by omega) σ3
    rw [natLim_numC] at hn;exact hn
   rw [ec24c] at e
   simp (decide:=true) only [sN,sR,z8,i1',l1,nat w1 (by simp)] at e
   rw [ec24e] at e
   have o1:((numC w1).2==0)=okN w1:=rfl
   have o3:((numC w3).2==0)=okN w3:=rfl
   have o4:((numC w4).2==0)=okN w4:=rfl
   have hne:σ.n≠σ1.n:=by have:=hA1.1;omega
   have upd:∀(τ:St) (x y z x' y' z':Int) (o:Nat) (n:Int),WF τ→Grow σ1 τ→At τ σ.n (.cells (headC zeroRep) 36 true 6)→At τ σ1.n (.cells [intV .i64 x,intV .i64 (errTo w2 24),intV .i64 y,intV .i64 z,nilS,nilS] 36 true 6)→
     o+1≤6→splice [intV .i64 x,intV .i64 (errTo w2 24),intV .i64 y,intV .i64 z,nilS,nilS] o [intV .i64 n]=[intV .i64 x',intV .i64 (errTo w2 24),intV .i64 y',intV .i64 z',nilS,nilS]→
     ∃τ',storeV tab τ 3 (.ptr σ1.n o) (intV .i64 n)= .ok τ'∧WF τ'∧Grow σ1 τ'∧At τ' σ.n (.cells (headC zeroRep) 36 true 6)∧At τ' σ1.n (.cells [intV .i64 x',intV .i64 (errTo w2 24),intV .i64 y',intV .i64 z',nilS,nilS] 36 true 6):=by
    intro τ x y z x' y' z' o n hw hg hb hr ho hsp
    have:=stv (o:=o) (x:=intV .i64 n) sz3 hr rfl (by omega) (by simpa using ho) rfl
    have hc:(intV .i64 n).cells=[intV .i64 n]:=rfl
    rw [hc,hsp] at this
    exact ⟨_,this,hw.set _ _,hg.set (Nat.le_refl _) hr.1 _,hb.set_ne hr.1 hne _,hr.set_same hw _⟩
   obtain ⟨τ1,s1,a1,b1,c1,d1⟩:=upd σ3 0 0 0 (numC w1).1 0 0 0 (numC w1).1 z2 z3 z5 z6 (by omega) rfl
   obtain ⟨τ2,s2,a2,b2,c2,d2⟩:=upd τ1 _ 0 0 (numC w1).1 (numC w3).1 0 2 (numC w3).1 a1 b1 c1 d1 (by omega) rfl
   obtain ⟨σ4,s3,hw4,hg4,hb4,a3⟩:=upd τ2 _ _ 0 (numC w1).1 (numC w3).1 (numC w4).1 3 (numC w4).1 a2 b2 c2 d2 (by omega) rfl
   have lw:loadV tab σ4 36 (.ptr σ1.n 0)= .ok (.agg [intV .i64 (numC w1).1,intV .i64 (errTo w2 24),intV .i64 (numC w3).1,intV .i64 (numC w4).1,nilS,nilS]):=lda a36 a3 rfl rfl
   have le':loadV tab σ4 24 (.ptr σ1.n 1)= .ok (intV .i64 (errTo w2 24)):=ld l24 a3 rfl
   have hrc:(AV.agg [intV .i64 (numC w1).1,intV .i64 (errTo w2 24),intV .i64 (numC w3).1,intV .i64 (numC w4).1,nilS,nilS])= .agg (headC {to:=(numC w1).1,err:=errTo w2 24,at':=(numC w3).1,num:=(numC w4).1,items:=[],recs:=[]}):=rfl
   have hge0:decide (errTo w2 24≥0)=(errIx w2).isSome:=by
    rw [errTo_ix]
    cases errIx w2 with
    | none=>rfl
    | some n=>simp
   simp (decide:=true) only [sN,sR,z7,z8,z9,i3',l3',i4',l4',nat w3 (by simp),nat w4 (by simp),convR_int u72 u3,numC_i64,(fa36 σ1.n).1,(fa36 σ1.n).2.1,(fa36 σ1.n).2.2.1,(fa36 σ1.n).2.2.2,s1,s2,s3,lw,le',hge0,o1,o3,o4,sC] at e
   rw [hP]
   rw [hrc,st36 hb4,bindR_val] at e
   refine ⟨_,_,w24 (by simp) (e.trans (ret44 (by simp (decide:=true) only [sR,z7]) (by simp (decide:=true) only [sR];congr 1;unfold headW;cases okN w1<;>cases (errIx w2).isSome<;>cases okN w3<;>cases okN w4<;>rfl) (ld36 (hb4.set_same hw4 _)))),(hg1.trans hg4).set (Nat.le_refl _) hb4.1 _,?_⟩
   intro hok
   have hsm:(errIx w2).isSome=true:=by
    unfold headW at hok
    revert hok
    cases (errIx w2).isSome<;>cases okN w1<;>simp
   unfold headW
   simp only
   rw [errTo_ix]
   cases h:errIx w2 with
   | none=>rw [h] at hsm;cases hsm
   | some n=>rfl
 ·have hP:headP s=(zeroRep,false):=by
   unfold headP
   split
   ·rename_i h;rw [h] at h5;exact (h5 rfl).elim
   ·rfl
  have d:(((splitB 32 s).length:Int) !=5)=true:=by rw [bne_iff_ne];omega
  simp only [sN,d] at e
  exact bad _ (fun v=>by simp (decide:=true) only [sR]) (fun v=>by simp (decide:=true) only [sR]) hP e
end Go.Proofs.YtahgmmbmmcaejaaGreatDoor
namespace Go.Proofs.YtahgmmbmmcaejaaGreatDoor
open Go Go.Dt
set_option maxRecDepth 100000
def labC(c:UInt8):Bool:=isDig c || c==44 || c==123 || c==125
theorem takeWhile_eq{p:UInt8→Bool}:∀ {l l' ds:List UInt8} {c:UInt8},l.takeWhile p=ds→l[ds.length]? =some c→p c=false→(∀j,j≤ds.length→l'[j]? =l[j]?)→l'.takeWhile p=ds
 | l,l',[],c,h1,h2,h3,h4=>by
  have:=h4 0 (Nat.le_refl _)
  simp only [List.length_nil] at h2
  rw [h2] at this
  cases l' with
  | nil=>rfl
  | cons x l'=>
   have:x=c:=by simpa using this
   subst this
   simp [List.takeWhile,h3]
 | l,l',d::ds,c,h1,h2,h3,h4=>by
  cases l with
  | nil=>simp at h1
  | cons x l=>
   have h0:=h4 0 (Nat.zero_le _)
   cases l' with
   | nil=>simp at h0
   | cons y l'=>
    have hxy:y=x:=by simpa using h0
    subst hxy
    cases hp:p y with
    | false=>simp [List.takeWhile,hp] at h1
    | true=>
     simp only [List.takeWhile,hp,List.cons.injEq] at h1 ⊢
     refine ⟨h1.1,takeWhile_eq (l:=l) (c:=c) h1.2 (by simpa using h2) h3 ?_⟩
     intro j hj
     have:=h4 (j+1) (by simpa using hj)
     simpa using this
theorem isDig_all{l:List UInt8}:∀d∈l.takeWhile isDig,isDig d=true:=by
 intro d hd
 induction l with
 | nil=>simp at hd
 | cons x l ih=>
  cases h:isDig x with
  | true=>
   simp only [List.takeWhile,h,List.mem_cons] at hd
   rcases hd with rfl | hd
   ·exact h
   ·exact ih hd
  | false=>simp [List.takeWhile,h] at hd
theorem get_takeWhile{l ds:List UInt8}(h:l.takeWhile isDig=ds)(j:Nat)(hj:j<ds.length):l[j]? =ds[j]? :=by
 have hp:=List.takeWhile_prefix (p:=isDig) (l:=l)
 rw [h] at hp
 obtain ⟨r,hr⟩:=hp
 rw [← hr,List.getElem?_append_left hj]
theorem labL_ok:∀(m:Nat) (s:List UInt8) (l:Nat) (last:Int) (at' x e:Nat),labL m s l last at'=some (x,e)→
  at'<e∧e<s.length∧(∀j,at'≤j→j≤e→∃c,s[j]? =some c∧labC c=true)∧∀(s':List UInt8) (m':Nat),(∀j,j≤e→s'[j]? =s[j]?)→e<at'+m'→labL m' s' l last at'=some (x,e):=by
 intro m
 induction m with
 | zero=>intro s l last at' x e h;cases h
 | succ m ih=>
  intro s l last at' x e h
  unfold labL at h
  cases hds:(s.drop at').takeWhile isDig with
  | nil=>rw [hds] at h;cases h
  | cons d ds=>
   rw [hds] at h
   simp only at h
   split at h
   ·cases h
   rename_i hz
   split at h
   ·cases h
   rename_i hr
   cases hc:s[at'+(d::ds).length]? with
   | none=>rw [hc] at h;cases h
   | some c=>
    rw [hc] at h
    simp only at h
    have hdig:∀j,at'≤j→j<at'+(d::ds).length→∃c,s[j]? =some c∧labC c=true:=by
     intro j h1 h2
     have hg:=get_takeWhile hds (j - at') (by omega)
     rw [List.getElem?_drop,(by omega:at'+(j - at')=j)] at hg
     have hlt:j - at'<(d::ds).length:=by omega
     refine ⟨(d::ds)[j - at'],by rw [hg,List.getElem?_eq_getElem hlt],?_⟩
     have:=isDig_all (l:=s.drop at') ((d::ds)[j - at']) (by rw [hds];exact List.getElem_mem hlt)
     unfold labC;rw [this];rfl
    have hdrop:∀(s':List UInt8) (E:Nat),at'+(d::ds).length≤E→(∀j,j≤E→s'[j]? =s[j]?)→isDig c=false→(s'.drop at').takeWhile isDig=d::ds:=by
     intro s' E hE hj hcd
     refine takeWhile_eq hds (c:=c) (by rw [List.getElem?_drop];exact hc) hcd ?_
     intro j hjl
     rw [List.getElem?_drop,List.getElem?_drop]
     exact hj _ (by omega)
    have hlen:=(List.getElem?_eq_some_iff.1 hc).1
    by_cases h125:c=125
    ·rw [if_pos h125] at h
     simp only [Option.some.injEq,Prod.mk.injEq] at h
     obtain ⟨rfl,rfl⟩:=h
     have hcd:isDig c=false:=by subst h125;rfl
     refine ⟨by simp,hlen,?_,?_⟩
     ·intro j h1 h2
      by_cases hj:j<at'+(d::ds).length
      ·exact hdig j h1 hj
      ·have:j=at'+(d::ds).length:=by omega
       subst this
       exact ⟨c,hc,by subst h125;rfl⟩
     ·intro s' m' hj hm'
      cases m' with
      | zero=>omega
      | succ m'=>
       unfold labL
       rw [hdrop s' _ (Nat.le_refl _) hj hcd]
       simp only
       rw [if_neg hz,if_neg hr,hj _ (Nat.le_refl _),hc]
       simp only
       rw [if_pos h125]
    ·rw [if_neg h125] at h
     by_cases h44:c=44
     ·rw [if_pos h44] at h
      have hcd:isDig c=false:=by subst h44;rfl
      obtain ⟨k1,k2,k3,k4⟩:=ih _ _ _ _ _ _ h
      refine ⟨by omega,k2,?_,?_⟩
      ·intro j h1 h2
       by_cases hj:j<at'+(d::ds).length
       ·exact hdig j h1 hj
       ·by_cases hj2:j=at'+(d::ds).length
        ·subst hj2
         exact ⟨c,hc,by subst h44;rfl⟩
        ·exact k3 j (by omega) h2
      ·intro s' m' hj hm'
       cases m' with
       | zero=>omega
       | succ m'=>
        unfold labL
        rw [hdrop s' e (by omega) hj hcd]
        simp only
        rw [if_neg hz,if_neg hr,hj _ (by omega),hc]
        simp only
        rw [if_neg h125,if_pos h44]
        exact k4 s' m' hj (by simp only [List.length_cons] at hm' ⊢;omega)
     ·rw [if_neg h44] at h;cases h
theorem labS_ok{s:List UInt8}{v n:Nat}(h:labS s=some (v,n)):n≤s.length∧0<n∧(∀j,j<n→∃c,s[j]? =some c∧labC c=true)∧∀s':List UInt8,(∀j,j<n→s'[j]? =s[j]?)→labS s'=some (v,n):=by
 unfold labS at h
 by_cases h0:s[0]? =some 123
 ·rw [if_pos h0] at h
  by_cases h1:s[1]? =some 125
  ·rw [if_pos h1] at h
   simp only [Option.some.injEq,Prod.mk.injEq] at h
   obtain ⟨rfl,rfl⟩:=h
   refine ⟨by have:=(List.getElem?_eq_some_iff.1 h1).1;omega,by omega,?_,?_⟩
   ·intro j hj
    by_cases hj0:j=0
    ·subst hj0;exact ⟨123,h0,rfl⟩
    ·have:j=1:=by omega
     subst this;exact ⟨125,h1,rfl⟩
   ·intro s' hj
    unfold labS
    rw [hj 0 (by omega),hj 1 (by omega),if_pos h0,if_pos h1]
  ·rw [if_neg h1] at h
   cases hl:labL (s.length+1) s 0 (-1) 1 with
   | none=>rw [hl] at h;cases h
   | some p=>
    obtain ⟨x,e⟩:=p
    rw [hl] at h
    simp only [Option.some.injEq,Prod.mk.injEq] at h
    obtain ⟨rfl,rfl⟩:=h
    obtain ⟨k1,k2,k3,k4⟩:=labL_ok _ _ _ _ _ _ _ hl
    refine ⟨by omega,by omega,?_,?_⟩
    ·intro j hj
     by_cases hj0:j=0
     ·subst hj0;exact ⟨123,h0,rfl⟩
     ·exact k3 j (by omega) (by omega)
    ·intro s' hj
     have hlen:e<s'.length:=by
      have:=hj e (by omega)
      obtain ⟨c,hc,_⟩:=k3 e (by omega) (Nat.le_refl _)
      rw [hc] at this
      exact (List.getElem?_eq_some_iff.1 this).1
     unfold labS
     rw [hj 0 (by omega),hj 1 (by omega),if_pos h0,if_neg h1,k4 s' (s'.length+1) (fun j hj'=>hj j (by omega)) (by omega)]
 ·rw [if_neg h0] at h;cases h
theorem labP_iff{s:List UInt8}{v:Nat}:labP s=some v↔labS s=some (v,s.length):=by
 unfold labP
 constructor
 ·intro h
  cases hs:labS s with
  | none=>rw [hs] at h;cases h
  | some p=>
   obtain ⟨x,n⟩:=p
   rw [hs] at h
   simp only at h
   have:=(labS_ok hs).1
   split at h
   ·cases h
   ·have hx:=Option.some.inj h
    subst hx
    have:n=s.length:=by omega
    rw [this]
 ·intro h
  rw [h]
  simp
theorem labS_app{l t:List UInt8}{v:Nat}(h:labP l=some v):labS (l++t)=some (v,l.length):=
 (labS_ok (labP_iff.1 h)).2.2.2 _ fun j hj=>by rw [List.getElem?_append_left hj]
theorem labP_take{s:List UInt8}{v n:Nat}(h:labS s=some (v,n)):labP (s.take n)=some v:=by
 obtain ⟨h1,h2,h3,h4⟩:=labS_ok h
 rw [labP_iff,List.length_take,Nat.min_eq_left h1]
 exact h4 _ fun j hj=>List.getElem?_take_of_lt hj
theorem labP_chars{l:List UInt8}{v:Nat}(h:labP l=some v):∀c∈l,labC c=true:=by
 obtain ⟨h1,h2,h3,h4⟩:=labS_ok (labP_iff.1 h)
 intro c hc
 obtain ⟨j,hj,rfl⟩:=List.getElem_of_mem hc
 obtain ⟨d,hd,hd2⟩:=h3 j hj
 rw [List.getElem?_eq_getElem hj] at hd
 rw [Option.some.inj hd];exact hd2
theorem okN_chars{l:List UInt8}(h:okN l=true):(∀c∈l,isDig c=true)∧l≠[]:=by
 unfold okN numC at h
 cases hn:numS l with
 | none=>rw [hn] at h;cases h
 | some v=>
  unfold numS at hn
  split at hn
  ·cases hn
  ·rename_i hc
   constructor
   ·intro c hcm
    have:l.all isDig=true:=by
     cases hq:l.all isDig with
     | true=>rfl
     | false=>exact (hc (.inr (.inr (by rw [hq];simp)))).elim
    exact List.all_eq_true.1 this c hcm
   ·intro hnil
    exact hc (.inl hnil)
end Go.Proofs.YtahgmmbmmcaejaaGreatDoor
namespace Go.Proofs.YtahgmmbmmcaejaaGreatDoor
open Go Go.Dt
set_option maxRecDepth 100000
def digP(s:List UInt8):List UInt8:=s.takeWhile isDig
def digD(s:List UInt8):List UInt8:=s.drop (digP s).length
theorem digP_len(s:List UInt8):(digP s).length≤s.length:=List.Sublist.length_le (List.takeWhile_sublist _)
theorem digP_take(s:List UInt8):s.take (digP s).length=digP s:=by
 have hp:=List.takeWhile_prefix (p:=isDig) (l:=s)
 exact (List.prefix_iff_eq_take.1 hp).symm
theorem dig_cond(_:Bool)(x:UInt8):(decide (48≤x.toNat) && decide (x.toNat≤57))=isDig x:=rfl
theorem loop55(s:List UInt8)(hs:s.length<1099511627776)(σ:St):∀(m i:Nat),i+m=s.length→∀(T:Rg),T 0=str s→T 5=intV .i64 (i:Int)→
  ∃T',loopLim (dd tab W 39 c55a) T σ= .ok (.exit 0 T' σ)∧T' 0=str s∧T' 5=intV .i64 ((i+(digP (s.drop i)).length:Nat):Int):=by
 intro m
 induction m with
 | zero=>
  intro i hi T h0 h5
  have e:=ec55a kOc T σ
  have d:decide ((i:Int)<(s.length:Int))=false:=by simp;omega
  simp only [sN,pickV_boolV,h0,h5,d] at e
  refine ⟨_,loop_exit (dd_of tab W 39 e),?_,?_⟩
  ·simp (decide:=true) only [sR,h0]
  ·rw [List.drop_eq_nil_of_le (by omega:s.length≤i)]
   simp (decide:=true) only [sR,h5];rfl
 | succ m ih=>
  intro i hi T h0 h5
  have hil:i<s.length:=by omega
  obtain ⟨c,hc⟩:∃c,s[i]? =some c:=⟨s[i],List.getElem?_eq_getElem hil⟩
  have hd:s.drop i=c::s.drop (i+1):=by
   rw [List.drop_eq_getElem_cons hil]
   rw [List.getElem?_eq_getElem hil] at hc
   rw [Option.some.inj hc]
  have e:=ec55a kOc T σ
  have d:decide ((i:Int)<(s.length:Int))=true:=by simp;omega
  have w1:IntKind.i64.wrap ((i:Int)+1)=((i+1:Nat):Int):=i64_add1 i (by omega)
  have g48:decide (((c.toNat:Nat):Int)≥48)=decide (48≤c.toNat):=by rw [decide_eq_decide];omega
  have g57:decide (((c.toNat:Nat):Int)≤57)=decide (c.toNat≤57):=by rw [decide_eq_decide];omega
  simp only [sN,pickV_boolV,h0,h5,d,indexS s i c hc,g48] at e
  rw [hd]
  have stop:isDig c=false→digP (c::s.drop (i+1))=[]:=fun h=>by simp [digP,List.takeWhile,h]
  have go:isDig c=true→digP (c::s.drop (i+1))=c::digP (s.drop (i+1)):=fun h=>by simp [digP,List.takeWhile,h]
  cases h48:decide (48≤c.toNat) with
  | false=>
   have hn:isDig c=false:=by unfold isDig;rw [h48];rfl
   rw [h48] at e
   simp only [sN] at e
   rw [stop hn]
   refine ⟨_,loop_exit (dd_of tab W 39 e),?_,?_⟩
   ·simp (decide:=true) only [sR,h0]
   ·simp (decide:=true) only [sR,h5];rfl
  | true=>
   rw [h48] at e
   simp only [sN,indexS s i c hc,g57] at e
   cases h57:decide (c.toNat≤57) with
   | false=>
    have hn:isDig c=false:=by unfold isDig;rw [h57,Bool.and_false]
    rw [h57] at e
    simp only [sN] at e
    rw [stop hn]
    refine ⟨_,loop_exit (dd_of tab W 39 e),?_,?_⟩
    ·simp (decide:=true) only [sR,h0]
    ·simp (decide:=true) only [sR,h5];rfl
   | true=>
    have hn:isDig c=true:=by unfold isDig;rw [h48,h57];rfl
    rw [h57] at e
    simp only [sN,w1] at e
    rw [go hn]
    have key:∃T1,denK tab W 39 c55a kOc T σ= .ok (.nxt T1 σ)∧T1 0=str s∧T1 5=intV .i64 ((i+1:Nat):Int):=by
     refine ⟨_,e,?_,?_⟩<;>simp (decide:=true) only [sR,h0]
    obtain ⟨T1,e1,k0,k5⟩:=key
    obtain ⟨T',q1,q2,q3⟩:=ih (i+1) (by omega) T1 k0 k5
    refine ⟨T',loop_next (dd_of tab W 39 e1) q1,q2,?_⟩
    rw [q3,List.length_cons];congr 1;omega
theorem W55(s:List UInt8)(hs:s.length<1099511627776)(σ:St):W 55 [str s] σ= .ok (.ret (.tuple [intV .u64 (numC (digP s)).1,str (digD s),boolV (okN (digP s))]),σ):=by
 refine w55 (by simp) ?_
 rw [ec55]
 simp only [sN]
 have a0:argE [str s] 0=str s:=rfl
 generalize hT:puts 39 _ _=T
 obtain ⟨T',q1,q2,q3⟩:=loop55 s hs σ s.length 0 (by omega) T (by rw [← hT];simp (decide:=true) only [sR,a0]) (by rw [← hT];simp (decide:=true) only [sR];rfl)
 rw [List.drop_zero,Nat.zero_add] at q3
 have hl:=digP_len s
 have hn:=W52 (digP s) (by omega) 9223372036854775807 (by omega) σ
 rw [natLim_numC] at hn
 have hn':W 52 [str (digP s),intV .u64 9223372036854775807] σ= .ok (.ret (.tuple [intV .u64 (numC (digP s)).1,intV .i64 (numC (digP s)).2]),σ):=hn
 rw [q1]
 simp (decide:=true) only [sN,if_true,ec55b,q2,q3,sliceS_hi s _ hl,sliceS_lo s _ hl,digP_take,hn',r55,sR]
 rfl
def labdS(s mark:List UInt8):Option (Nat×List UInt8):=match labS s with
 | none=>none
 | some p=>if s.length<p.2+mark.length∨(s.drop p.2).take mark.length≠mark then none else some (p.1,s.drop (p.2+mark.length))
def labdR:Option (Nat×List UInt8)→AV
 | none=> .tuple [intV .u64 0,str [],boolV false]
 | some p=> .tuple [intV .u64 (p.1:Int),str p.2,boolV true]
theorem sliceS2(l:List UInt8)(a k:Nat)(hb:a+k≤l.length):sliceV tab 9 (str l) (some (intV .i64 (a:Int))) (some (intV .i64 ((a+k:Nat):Int))) none= .ok (str ((l.drop a).take k)):=by
 rw [sliceS l a (a+k) (by omega) hb]
 have:a+k - a=k:=by omega
 rw [this]
theorem W56(s mark:List UInt8)(hs:s.length<1099511627776)(hm:mark.length<1000)(σ:St)(hw:WF σ):∃σ',W 56 [str s,str mark] σ= .ok (.ret (labdR (labdS s mark)),σ')∧Grow σ σ':=by
 have e:=ec56 (kRet tab [.tmp 4,.tmp 5,.tmp 6]) (str s) (str mark) σ
 have k:=W81 s hs σ hw
 unfold labdS
 cases hl:labS s with
 | none=>
  rw [hl] at k
  obtain ⟨x,y,σ2,hx,h1,hg2⟩:=k
  obtain ⟨σ3,n1,n2,n3,n4⟩:=putFault hg2 (hg2.wf hw) x y
  have hx':(x !=0)=true:=by simpa using hx
  have l24':loadV tab σ3 24 (.ptr σ2.n 0)= .ok (intV .i64 x):=ld l24 n4 rfl
  simp (decide:=true) only [sN,pickV_boolV,h1,alloc26,n1,fa26_0,l24',hx',r56,sR] at e
  exact ⟨σ3,w56 (by simp) e,n2⟩
 | some p=>
  rw [hl] at k
  obtain ⟨σ2,h1,hg2⟩:=k
  obtain ⟨σ3,n1,n2,n3,n4⟩:=putFault hg2 (hg2.wf hw) 0 0
  have hx':((0:Int) !=0)=false:=rfl
  have l24':loadV tab σ3 24 (.ptr σ2.n 0)= .ok (intV .i64 0):=ld l24 n4 rfl
  have hp:=(labS_ok (v:=p.1) (n:=p.2) hl).1
  have w1:IntKind.i64.wrap ((p.2:Int)+(mark.length:Int))=((p.2+mark.length:Nat):Int):=by
   have:(p.2:Int)+(mark.length:Int)=((p.2+mark.length:Nat):Int):=by omega
   rw [this];exact i64w _ (by omega)
  simp only [sN,pickV_boolV,h1,alloc26,n1,fa26_0,l24',hx',w1] at e
  by_cases hlt:s.length<p.2+mark.length
  ·have d:decide ((s.length:Int)<((p.2+mark.length:Nat):Int))=true:=decide_eq_true (by omega)
   simp (decide:=true) only [sN,d,r56,sR] at e
   simp only [if_pos (Or.inl hlt)]
   exact ⟨σ3,w56 (by simp) e,n2⟩
  ·have d:decide ((s.length:Int)<((p.2+mark.length:Nat):Int))=false:=decide_eq_false (by omega)
   simp only [sN,d,w1,sliceS2 s p.2 mark.length (by omega)] at e
   by_cases hne:(s.drop p.2).take mark.length=mark
   ·have d2:((s.drop p.2).take mark.length==mark)=true:=by simpa using hne
    simp (decide:=true) only [sN,d2,sliceS_lo s (p.2+mark.length) (by omega),r56,sR] at e
    have:¬(s.length<p.2+mark.length∨(s.drop p.2).take mark.length≠mark):=by
     rintro (h | h)
     ·exact hlt h
     ·exact h hne
    simp only [if_neg this]
    exact ⟨σ3,w56 (by simp) e,n2⟩
   ·have d2:((s.drop p.2).take mark.length==mark)=false:=by simpa using hne
    simp (decide:=true) only [sN,d2,r56,sR] at e
    simp only [if_pos (Or.inr hne:s.length<p.2+mark.length∨(s.drop p.2).take mark.length≠mark)]
    exact ⟨σ3,w56 (by simp) e,n2⟩
end Go.Proofs.YtahgmmbmmcaejaaGreatDoor
namespace Go.Proofs.YtahgmmbmmcaejaaGreatDoor
open Go Go.Dt
set_option maxRecDepth 100000
def st3(r:RecD)(r3:List UInt8):Option RecD:=
 if r3.take 4=[32,45,62,32] then
  match labdS (r3.drop 4) [32,64] with
  | none=>none
  | some p=>if okN (digP p.2)=true∧digD p.2=[] then some {r with new:=(p.1:Int),tick:=(numC (digP p.2)).1} else none
 else none
def st2(r:RecD)(r2:List UInt8):Option RecD:=if okN (digP r2)=true then st3 {r with evN:=(numC (digP r2)).1} (digD r2) else none
def st1(rule:Int)(r1:List UInt8):Option RecD:=match labdS r1 [35] with
 | none=>none
 | some p=>st2 {zeroRec with rule:=rule,old:=(p.1:Int),evL:=(p.1:Int)} p.2
def refRec(s:List UInt8):Option RecD:=
 if okN (digP s)=true∧(numC (digP s)).1≤1000 then
  match digD s with
  | []=>none
  | c::r1=>if c=32 then st1 (numC (digP s)).1 r1 else none
 else none
structure Rc(σ0 σ:St)(b2 b4:Nat)(r:RecD):Prop where
 wf:WF σ
 grow:Grow σ0 σ
 a2:At σ b2 (.cells (recC zeroRec) 77 true 6)
 a4:At σ b4 (.cells (recC r) 77 true 6)
 g2:σ0.n≤b2
 g4:σ0.n≤b4
 ne:b2≠b4
theorem Rc.step{σ0 σ σ':St}{b2 b4:Nat}{r:RecD}(h:Rc σ0 σ b2 b4 r)(hg:Grow σ σ'):Rc σ0 σ' b2 b4 r:=
 ⟨hg.wf h.wf,h.grow.trans hg,h.a2.grow hg,h.a4.grow hg,h.g2,h.g4,h.ne⟩
theorem Rc.upd{σ0 σ:St}{b2 b4:Nat}{r:RecD}(h:Rc σ0 σ b2 b4 r)(t:Nat)(ht:sizeB t 1=true)(o:Nat)(ho:o+1≤6)(k:IntKind)(n:Int)(r':RecD)(hr:splice (recC r) o [intV k n]=recC r'):
  ∃σ',storeV tab σ t (.ptr b4 o) (intV k n)= .ok σ'∧Rc σ0 σ' b2 b4 r':=by
 have:=stv (o:=o) (x:=intV k n) ht h.a4 rfl (by omega) (by rw [recC_len];exact ho) rfl
 have hc:(intV k n).cells=[intV k n]:=rfl
 rw [hc,hr] at this
 exact ⟨_,this,h.wf.set _ _,h.grow.set h.g4 h.a4.1 _,h.a2.set_ne h.a4.1 h.ne _,h.a4.set_same h.wf _,h.g2,h.g4,h.ne⟩
def Out26(σ0:St)(y:R (AEnd×St))(q:Option RecD):Prop:=∃r σ',y= .ok (.ret (.tuple [.agg (recC r),boolV q.isSome]),σ')∧Grow σ0 σ'∧∀x,q=some x→r=x
theorem Rc.out{σ0 σ:St}{b2 b4:Nat}{r:RecD}(h:Rc σ0 σ b2 b4 r)(y:R (AEnd×St))(T:AV→Rg)(q:Option RecD)(hq:∀x,q=some x→r=x)(t2:∀v,T v 2= .ptr b2 0)(t3:∀v,T v 3=boolV q.isSome)
  (hy:y=bindR (loadV tab σ 77 (.ptr b4 0)) fun v=>bindR (storeV tab σ 77 (.ptr b2 0) v) fun s=>k46.ret (T v) s):Out26 σ0 y q:=by
 rw [ld77 h.a4,bindR_val,st77 h.a2,bindR_val] at hy
 exact ⟨r,_,hy.trans (ret46 (t2 _) (t3 _) (ld77 (h.a2.set_same h.wf _))),h.grow.set h.g2 h.a2.1 _,hq⟩
theorem sz72:sizeB 72 1=true:=by kernel_rfl
theorem labdS_len{s mark:List UInt8}{p:Nat×List UInt8}(h:labdS s mark=some p):p.2.length≤s.length:=by
 unfold labdS at h
 split at h
 ·cases h
 ·split at h
  ·cases h
  ·have:=Option.some.inj h
   subst this
   simp
theorem digD_len(s:List UInt8):(digD s).length≤s.length:=by unfold digD;simp
theorem last26(σ0 σ:St)(b2 b4:Nat)(r:RecD)(h:Rc σ0 σ b2 b4 r)(r3:List UInt8)(hs:r3.length<1099511627776)(ok:Bool)(T:Rg)(t2:T 2= .ptr b2 0)(t4:T 4= .ptr b4 0)(t6:T 6=str r3)(t8:T 8=boolV ok):
  Out26 σ0 (denK tab W 94 c26g k46 T σ) (if ok=true then st3 r r3 else none):=by
 have e:=ec26g k46 T σ
 have none':∀(T:AV→Rg),(∀v,T v 2= .ptr b2 0)→(∀v,T v 3=boolV false)→∀y,(y=bindR (loadV tab σ 77 (.ptr b4 0)) fun v=>bindR (storeV tab σ 77 (.ptr b2 0) v) fun s=>k46.ret (T v) s)→Out26 σ0 y none:=
  fun T m2 m3 y hy=>h.out y T none (fun x hx=>by cases hx) m2 m3 hy
 simp only [sN,pickV_boolV,t8] at e
 cases ok with
 | false=>
  simp only [sN,pickV_boolV,t4,t2] at e
  simp only [Bool.false_eq_true,if_false]
  exact none' _ (fun v=>by simp (decide:=true) only [sR,t2]) (fun v=>by simp (decide:=true) only [sR]) _ e
 | true=>
  simp only [if_true]
  unfold st3
  simp only [sN,pickV_boolV,t6] at e
  by_cases hl:r3.length<4
  ·have d:decide ((r3.length:Int)<4)=true:=decide_eq_true (by omega)
   have hn:¬(r3.take 4=[32,45,62,32]):=by
    intro hh
    have:=congrArg List.length hh
    simp at this
    omega
   simp only [sN,d,t4,t2] at e
   rw [if_neg hn]
   exact none' _ (fun v=>by simp (decide:=true) only [sR,t2]) (fun v=>by simp (decide:=true) only [sR]) _ e
  ·have d:decide ((r3.length:Int)<4)=false:=decide_eq_false (by omega)
   have s4:sliceV tab 9 (str r3) none (some (intV .i64 4)) none= .ok (str (r3.take 4)):=sliceS_hi r3 4 (by omega)
   have s4':sliceV tab 9 (str r3) (some (intV .i64 4)) none none= .ok (str (r3.drop 4)):=sliceS_lo r3 4 (by omega)
   simp only [sN,d,s4] at e
   cases hq:r3.take 4==[32,45,62,32] with
   | false=>
    have hn:¬(r3.take 4=[32,45,62,32]):=by simpa using hq
    rw [hq] at e
    simp only [sN,t4,t2] at e
    rw [if_neg hn]
    exact none' _ (fun v=>by simp (decide:=true) only [sR,t2]) (fun v=>by simp (decide:=true) only [sR]) _ e
   | true=>
    have hy:r3.take 4=[32,45,62,32]:=by simpa using hq
    rw [if_pos hy]
    obtain ⟨σ1,k1,k2⟩:=W56 (r3.drop 4) [32,64] (by simp;omega) (by simp) σ h.wf
    rw [hq] at e
    simp only [sN,s4',k1] at e
    cases hL:labdS (r3.drop 4) [32,64] with
    | none=>
     rw [hL] at e
     obtain ⟨σ2,u1,u2⟩:=(h.step k2).upd 72 sz72 4 (by omega) .u64 0 {r with new:=0} rfl
     simp only [labdR,sN,t4,t2,fa77_3,Nat.zero_add,u1] at e
     exact u2.out _ _ none (fun x hx=>by cases hx) (fun v=>by simp (decide:=true) only [sR,t2]) (fun v=>by simp (decide:=true) only [sR];rfl) e
    | some p=>
     rw [hL] at e
     have hpl:=labdS_len hL
     obtain ⟨σ2,u1,u2⟩:=(h.step k2).upd 72 sz72 4 (by omega) .u64 (p.1:Int) {r with new:=(p.1:Int)} rfl
     obtain ⟨σ3,v1,v2⟩:=u2.upd 72 sz72 5 (by omega) .u64 (numC (digP p.2)).1 {r with new:=(p.1:Int),tick:=(numC (digP p.2)).1} rfl
     simp only [labdR,sN,pickV_boolV,t4,t2,fa77_3,fa77_4,Nat.zero_add,u1,W55 p.2 (by simp at hpl;omega),v1] at e
     simp only
     cases h1:okN (digP p.2) with
     | false=>
      rw [h1] at e
      simp only [sN] at e
      rw [if_neg (by simp)]
      exact v2.out _ _ none (fun x hx=>by cases hx) (fun v=>by simp (decide:=true) only [sR,t2]) (fun v=>by simp (decide:=true) only [sR];rfl) e
     | true=>
      rw [h1] at e
      simp only [sN] at e
      cases h2:digD p.2==[] with
      | false=>
       have:¬digD p.2=[]:=by simpa using h2
       rw [h2] at e
       rw [if_neg (fun hh=>this hh.2)]
       exact v2.out _ _ none (fun x hx=>by cases hx) (fun v=>by simp (decide:=true) only [sR,t2]) (fun v=>by simp (decide:=true) only [sR];rfl) e
      | true=>
       have:digD p.2=[]:=by simpa using h2
       rw [h2] at e
       rw [if_pos ⟨rfl,this⟩]
       exact v2.out _ _ (some _) (fun x hx=>Option.some.inj hx) (fun v=>by simp (decide:=true) only [sR,t2]) (fun v=>by simp (decide:=true) only [sR];rfl) e
theorem mid26(σ0 σ:St)(b2 b4:Nat)(r:RecD)(h:Rc σ0 σ b2 b4 r)(r2:List UInt8)(hs:r2.length<1099511627776)(ok:Bool)(T:Rg)(t2:T 2= .ptr b2 0)(t4:T 4= .ptr b4 0)(t6:T 6=str r2)(t8:T 8=boolV ok):
  Out26 σ0 (denK tab W 94 c26d k46 T σ) (if ok=true then st2 {r with evL:=r.old} r2 else none):=by
 have e:=ec26d k46 T σ
 simp only [sN,t8] at e
 cases ok with
 | false=>
  simp only [sN,t4,t2] at e
  exact h.out _ _ none (fun x hx=>by cases hx) (fun v=>by simp (decide:=true) only [sR,t2]) (fun v=>by simp (decide:=true) only [sR];rfl) e
 | true=>
  simp only [if_true]
  simp only [sN] at e
  rw [ec26e] at e
  obtain ⟨σ1,u1,u2⟩:=h.upd 72 sz72 1 (by omega) .u64 r.old {r with evL:=r.old} rfl
  have ldo:loadV tab σ 72 (.ptr b4 3)= .ok (intV .u64 r.old):=ld l72 h.a4 rfl
  simp (decide:=true) only [sN,sR,t4,fa77_2,fa77_1,fa74_0,Nat.zero_add,ldo,u1] at e
  rw [ec26f] at e
  obtain ⟨σ2,v1,v2⟩:=u2.upd 72 sz72 2 (by omega) .u64 (numC (digP r2)).1 {r with evL:=r.old,evN:=(numC (digP r2)).1} rfl
  have hf:fieldAddr tab 74 (.ptr b4 (0+1)) 1= .ok (.ptr b4 2):=fa74_1 b4 1
  simp (decide:=true) only [sN,sR,t4,t6,W55 r2 hs,fa77_1,fa74_1,Nat.zero_add,v1] at e
  rw [e]
  exact last26 σ0 σ2 b2 b4 _ v2 (digD r2) (Nat.lt_of_le_of_lt (digD_len r2) hs) _ _ (by simp (decide:=true) only [sR,t2]) (by simp (decide:=true) only [sR,t4]) (by simp (decide:=true) only [sR]) (by simp (decide:=true) only [sR])
theorem W26(s:List UInt8)(hs:s.length<1099511627776)(σ:St)(hw:WF σ):Out26 σ (W 26 [str s] σ) (refRec s):=by
 have e:=ec26 k46 (str s) σ
 obtain ⟨σ1,hσ1⟩:∃σ1,σ1=(σ.push (.cells (recC zeroRec) 77 true 6)).push (.cells (recC zeroRec) 77 true 6):=⟨_,rfl⟩
 have hR:Rc σ σ1 σ.n (σ.n+1) zeroRec:=by
  rw [hσ1]
  exact ⟨WF.push (WF.push hw _) _,(Grow.push _ _).trans (Grow.push _ _),(At.new σ _).push _,At.new (σ.push _) _,Nat.le_refl _,by omega,by omega⟩
 simp only [sN,alloc77',push_n,← hσ1,W55 s hs] at e
 rw [ec26a] at e
 have pull:∀q,Out26 σ (denK tab W 94 c26 k46 (argE [str s]) σ) q→Out26 σ (W 26 [str s] σ) q:=by
  rintro q ⟨r,σ',q1,q2⟩
  exact ⟨r,σ',w26 (by simp) q1,q2⟩
 refine pull _ ?_
 simp (decide:=true) only [sN,pickV_boolV,sR] at e
 have hdl:=digD_len s
 unfold refRec
 cases h1:okN (digP s) with
 | false=>
  rw [h1] at e
  simp only [sN,pickV_boolV] at e
  rw [if_neg (by simp)]
  exact hR.out _ _ none (fun x hx=>by cases hx) (fun v=>by simp (decide:=true) only [sR]) (fun v=>by simp (decide:=true) only [sR];rfl) e
 | true=>
  rw [h1] at e
  simp only [sN,pickV_boolV] at e
  cases h2:decide ((numC (digP s)).1>1000) with
  | true=>
   have:¬((numC (digP s)).1≤1000):=by have:=of_decide_eq_true h2;omega
   rw [h2] at e
   simp only [sN,pickV_boolV] at e
   rw [if_neg (fun hh=>this hh.2)]
   exact hR.out _ _ none (fun x hx=>by cases hx) (fun v=>by simp (decide:=true) only [sR]) (fun v=>by simp (decide:=true) only [sR];rfl) e
  | false=>
   have hle:(numC (digP s)).1≤1000:=by have:=of_decide_eq_false h2;omega
   rw [h2] at e
   simp only [sN,pickV_boolV] at e
   rw [if_pos ⟨rfl,hle⟩]
   cases hd:digD s with
   | nil=>
    rw [hd] at e
    have d:(([]:List UInt8)==[])=true:=rfl
    simp only [sN,d] at e
    exact hR.out _ _ none (fun x hx=>by cases hx) (fun v=>by simp (decide:=true) only [sR]) (fun v=>by simp (decide:=true) only [sR];rfl) e
   | cons c r1=>
    rw [hd] at e hdl
    have d:((c::r1)==[])=false:=rfl
    simp only [sN,d,index0] at e
    simp only
    by_cases hc:c=32
    ·have d2:(((c.toNat:Nat):Int) !=32)=false:=by rw [hc];rfl
     simp only [sN,d2] at e
     rw [if_pos hc]
     rw [ec26b] at e
     obtain ⟨σ2,u1,u2⟩:=hR.upd 3 sz3 0 (by omega) .i64 (numC (digP s)).1 {zeroRec with rule:=(numC (digP s)).1} rfl
     simp (decide:=true) only [sN,sR,convR_int u72 u3,numC_i64,fa77_0,u1] at e
     rw [ec26c] at e
     have sl1:sliceV tab 9 (str (c::r1)) (some (intV .i64 1)) none none= .ok (str r1):=sliceS_lo (c::r1) 1 (by simp)
     obtain ⟨σ3,k1,k2⟩:=W56 r1 [35] (by simp at hdl;omega) (by simp) σ2 u2.wf
     simp (decide:=true) only [sN,sR,sl1,k1] at e
     unfold st1
     cases hL:labdS r1 [35] with
     | none=>
      rw [hL] at e
      obtain ⟨σ4,v1,v2⟩:=(u2.step k2).upd 72 sz72 3 (by omega) .u64 0 {zeroRec with rule:=(numC (digP s)).1,old:=0} rfl
      simp (decide:=true) only [labdR,sN,fa77_2,Nat.zero_add,v1] at e
      rw [e]
      exact mid26 σ σ4 σ.n (σ.n+1) _ v2 [] (by simp) false _ (by simp (decide:=true) only [sR]) (by simp (decide:=true) only [sR]) (by simp (decide:=true) only [sR]) (by simp (decide:=true) only [sR])
     | some p=>
      have hpl:=labdS_len hL
      rw [hL] at e
      obtain ⟨σ4,v1,v2⟩:=(u2.step k2).upd 72 sz72 3 (by omega) .u64 (p.1:Int) {zeroRec with rule:=(numC (digP s)).1,old:=(p.1:Int)} rfl
      simp (decide:=true) only [labdR,sN,fa77_2,Nat.zero_add,v1] at e
      rw [e]
      exact mid26 σ σ4 σ.n (σ.n+1) _ v2 p.2 (by simp at hdl;omega) true _ (by simp (decide:=true) only [sR]) (by simp (decide:=true) only [sR]) (by simp (decide:=true) only [sR]) (by simp (decide:=true) only [sR])
    ·have d2:(((c.toNat:Nat):Int) !=32)=true:=by
      rw [bne_iff_ne]
      intro h
      have:c.toNat=32:=by omega
      exact hc (UInt8.toNat_inj.1 this)
     simp only [sN,d2] at e
     rw [if_neg hc]
     exact hR.out _ _ none (fun x hx=>by cases hx) (fun v=>by simp (decide:=true) only [sR]) (fun v=>by simp (decide:=true) only [sR];rfl) e
end Go.Proofs.YtahgmmbmmcaejaaGreatDoor
namespace Go.Proofs.YtahgmmbmmcaejaaGreatDoor
open Go Go.Dt
set_option maxRecDepth 100000
def joinW(c:UInt8):List (List UInt8)→List UInt8
 | []=>[]
 | [w]=>w
 | w::ws=>w++c::joinW c ws
theorem join_split(c:UInt8):∀l,joinW c (splitB c l)=l
 | []=>rfl
 | x::l=>by
  have ih:=join_split c l
  rw [splitB_cons]
  have hne:=splitB_ne c l
  cases hs:splitB c l with
  | nil=>exact (hne hs).elim
  | cons w ws=>
   rw [hs] at ih
   by_cases hx:x=c
   ·rw [if_pos hx,hx]
    show []++c::joinW c (w::ws)=c::l
    rw [ih];rfl
   ·rw [if_neg hx]
    cases ws with
    | nil=>
     have:w=l:=ih
     rw [this];rfl
    | cons y ys=>
     have:w++c::joinW c (y::ys)=l:=ih
     show (x::w)++c::joinW c (y::ys)=x::l
     rw [← this];rfl
theorem split_app{c:UInt8}{t:List UInt8}:∀ {w:List UInt8},(∀x∈w,x≠c)→splitB c (w++c::t)=w::splitB c t
 | [],_=>by rw [List.nil_append,splitB_cons,if_pos rfl]
 | x::w,h=>by
  rw [List.cons_append,splitB_cons,if_neg (h x (by simp)),split_app (w:=w) (fun y hy=>h y (by simp [hy]))]
  rfl
theorem split_one{c:UInt8}:∀ {w:List UInt8},(∀x∈w,x≠c)→splitB c w=[w]
 | [],_=>rfl
 | x::w,h=>by
  rw [splitB_cons,if_neg (h x (by simp)),split_one (w:=w) (fun y hy=>h y (by simp [hy]))]
  rfl
theorem ixB_app{c:UInt8}{t:List UInt8}:∀ {w:List UInt8},(∀x∈w,x≠c)→ixB (w++c::t) c=some w.length
 | [],_=>by simp [ixB,List.findIdx?_cons]
 | x::w,h=>by
  have hx:(x==c)=false:=by simpa using h x (by simp)
  have ih:=ixB_app (t:=t) (w:=w) (fun y hy=>h y (by simp [hy]))
  unfold ixB at ih ⊢
  rw [List.cons_append,List.findIdx?_cons,hx,ih]
  rfl
theorem ixB_get{l:List UInt8}{c:UInt8}{i:Nat}(h:ixB l c=some i):l=l.take i++c::l.drop (i+1):=by
 have hlt:=ixB_lt h
 unfold ixB at h
 rw [List.findIdx?_eq_some_iff_getElem] at h
 obtain ⟨h1,h2,_⟩:=h
 have:l[i]=c:=by simpa using h2
 conv=>lhs;rw [← List.take_append_drop i l,List.drop_eq_getElem_cons hlt,this]
theorem digs_no(c:UInt8)(hc:isDig c=false){l:List UInt8}(h:∀x∈l,isDig x=true):∀x∈l,x≠c:=by
 intro x hx hxc
 have:=h x hx
 rw [hxc,hc] at this;cases this
theorem labs_no(c:UInt8)(hc:labC c=false){l:List UInt8}(h:∀x∈l,labC x=true):∀x∈l,x≠c:=by
 intro x hx hxc
 have:=h x hx
 rw [hxc,hc] at this;cases this
theorem digP_app{c:UInt8}{t:List UInt8}(hc:isDig c=false):∀ {w:List UInt8},(∀x∈w,isDig x=true)→digP (w++c::t)=w
 | [],_=>by simp [digP,hc]
 | x::w,h=>by
  have:=digP_app (t:=t) hc (w:=w) (fun y hy=>h y (by simp [hy]))
  unfold digP at this ⊢
  rw [List.cons_append,List.takeWhile,h x (by simp),this]
theorem digP_all:∀ {w:List UInt8},(∀x∈w,isDig x=true)→digP w=w
 | [],_=>rfl
 | x::w,h=>by
  have:=digP_all (w:=w) (fun y hy=>h y (by simp [hy]))
  unfold digP at this ⊢
  rw [List.takeWhile,h x (by simp),this]
theorem dig_split(s:List UInt8):s=digP s++digD s:=by
 unfold digD digP
 conv=>lhs;rw [← List.takeWhile_append_dropWhile (p:=isDig) (l:=s)]
 congr 1
 have:s.drop (s.takeWhile isDig).length=s.dropWhile isDig:=by
  conv=>lhs;rw [← List.takeWhile_append_dropWhile (p:=isDig) (l:=s)]
  have h:=List.drop_left (l₁:=s.takeWhile isDig) (l₂:=s.dropWhile isDig)
  rw [List.takeWhile_append_dropWhile] at h ⊢
  exact h
 exact this.symm
theorem labdS_some{s mark:List UInt8}{p:Nat×List UInt8}(h:labdS s mark=some p):∃L,s=L++(mark++p.2)∧labP L=some p.1:=by
 unfold labdS at h
 cases hs:labS s with
 | none=>rw [hs] at h;cases h
 | some q=>
  obtain ⟨v,n⟩:=q
  rw [hs] at h
  simp only at h
  split at h
  ·cases h
  ·rename_i hc
   have hc1:¬s.length<n+mark.length:=fun hh=>hc (.inl hh)
   have hc2:(s.drop n).take mark.length=mark:=by
    by_cases hh:(s.drop n).take mark.length=mark
    ·exact hh
    ·exact (hc (.inr hh)).elim
   have:=Option.some.inj h
   subst this
   refine ⟨s.take n,?_,labP_take hs⟩
   have h1:s=s.take n++s.drop n:=(List.take_append_drop n s).symm
   have h2:s.drop n=mark++s.drop (n+mark.length):=by
    conv=>lhs;rw [← List.take_append_drop mark.length (s.drop n),hc2,List.drop_drop]
   rw [← h2];exact h1
theorem labdS_app{L mark rest:List UInt8}{v:Nat}(h:labP L=some v):labdS (L++(mark++rest)) mark=some (v,rest):=by
 unfold labdS
 rw [labS_app h]
 have h1:(L++(mark++rest)).drop L.length=mark++rest:=List.drop_left
 simp only
 rw [if_neg]
 ·congr 2
  rw [← List.drop_drop,h1];exact List.drop_left
 ·rintro (hh | hh)
  ·simp at hh;omega
  ·rw [h1] at hh
   exact hh List.take_left
def recIs(s:List UInt8)(r:RecD):Prop:=∃R L N M T,s=R++32::(L++35::(N++([32,45,62,32]++(M++([32,64]++T)))))∧okN R=true∧(numC R).1≤1000∧okL L=true∧okN N=true∧okL M=true∧okN T=true∧
 r= {rule:=(numC R).1,evL:=labV L,evN:=(numC N).1,old:=labV L,new:=labV M,tick:=(numC T).1}
theorem okL_some{l:List UInt8}(h:okL l=true):∃v,labP l=some v∧labV l=(v:Int):=by
 unfold okL at h
 cases hl:labP l with
 | none=>rw [hl] at h;cases h
 | some v=>exact ⟨v,rfl,by unfold labV;rw [hl];rfl⟩
theorem okL_of{l:List UInt8}{v:Nat}(h:labP l=some v):okL l=true∧labV l=(v:Int):=by
 unfold okL labV;rw [h];exact ⟨rfl,rfl⟩
theorem recP_is{s:List UInt8}(h:(recP s).2=true):recIs s (recP s).1:=by
 have hj:=join_split 32 s
 unfold recP at h ⊢
 split at h
 ·rename_i w0 w1 w2 w3 w4 hsp
  split at h
  ·rename_i hc
   obtain ⟨h2,h4⟩:=hc
   simp only [recW,Bool.and_eq_true,decide_eq_true_eq] at h
   obtain ⟨⟨⟨⟨⟨⟨k0,k1⟩,k2⟩,k3⟩,k4⟩,k5⟩,k6⟩:=h
   rw [hsp] at hj
   have hw1:w1=(cutB w1 35).1++35::(cutB w1 35).2.1:=by
    unfold cutB at k1 ⊢
    cases hi:ixB w1 35 with
    | none=>rw [hi] at k1;cases k1
    | some i=>exact ixB_get hi
   have hw4:w4=64::w4.drop 1:=by
    unfold hasPre at h4
    cases w4 with
    | nil=>cases h4
    | cons x l=>
     simp only [List.isPrefixOf,Bool.and_eq_true,beq_iff_eq] at h4
     rw [← h4.1];rfl
   refine ⟨w0,(cutB w1 35).1,(cutB w1 35).2.1,w3,w4.drop 1,?_,k0,k6,k4,k2,k5,k3,?_⟩
   ·rw [← hj]
    show w0++32::(w1++32::(w2++32::(w3++32::w4)))=_
    conv=>lhs;rw [hw1,h2,hw4]
    simp
   ·simp only [h2,h4,and_self,if_true];rfl
  ·cases h
 ·cases h
theorem recP_of{s:List UInt8}{r:RecD}(h:recIs s r):recP s=(r,true):=by
 obtain ⟨R,L,N,M,T,rfl,k0,k6,k4,k2,k5,k3,rfl⟩:=h
 obtain ⟨v1,l1,l1'⟩:=okL_some k4
 obtain ⟨v2,l2,l2'⟩:=okL_some k5
 have cR:=(okN_chars k0).1
 have cN:=(okN_chars k2).1
 have cT:=(okN_chars k3).1
 have cL:=labP_chars l1
 have cM:=labP_chars l2
 have e1:R++32::(L++35::(N++([32,45,62,32]++(M++([32,64]++T)))))=R++32::((L++35::N)++32::([45,62]++32::(M++32::(64::T)))):=by simp
 have hsp:splitB 32 (R++32::(L++35::(N++([32,45,62,32]++(M++([32,64]++T))))))=[R,L++35::N,[45,62],M,64::T]:=by
  rw [e1,split_app (digs_no 32 rfl cR),split_app,split_app,split_app (labs_no 32 rfl cM),split_one]
  ·intro x hx
   rcases List.mem_cons.1 hx with rfl | hx
   ·decide
   ·exact digs_no 32 rfl cT x hx
  ·intro x hx
   simp only [List.mem_cons,List.not_mem_nil,or_false] at hx
   rcases hx with rfl | rfl<;>decide
  ·intro x hx
   rcases List.mem_append.1 hx with hx | hx
   ·exact labs_no 32 rfl cL x hx
   ·rcases List.mem_cons.1 hx with rfl | hx
    ·decide
    ·exact digs_no 32 rfl cN x hx
 have hcut:cutB (L++35::N) 35=(L,N,true):=by
  unfold cutB
  rw [ixB_app (labs_no 35 rfl cL)]
  simp
 unfold recP
 rw [hsp]
 simp only
 rw [if_pos ⟨trivial,rfl⟩]
 unfold recW
 rw [hcut]
 simp only [List.drop_succ_cons,List.drop_zero,k0,k2,k3,k4,k5,Bool.and_self,decide_eq_true k6]
theorem refRec_is{s:List UInt8}{r:RecD}(h:refRec s=some r):recIs s r:=by
 unfold refRec at h
 split at h
 ·rename_i h0
  split at h
  ·cases h
  ·rename_i c r1 hd
   split at h
   ·rename_i hc
    subst hc
    unfold st1 at h
    cases hL:labdS r1 [35] with
    | none=>rw [hL] at h;cases h
    | some p=>
     rw [hL] at h
     simp only at h
     obtain ⟨L,e1,l1⟩:=labdS_some hL
     unfold st2 at h
     split at h
     ·rename_i h2
      unfold st3 at h
      split at h
      ·rename_i h4
       cases hM:labdS ((digD p.2).drop 4) [32,64] with
       | none=>rw [hM] at h;cases h
       | some q=>
        rw [hM] at h
        simp only at h
        obtain ⟨M,e2,l2⟩:=labdS_some hM
        split at h
        ·rename_i h5
         have:=Option.some.inj h
         subst this
         have hq:q.2=digP q.2:=by
          have:=dig_split q.2
          rw [h5.2,List.append_nil] at this;exact this
         refine ⟨digP s,L,digP p.2,M,digP q.2,?_,h0.1,h0.2,(okL_of l1).1,h2,(okL_of l2).1,h5.1,?_⟩
         ·conv=>lhs;rw [dig_split s,hd,e1,dig_split p.2]
          have h6:digD p.2=[32,45,62,32]++(digD p.2).drop 4:=by
           conv=>lhs;rw [← List.take_append_drop 4 (digD p.2),h4]
          rw [h6,e2,← hq]
          simp
         ·rw [(okL_of l1).2,(okL_of l2).2]
        ·cases h
      ·cases h
     ·cases h
   ·cases h
 ·cases h
theorem refRec_of{s:List UInt8}{r:RecD}(h:recIs s r):refRec s=some r:=by
 obtain ⟨R,L,N,M,T,rfl,k0,k6,k4,k2,k5,k3,rfl⟩:=h
 obtain ⟨v1,l1,l1'⟩:=okL_some k4
 obtain ⟨v2,l2,l2'⟩:=okL_some k5
 have cR:=(okN_chars k0).1
 have cN:=(okN_chars k2).1
 have cT:=(okN_chars k3).1
 have dR:digP (R++32::(L++35::(N++([32,45,62,32]++(M++([32,64]++T))))))=R:=digP_app rfl cR
 have dR2:digD (R++32::(L++35::(N++([32,45,62,32]++(M++([32,64]++T))))))=32::(L++35::(N++([32,45,62,32]++(M++([32,64]++T))))):=by
  unfold digD;rw [dR];exact List.drop_left
 unfold refRec
 rw [dR,dR2,if_pos ⟨k0,k6⟩]
 simp only [if_true]
 unfold st1
 have hl1:labdS (L++35::(N++([32,45,62,32]++(M++([32,64]++T))))) [35]=some (v1,N++([32,45,62,32]++(M++([32,64]++T)))):=labdS_app (mark:=[35]) l1
 rw [hl1]
 simp only
 have dN:digP (N++([32,45,62,32]++(M++([32,64]++T))))=N:=by
  have:=digP_app (t:=45::62::32::(M++([32,64]++T))) (c:=32) rfl cN
  exact this
 have dN2:digD (N++([32,45,62,32]++(M++([32,64]++T))))=[32,45,62,32]++(M++([32,64]++T)):=by
  unfold digD;rw [dN];exact List.drop_left
 unfold st2
 simp only [dN,dN2]
 rw [if_pos k2]
 unfold st3
 have ht4:([32,45,62,32]++(M++([32,64]++T))).take 4=[32,45,62,32]:=rfl
 rw [if_pos ht4]
 have hd4:([32,45,62,32]++(M++([32,64]++T))).drop 4=M++([32,64]++T):=rfl
 rw [hd4,labdS_app l2]
 simp only
 have dT:digP T=T:=digP_all cT
 have dT2:digD T=[]:=by unfold digD;rw [dT];exact List.drop_length
 rw [dT,dT2,if_pos ⟨k3,rfl⟩,l1',l2']
theorem rec_same(s:List UInt8):refRec s=bif (recP s).2 then some (recP s).1 else none:=by
 cases h:(recP s).2 with
 | true=>exact refRec_of (recP_is h)
 | false=>
  cases hr:refRec s with
  | none=>rfl
  | some r=>
   have:=recP_of (refRec_is hr)
   rw [this] at h;cases h
end Go.Proofs.YtahgmmbmmcaejaaGreatDoor
namespace Go.Proofs.YtahgmmbmmcaejaaGreatDoor
open Go Go.Dt
set_option maxRecDepth 100000
def recHd:List UInt8:=[114,101,99,111,114,100,32]
def iQ(s:List UInt8):Option (ItemD×List (List UInt8)×Int):=parseQ (splitB 32 s)
inductive ReadIs(σ0 σ:St)(s:List UInt8):AV→Prop
 | head (h:(headP s).2=true):ReadIs σ0 σ s (.iface 70 (.agg (headC (headP s).1)))
 | recd (h:(headP s).2=false) (h1:hasPre s recHd=true) (h2:(recP (s.drop 7)).2=true):ReadIs σ0 σ s (.iface 76 (.agg (recC (recP (s.drop 7)).1)))
 | norec (h:(headP s).2=false) (h1:hasPre s recHd=true) (h2:(recP (s.drop 7)).2=false):ReadIs σ0 σ s (.base .nilIface)
 | item (cs:List AV) (fp:List Nat) (h:(headP s).2=false) (h1:hasPre s recHd=false) (h2:finE (iQ s)=0) (hx:ItemR σ cs (finI (iQ s)) fp) (hfp:∀y∈fp,σ0.n≤y):ReadIs σ0 σ s (.iface 78 (.agg cs))
 | noitem (h:(headP s).2=false) (h1:hasPre s recHd=false) (h2:finE (iQ s)≠0):ReadIs σ0 σ s (.base .nilIface)
theorem W22(s:List UInt8)(hs:s.length<490000000)(σ:St)(hw:WF σ):∃v σ',W 22 [str s] σ= .ok (.ret v,σ')∧Grow σ σ'∧ReadIs σ σ' s v:=by
 have e:=ec22 (kRet tab [.tmp 2]) (str s) σ
 obtain ⟨σ1,k1,k2⟩:=W44 s (by omega) σ hw
 have hw1:=k2.wf hw
 have hA1:=At.new σ1 (.cells (headC zeroRep) 36 true 6)
 have hst1:=st36 (r':=(headP s).1) hA1
 obtain ⟨σ2,hσ2⟩:∃σ2,σ2=(σ1.push (.cells (headC zeroRep) 36 true 6)).set σ1.n (.cells (headC (headP s).1) 36 true 6):=⟨_,rfl⟩
 rw [← hσ2] at hst1
 have hA2:At σ2 σ1.n (.cells (headC (headP s).1) 36 true 6):=by rw [hσ2];exact hA1.set_same (WF.push hw1 _) _
 have hg2:Grow σ σ2:=by rw [hσ2];exact (k2.trans (Grow.push _ _)).set k2.n hA1.1 _
 have hw2:=hg2.wf hw
 simp only [sN,k1,alloc36,hst1,ld36 hA2] at e
 cases hh:(headP s).2 with
 | true=>
  rw [hh] at e
  simp (decide:=true) only [sN,r22,sR] at e
  exact ⟨_,σ2,w22 (by simp) e,hg2,.head hh⟩
 | false=>
  rw [hh] at e
  have w45:=W45 s recHd σ2
  unfold recHd at w45
  simp only [sN,w45] at e
  cases hp:hasPre s recHd with
  | true=>
   have hcp:cutPre s [114,101,99,111,114,100,32]=(s.drop 7,true):=by
    show (if hasPre s recHd=true then _ else _)=_
    rw [if_pos hp];rfl
   obtain ⟨σ3,j1,j2⟩:=W46 (s.drop 7) (by simp;omega) σ2 hw2
   have hA3:=At.new σ3 (.cells (recC zeroRec) 77 true 6)
   have hst3:=st77 (r':=(recP (s.drop 7)).1) hA3
   obtain ⟨σ4,hσ4⟩:∃σ4,σ4=(σ3.push (.cells (recC zeroRec) 77 true 6)).set σ3.n (.cells (recC (recP (s.drop 7)).1) 77 true 6):=⟨_,rfl⟩
   rw [← hσ4] at hst3
   have hA4:At σ4 σ3.n (.cells (recC (recP (s.drop 7)).1) 77 true 6):=by rw [hσ4];exact hA3.set_same (WF.push (j2.wf hw2) _) _
   have hg4:Grow σ2 σ4:=by rw [hσ4];exact (j2.trans (Grow.push _ _)).set j2.n hA3.1 _
   rw [hcp] at e
   simp only [sN,j1,alloc77',hst3] at e
   cases hr:(recP (s.drop 7)).2 with
   | true=>
    rw [hr] at e
    simp (decide:=true) only [sN,ld77 hA4,r22,sR] at e
    exact ⟨_,σ4,w22 (by simp) e,hg2.trans hg4,.recd hh hp hr⟩
   | false=>
    rw [hr] at e
    simp (decide:=true) only [sN,r22,sR] at e
    exact ⟨_,σ4,w22 (by simp) e,hg2.trans hg4,.norec hh hp hr⟩
  | false=>
   have hcp:cutPre s [114,101,99,111,114,100,32]=(s,false):=by
    show (if hasPre s recHd=true then _ else _)=_
    rw [hp];rfl
   obtain ⟨cs,σ3,fp,j1,j2,j3,j4⟩:=W47 s (by omega) σ2 hw2
   have hA3:=At.new σ3 (.cells zero41 41 true 7)
   have hst3:=stItem (j3.grow (Grow.push σ3 (.cells zero41 41 true 7))) hA3
   obtain ⟨σ4,hσ4⟩:∃σ4,σ4=(σ3.push (.cells zero41 41 true 7)).set σ3.n (.cells cs 41 true 7):=⟨_,rfl⟩
   rw [← hσ4] at hst3
   have hA4:At σ4 σ3.n (.cells cs 41 true 7):=by rw [hσ4];exact hA3.set_same (WF.push (j2.wf hw2) _) _
   have hg34:Grow σ3 σ4:=by rw [hσ4];exact (Grow.push _ _).set (Nat.le_refl _) hA3.1 _
   rw [hcp] at e
   simp only [sN,j1,alloc41',hst3] at e
   have hf:finE (iQ s)=finE (parseQ (splitB 32 s)):=rfl
   cases hz:finE (parseQ (splitB 32 s))==0 with
   | true=>
    have hz':finE (iQ s)=0:=by rw [hf];simpa using hz
    rw [hz] at e
    simp (decide:=true) only [sN,ldIt hA4 j3.len,r22,sR] at e
    exact ⟨_,σ4,w22 (by simp) e,(hg2.trans j2).trans hg34,.item cs fp hh hp hz' (j3.grow hg34) (fun y hy=>Nat.le_trans hg2.n (j4 y hy))⟩
   | false=>
    have hz':finE (iQ s)≠0:=by rw [hf];simpa using hz
    rw [hz] at e
    simp (decide:=true) only [sN,r22,sR] at e
    exact ⟨_,σ4,w22 (by simp) e,(hg2.trans j2).trans hg34,.noitem hh hp hz'⟩
end Go.Proofs.YtahgmmbmmcaejaaGreatDoor
namespace Go.Proofs.YtahgmmbmmcaejaaGreatDoor
open Go Go.Dt
set_option maxRecDepth 100000
inductive RepsR(σ:St):List (List AV)→List RepD→List (List Nat)→Prop
 | nil:RepsR σ [] [] []
 | cons {cs:List AV} {r:RepD} {f:List Nat} {rows:List (List AV)} {rs:List RepD} {fs:List (List Nat)} (h:RepR σ cs r f) (t:RepsR σ rows rs fs):RepsR σ (cs::rows) (r::rs) (f::fs)
theorem RepsR.mod{σ σ':St}{P:List Nat}(hm:Mod P σ σ'):∀ {rows:List (List AV)} {rs:List RepD} {fs:List (List Nat)},RepsR σ rows rs fs→(∀y∈fs.flatten,y∉P)→RepsR σ' rows rs fs
 | _,_,_,.nil,_=> .nil
 | _,_,_,.cons h t,hp=> .cons (h.mod hm fun y hy=>hp y (by simp [hy])) (RepsR.mod hm t fun y hy=>hp y (by
   simp only [List.flatten_cons,List.mem_append];exact .inr hy))
theorem RepsR.grow{σ σ':St}{rows:List (List AV)}{rs:List RepD}{fs:List (List Nat)}(h:RepsR σ rows rs fs)(hg:Grow σ σ'):RepsR σ' rows rs fs:=h.mod (hg.mod []) (by simp)
theorem RepsR.snoc{σ:St}{cs:List AV}{r:RepD}{f:List Nat}(hx:RepR σ cs r f):∀ {rows:List (List AV)} {rs:List RepD} {fs:List (List Nat)},RepsR σ rows rs fs→RepsR σ (rows++[cs]) (rs++[r]) (fs++[f])
 | _,_,_,.nil=> .cons hx .nil
 | _,_,_,.cons h t=> .cons h (RepsR.snoc hx t)
theorem RepsR.lens{σ:St}:∀ {rows:List (List AV)} {rs:List RepD} {fs:List (List Nat)},RepsR σ rows rs fs→(∀r∈rows,r.length=6)∧rows.length=rs.length
 | _,_,_,.nil=>by simp
 | _,_,_,.cons h t=>by
  have:=RepsR.lens t
  refine ⟨fun r hr=> ?_,by simp [this.2]⟩
  rcases List.mem_cons.1 hr with rfl | hr
  ·exact h.len
  ·exact this.1 r hr
theorem RepsR.last{σ:St}{r:RepD}:∀ {rs:List RepD} {rows:List (List AV)} {fs:List (List Nat)},RepsR σ rows (rs++[r]) fs→∃rows' cs fs' f,rows=rows'++[cs]∧fs=fs'++[f]∧RepsR σ rows' rs fs'∧RepR σ cs r f
 | [],_,_,h=>by
  cases h with
  | cons h t=>
   cases t
   exact ⟨[],_,[],_,rfl,rfl,.nil,h⟩
 | x::rs,_,_,h=>by
  cases h with
  | cons h t=>
   obtain ⟨rows',cs,fs',f,rfl,rfl,k1,k2⟩:=RepsR.last (rs:=rs) t
   exact ⟨_::rows',cs,_::fs',f,rfl,rfl,.cons h k1,k2⟩
theorem RepR.lt{σ:St}{cs:List AV}{r:RepD}{f:List Nat}(h:RepR σ cs r f):∀y∈f,y<σ.n:=by
 have vlt:∀ {e sz n:Nat} {v:AV} {cs:List AV} {fp:List Nat},Vec σ e sz n v cs fp→∀y∈fp,y<σ.n:=by
  intro e sz n v cs fp hV y hy
  rcases hV.is with ⟨_,_,rfl⟩ | ⟨b,_,hA,rfl⟩
  ·cases hy
  ·simp only [List.mem_singleton] at hy;subst hy;exact hA.1
 have rlt:∀ {rows:List (List AV)} {xs:List ItemD} {fp:List Nat},RowsR σ rows xs fp→∀y∈fp,y<σ.n:=by
  intro rows xs fp hR
  induction hR with
  | nil=>intro y hy;cases hy
  | cons h t ih=>
   intro y hy
   rcases List.mem_append.1 hy with hy | hy
   ·obtain ⟨_,_,_,f1,f2,f3,_,k1,k2,k3,rfl⟩:=h.is
    simp only [List.mem_append] at hy
    rcases hy with (hy | hy) | hy
    ·exact vlt k1 y hy
    ·exact vlt k2 y hy
    ·exact vlt k3 y hy
   ·exact ih y hy
 obtain ⟨iv,rv,rows,f1,f2,f3,_,k1,k2,k3,rfl⟩:=h.is
 intro y hy
 simp only [List.mem_append] at hy
 rcases hy with (hy | hy) | hy
 ·exact vlt k1 y hy
 ·exact rlt k2 y hy
 ·exact vlt k3 y hy
theorem Vec.lt{σ:St}{e sz n:Nat}{v:AV}{cs:List AV}{fp:List Nat}(hV:Vec σ e sz n v cs fp):∀y∈fp,y<σ.n:=by
 intro y hy
 rcases hV.is with ⟨_,_,rfl⟩ | ⟨b,_,hA,rfl⟩
 ·cases hy
 ·simp only [List.mem_singleton] at hy;subst hy;exact hA.1
theorem ItemR.lt{σ:St}{cs:List AV}{x:ItemD}{f:List Nat}(h:ItemR σ cs x f):∀y∈f,y<σ.n:=by
 obtain ⟨_,_,_,f1,f2,f3,_,k1,k2,k3,rfl⟩:=h.is
 intro y hy
 simp only [List.mem_append] at hy
 rcases hy with (hy | hy) | hy
 ·exact k1.lt y hy
 ·exact k2.lt y hy
 ·exact k3.lt y hy
structure OutR(σ0 σ:St)(v:AV)(rs:List RepD):Prop where
 wf:WF σ
 grow:Grow σ0 σ
 is:∃rows f0 fs,Vec σ 36 6 rs.length v rows.flatten f0∧RepsR σ rows rs fs∧(f0++fs.flatten).Nodup∧∀y∈f0++fs.flatten,σ0.n≤y
theorem OutR.nil{σ0 σ:St}(hw:WF σ)(hg:Grow σ0 σ):OutR σ0 σ nilS []:=⟨hw,hg,[],[],[],Vec.nil _ _ _,.nil,by simp,by simp⟩
theorem OutR.step{σ0 σ σ':St}{v:AV}{rs:List RepD}(h:OutR σ0 σ v rs)(hg:Grow σ σ'):OutR σ0 σ' v rs:=by
 obtain ⟨rows,f0,fs,k1,k2,k3,k4⟩:=h.is
 exact ⟨hg.wf h.wf,h.grow.trans hg,rows,f0,fs,k1.grow hg,k2.grow hg,k3,k4⟩
theorem OutR.len{σ0 σ:St}{v:AV}{rs:List RepD}(h:OutR σ0 σ v rs){t:Nat}(ht:sliceB t=true):lenV tab t v= .ok (intV .i64 (rs.length:Int)):=by
 obtain ⟨rows,f0,fs,k1,_⟩:=h.is
 exact k1.lenV ht
theorem app23:appB 23 23 36 6=true:=by kernel_rfl
theorem app34:appB 34 34 77 6=true:=by kernel_rfl
theorem app33:appB 33 33 41 7=true:=by kernel_rfl
theorem el23:elemB 23 36 6=true:=by kernel_rfl
theorem sl23:sliceB 23=true:=by kernel_rfl
theorem l23:leafB 23=true:=by kernel_rfl
theorem sz34:sizeB 34 1=true:=by kernel_rfl
theorem sz33:sizeB 33 1=true:=by kernel_rfl
theorem sz23:sizeB 23 1=true:=by kernel_rfl
theorem headR(σ:St)(r:RepD)(hi:r.items=[])(hr:r.recs=[]):RepR σ (headC r) r []:=
 ⟨nilS,nilS,[],[],[],[],rfl,by rw [hi];exact Vec.nil _ _ _,by rw [hi];exact .nil,by rw [hr];exact Vec.nil _ _ _,rfl⟩
theorem headC_len(r:RepD):(headC r).length=6:=rfl
theorem OutR.addRep{σ0 σ:St}{v:AV}{rs:List RepD}(h:OutR σ0 σ v rs)(hn:rs.length+1<1073741824)(r:RepD)(hi:r.items=[])(hr:r.recs=[]):
  beqA v v=true∧bndA (σ.n+1) v=true∧∃σ1 v',appendV tab (σ.push (.cells (headC r) 36 true 6)) 23 23 v (.slice σ.n 0 1 (some 1) 6)= .ok (v',σ1)∧σ1.n=σ.n+2∧bndA (σ.n+2) v'=true∧OutR σ0 σ1 v' (rs++[r])∧
   ∀(b:Nat) (cs:List AV) (e sz:Nat) (ow:Bool),e≠36→At σ b (.cells cs e ow sz)→At σ1 b (.cells cs e ow sz):=by
 obtain ⟨rows,f0,fs,k1,k2,k3,k4⟩:=h.is
 obtain ⟨σ1,v',a1,a2,a3,a4⟩:=vapp (new:=headC r) app23 h.wf k1 hn (headC_len r) rfl
 have hn0:=h.grow.n
 refine ⟨k1.beq,k1.bnd (by omega),σ1,v',a1,a4,a2.bnd (by omega),⟨a3.wf h.wf,?_,rows++[headC r],[σ.n+1],fs++[[]],?_,?_,?_,?_⟩,?_⟩
 ·exact ((h.grow.mod []).trans' a3 (fun y hy=> .inr (k4 y (by simp [hy])))).grow (by simp)
 ·rw [List.flatten_append,List.length_append]
  have:[headC r].flatten=headC r:=by simp
  rw [this];exact a2
 ·refine RepsR.snoc (headR σ1 r hi hr) (k2.mod a3 ?_)
  intro y hy hy0
  exact (List.nodup_append.1 k3).2.2 y hy0 y hy rfl
 ·rw [List.flatten_append]
  simp only [List.flatten_cons,List.flatten_nil,List.append_nil,List.singleton_append,List.nodup_cons]
  refine ⟨?_,(List.nodup_append.1 k3).2.1⟩
  intro hy
  have:σ.n+1<σ.n:=by
   have hlt:∀ {rows:List (List AV)} {rs:List RepD} {fs:List (List Nat)},RepsR σ rows rs fs→∀y∈fs.flatten,y<σ.n:=by
    intro rows rs fs hh
    induction hh with
    | nil=>intro y hy;cases hy
    | cons h t ih=>
     intro y hy
     simp only [List.flatten_cons,List.mem_append] at hy
     rcases hy with hy | hy
     ·exact h.lt y hy
     ·exact ih y hy
   exact hlt k2 _ hy
  omega
 ·intro y hy
  rw [List.flatten_append] at hy
  simp only [List.flatten_cons,List.flatten_nil,List.append_nil,List.singleton_append,List.mem_cons] at hy
  rcases hy with rfl | hy
  ·omega
  ·exact k4 y (by simp [hy])
 ·intro b cs e sz ow he hA
  exact hA.mod a3 (fun hb=>k1.off hA (by omega) b hb rfl)
end Go.Proofs.YtahgmmbmmcaejaaGreatDoor
