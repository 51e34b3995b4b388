/-
  A part of the proof. No statement of this seat stands here.
-/
import Derived.Test.YtahgmmbmmcaejaaGreatDoorP23
namespace Go.Proofs.YtahgmmbmmcaejaaGreatDoor
open Go Go.Dt
set_option maxRecDepth 100000
theorem parseL_ok(s:List UInt8):∀(n at':Nat) (rs:List RepD),rs.length≤400→(∀r∈rs,okRep r)→(parseL n s at' rs).2.length≤400∧∀r∈(parseL n s at' rs).2,okRep r
 | 0,_,rs,h1,h2=>⟨h1,h2⟩
 | n+1,at',rs,h1,h2=>by
  unfold parseL
  split
  ·exact ⟨h1,h2⟩
  ·simp only
   cases hw:(cutB (s.drop at') 10).2.2 with
   | false=>exact ⟨by simp [bne],by intro r hr;cases hr⟩
   | true=>
    simp only [condT]
    cases hz:(lineS rs (cutB (s.drop at') 10).1).2 !=0 with
    | true=>exact ⟨by simp [],by intro r hr;cases hr⟩
    | false=>
     simp only [condF]
     have hz0:(lineS rs (cutB (s.drop at') 10).1).2=0:=by simpa using hz
     obtain ⟨l1,l2⟩:=lineS_ok h1 h2 hz0
     exact parseL_ok s n _ _ l1 l2
theorem parseS_ok(s:List UInt8):(parseS s).2.length≤400∧∀r∈(parseS s).2,okRep r:=by
 unfold parseS
 split
 ·exact ⟨by simp,by intro r hr;cases hr⟩
 ·exact parseL_ok s _ _ _ (by simp) (by simp)
theorem W3(s:List UInt8)(σ:St)(hw:WF σ)(hM:σ.M=M0):∃σ',W 3 [str s] σ= .ok (.ret (boolV true),σ'):=by
 have e:=ec3 (kRet tab [.tmp 2]) (str s) σ
 simp only [sN,sC] at e
 cases hc:((decide ((s.length:Int)>3000) && decide ((s.length:Int)<20000)) || decide ((s.length:Int)>20010)) with
 | true=>
  rw [hc] at e
  simp (decide:=true) only [sN,W4 σ hM,r3,sR] at e
  exact ⟨σ,w3 (by simp) e⟩
 | false=>
  have hlen:s.length≤20010:=by
   simp only [Bool.or_eq_false_iff,decide_eq_false_iff_not] at hc
   omega
  obtain ⟨v1,σ1,k1,k2⟩:=W5 s (by omega) σ hw
  obtain ⟨σ2,n1,n2,n3,n4⟩:=putFault k2.grow k2.wf (fltE (parseS s).1).1 (fltE (parseS s).1).2
  have hg12:Grow σ1 σ2:=by
   obtain ⟨σ2',n1',n2',_⟩:=putFault (Grow.refl σ1) k2.wf (fltE (parseS s).1).1 (fltE (parseS s).1).2
   have:σ2=σ2':=Except.ok.inj (n1.symm.trans n1')
   rw [this];exact n2'
  obtain ⟨v2,σ3,j1,j2⟩:=W6 s (by omega) σ2 n3
  obtain ⟨σ4,m1,m2,m3,m4⟩:=putFault j2.grow j2.wf (fltE (parseS s).1).1 (fltE (parseS s).1).2
  have hg34:Grow σ3 σ4:=by
   obtain ⟨σ4',n1',n2',_⟩:=putFault (Grow.refl σ3) j2.wf (fltE (parseS s).1).1 (fltE (parseS s).1).2
   have:σ4=σ4':=Except.ok.inj (m1.symm.trans n1')
   rw [this];exact n2'
  have hg24:=m2
  obtain ⟨o1,o2⟩:=parseS_ok s
  have hOk:∀r∈(parseS s).2,okRepL r:=fun r hr=>⟨by have:=(o2 r hr).1;omega,by have:=(o2 r hr).2.1;omega,(o2 r hr).2.2⟩
  obtain ⟨σ5,q1,q2⟩:=W7 σ σ2 σ4 (parseS s).2 hOk (by omega) v1 v2 ((k2.step hg12).step hg24) (j2.step hg34)
  have A1:=(n4.grow hg24).grow q2
  have A2:=m4.grow q2
  have ld1:loadV tab σ5 26 (.ptr σ1.n 0)= .ok (.agg [intV .i64 (fltE (parseS s).1).1,intV .i64 (fltE (parseS s).1).2]):=load26 A1.1 A1.2
  have ld2:loadV tab σ5 26 (.ptr σ3.n 0)= .ok (.agg [intV .i64 (fltE (parseS s).1).1,intV .i64 (fltE (parseS s).1).2]):=load26 A2.1 A2.2
  have hM5:σ5.M=M0:=by rw [q2.M,hg24.M,n2.M];exact hM
  rw [hc] at e
  simp (decide:=true) only [sN,pickV_boolV,k1,alloc26,n1,j1,m1,q1,ld1,ld2,eq26s,W4 σ5 hM5,r3,sR] at e
  exact ⟨σ5,w3 (by simp) e⟩
end Go.Proofs.YtahgmmbmmcaejaaGreatDoor
