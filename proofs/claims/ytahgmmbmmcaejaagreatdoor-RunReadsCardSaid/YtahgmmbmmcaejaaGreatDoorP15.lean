/-
  A part of the proof. No statement of this seat stands here.
-/
import Derived.Test.YtahgmmbmmcaejaaGreatDoorP14
namespace Go.Proofs.YtahgmmbmmcaejaaGreatDoor
open Go Go.Dt
set_option maxRecDepth 100000
theorem u8e32(c:UInt8):(((c.toNat:Nat):Int)==32)=(c==32):=by
 rw [Bool.eq_iff_iff,beq_iff_eq,beq_iff_eq]
 exact ⟨fun h=>UInt8.toNat_inj.1 (by show c.toNat=32;omega),fun h=>by rw [h];rfl⟩
theorem u8e44(c:UInt8):(((c.toNat:Nat):Int)==44)=(c==44):=by
 rw [Bool.eq_iff_iff,beq_iff_eq,beq_iff_eq]
 exact ⟨fun h=>UInt8.toNat_inj.1 (by show c.toNat=44;omega),fun h=>by rw [h];rfl⟩
theorem u8n44(c:UInt8):(((c.toNat:Nat):Int) !=44)= !(c==44):=by rw [bne,u8e44]
theorem u8e123(c:UInt8):(((c.toNat:Nat):Int)==123)=(c==123):=by
 rw [Bool.eq_iff_iff,beq_iff_eq,beq_iff_eq]
 exact ⟨fun h=>UInt8.toNat_inj.1 (by show c.toNat=123;omega),fun h=>by rw [h];rfl⟩
theorem u8n123(c:UInt8):(((c.toNat:Nat):Int) !=123)= !(c==123):=by rw [bne,u8e123]
theorem u8e125(c:UInt8):(((c.toNat:Nat):Int)==125)=(c==125):=by
 rw [Bool.eq_iff_iff,beq_iff_eq,beq_iff_eq]
 exact ⟨fun h=>UInt8.toNat_inj.1 (by show c.toNat=125;omega),fun h=>by rw [h];rfl⟩
theorem u8n125(c:UInt8):(((c.toNat:Nat):Int) !=125)= !(c==125):=by rw [bne,u8e125]
def Ends(σ0:St)(r:R (AEnd×St)):Option (Nat×Nat)→Prop
 | some p=>∃σ',r= .ok (.ret (.tuple [intV .u64 (p.1:Int),intV .i64 ((p.2+1:Nat):Int),.agg [intV .i64 0,intV .i64 0]]),σ')∧Grow σ0 σ'
 | none=>Refused σ0 r
theorem loop81o(s:List UInt8)(hs:s.length<1099511627776)(σ0 σ:St)(b:Nat)(hN:Noted σ0 σ b):∀(m at':Nat),at'≤s.length→s.length<at'+m→∀(T:Rg) (l:Nat) (last:Int),l<18446744073709551616→In81 s b T l last→
  T 7=intV .i64 (at':Int)→
  ∃T' σ',loopLim (dd tab W 121 c81c) T σ= .ok (.ret T' σ')∧Ends σ0 (r93.ret T' σ') (labL m s l last at'):=by
 intro m
 induction m with
 | zero=>intro at' h1 h2;omega
 | succ m ih=>
  intro at' hle hm T l last hl hI h7
  have e:=ec81c kOc T σ
  simp only [mv_eq,g1_eq,g2_eq,g3_eq,bindR_val,h7,hI.h0,W97,retK_ret,unOp_not,condR_boolV] at e
  obtain ⟨ds,hds⟩:∃ds,(s.drop at').takeWhile isDig=ds:=⟨_,rfl⟩
  have refuse:∀(e0 a:Int),e0≠0→labL (m+1) s l last at'=none→(∀σ1 σ2,W 96 [intV .i64 e0,intV .i64 a] σ= .ok (.ret (.tuple [intV .u64 0,intV .i64 0,.agg [intV .i64 e0,intV .i64 a]]),σ1)→
    storeV tab σ1 26 (.ptr b 0) (.agg [intV .i64 e0,intV .i64 a])= .ok σ2→∃X,denK tab W 121 c81c kOc T σ= .ok (.ret X σ2)∧X 2=intV .u64 0∧X 3=intV .i64 0∧X 4= .ptr b 0)→
    ∃T' σ',loopLim (dd tab W 121 c81c) T σ= .ok (.ret T' σ')∧Ends σ0 (r93.ret T' σ') (labL (m+1) s l last at'):=by
   intro e0 a he hlab hX
   obtain ⟨σ1,σ2,f1,f2,f3,f4⟩:=hN.fail96 e0 a
   obtain ⟨X,hX,h2,h3,h4⟩:=hX σ1 σ2 f1 f2
   rw [hlab]
   exact ⟨X,σ2,loop_ret (dd_of tab W 121 hX),e0,a,σ2,he,r93_ret h2 h3 h4 f3,f4⟩
  cases hda:digAt s at' with
  | false=>
   have hdsn:ds=[]:=by
    rw [← hds]
    unfold digAt at hda
    cases hc:s[at']? with
    | none=>
     rw [List.drop_eq_nil_of_le (List.getElem?_eq_none_iff.1 hc)];rfl
    | some c=>
     rw [hc] at hda
     have hda:isDig c=false:=hda
     have hlt:=(List.getElem?_eq_some_iff.1 hc).1
     rw [List.drop_eq_getElem_cons hlt]
     have:s[at']=c:=by rw [List.getElem?_eq_getElem hlt] at hc;exact Option.some.inj hc
     rw [this,List.takeWhile_cons,hda];rfl
   simp only [hda,Bool.not_false,condT,hI.h4] at e
   refine refuse 3 (at':Int) (by decide) (by unfold labL;rw [hds,hdsn]) fun σ1 σ2 f1 f2=> ?_
   rw [e]
   simp only [f1,bindR_val,retK_ret,extractV_0,extractV_1,extractV_2,f2,kOc_ret]
   refine ⟨_,rfl,?_,?_,?_⟩<;>simp (decide:=true) only [puts_cons,puts_nil,putE_same,putE_ne,hI.h4]
  | true=>
   have tail:∀T0,In81 s b T0 l last→T0 7=intV .i64 (at':Int)→T0 8=intV .i64 (at':Int)→T0 9=intV .i64 ((0:Nat):Int)→
     denK tab W 121 c81c kOc T σ=bindR (loopLim (dd tab W 121 c81e) T0 σ) (K.app (kblk 2 (kseq (denK tab W 121 c81f (kblk 1 kOc)) (kblk 1 kOc))))→
     ∃T' σ',loopLim (dd tab W 121 c81c) T σ= .ok (.ret T' σ')∧Ends σ0 (r93.ret T' σ') (labL (m+1) s l last at'):=by
    clear e
    intro T0 hI0 h07 h08 h09 e
    obtain ⟨ka,kb⟩:=loop81i s hs σ0 σ b hN at' (s.length - at') at' (by omega) (Nat.le_refl _) (fun _=>by omega) T0 l last 0 (by omega) hI0 h07 h08 h09 ds hds
    by_cases hbad:ds≠[]∧s[at']? =some 48∧at'+1<at'+ds.length
    ·obtain ⟨T',σ',q1,q2⟩:=ka hbad
     rw [q1] at e
     simp only [bindR_val,app_ret,kblk_ret,kseq_ret,kOc_ret] at e
     have hnone:labL (m+1) s l last at'=none:=by
      unfold labL
      rw [hds]
      cases ds with
      | nil=>exact (hbad.1 rfl).elim
      | cons d ds=>
       simp only
       have h1:=(tw_head hds).1
       rw [List.getElem?_drop] at h1
       simp only [Nat.add_zero] at h1
       rw [hbad.2.1] at h1
       have h2:=hbad.2.2
       rw [if_pos]
       exact ⟨(Option.some.inj h1).symm,by intro hn;subst hn;simp at h2⟩
     rw [hnone]
     exact ⟨T',σ',loop_ret (dd_of tab W 121 e),q2⟩
    ·obtain ⟨T1,q1,i1,k7,k8,k9⟩:=kb hbad
     rw [q1] at e
     simp (decide:=true) only [bindR_val,app_exit,kblk_exit,if_true,kseq_nxt,ec81f,mv_eq,g1_eq,k9,binOp_int,intOp_gtr,condR_boolV] at e
     cases ds with
     | nil=>
      exfalso
      unfold digAt at hda
      cases hc:s[at']? with
      | none=>rw [hc] at hda;cases hda
      | some c=>
       rw [hc] at hda
       have hda:isDig c=true:=hda
       have hlt:=(List.getElem?_eq_some_iff.1 hc).1
       rw [List.drop_eq_getElem_cons hlt] at hds
       have:s[at']=c:=by rw [List.getElem?_eq_getElem hlt] at hc;exact Option.some.inj hc
       rw [this,List.takeWhile_cons,hda] at hds
       cases hds
     | cons d ds=>
      obtain ⟨hd0,hlen⟩:=tw_head hds
      rw [List.getElem?_drop,Nat.add_zero] at hd0
      rw [List.length_drop] at hlen
      have hz:¬(d=48∧ds≠[]):=by
       rintro ⟨h1,h2⟩
       apply hbad
       refine ⟨by simp,by rw [hd0,h1],?_⟩
       have:=List.length_pos_iff.2 h2
       simp;omega
      have hcap:(d::ds).foldl capF 0≤1000:=capF_le _ _ (by omega)
      have hlab:labL (m+1) s l last at'=(if 63<(d::ds).foldl capF 0∨(((d::ds).foldl capF 0:Nat):Int)≤last then none else
       match s[at'+(d::ds).length]? with
       | none=>none
       | some c=>
        if c=125 then some (l ||| 2^(d::ds).foldl capF 0,at'+(d::ds).length)
        else if c=44 then labL m s (l ||| 2^(d::ds).foldl capF 0) ((d::ds).foldl capF 0:Nat) (at'+(d::ds).length+1)
        else none):=by
       conv=>lhs;unfold labL
       rw [hds]
       simp only
       rw [if_neg hz]
       rfl
      obtain ⟨n,hn⟩:∃n,(d::ds).foldl capF 0=n:=⟨_,rfl⟩
      obtain ⟨q,hq⟩:∃q,at'+(d::ds).length=q:=⟨_,rfl⟩
      rw [hn,hq] at hlab
      rw [hn] at hcap k9
      rw [hq] at k7
      have hql:q≤s.length:=by rw [← hq];simp;omega
      have hq0:at'<q:=by rw [← hq];simp
      rw [hn] at e
      by_cases h63:63<n
      ·rw [if_pos (.inl h63)] at hlab
       have d1:decide ((n:Int)>63)=true:=by simp;omega
       simp only [d1,condT,g2_eq,g3_eq,i1.h4,k8] at e
       refine refuse 2 (at':Int) (by decide) hlab fun σ1 σ2 f1 f2=> ?_
       rw [e]
       simp only [f1,bindR_val,retK_ret,extractV_0,extractV_1,extractV_2,f2,kblk_ret,kOc_ret]
       refine ⟨_,rfl,?_,?_,?_⟩<;>simp (decide:=true) only [puts_cons,puts_nil,putE_same,putE_ne,i1.h4]
      ·have d1:decide ((n:Int)>63)=false:=by simp;omega
       simp (decide:=true) only [d1,condF,bindR_val,ec81g,mv_eq,g1_eq,puts_cons,puts_nil,putE_ne,k9,i1.h6,binOp_int,intOp_leq,condR_boolV] at e
       by_cases hlast:(n:Int)≤last
       ·rw [if_pos (.inr hlast)] at hlab
        have d2:decide ((n:Int)≤last)=true:=by simp [hlast]
        simp (decide:=true) only [d2,condT,g2_eq,g3_eq,i1.h4,k8] at e
        refine refuse 9 (at':Int) (by decide) hlab fun σ1 σ2 f1 f2=> ?_
        rw [e]
        simp only [f1,bindR_val,retK_ret,extractV_0,extractV_1,extractV_2,f2,kblk_ret,kOc_ret]
        refine ⟨_,rfl,?_,?_,?_⟩<;>simp (decide:=true) only [putE_same,putE_ne,i1.h4]
       ·rw [if_neg (fun h=>h.elim h63 hlast)] at hlab
        have d2:decide ((n:Int)≤last)=false:=by simp [hlast]
        have w0:IntKind.u64.wrap (n:Int)=(n:Int):=by rw [wrap64];omega
        have hor:=orN l (2^n) hl (by have:2^n<2^64:=Nat.pow_lt_pow_right (by omega) (by omega);omega)
        have hl':l ||| 2^n<18446744073709551616:=by
         have:l ||| 2^n<2^64:=Nat.or_lt_two_pow (by omega) (Nat.pow_lt_pow_right (by omega) (by omega))
         omega
        simp (decide:=true) only [d2,condF,ec81h,puts_cons,puts_nil,putE_ne,mv_eq,g1_eq,bindR_val,i1.h5,k9,k7,i1.h0,convR_int u3 u123,w0,binOp_int,shlN n (by omega),hor,lenS,intOp_eql,isBoolV_f] at e
        by_cases hqe:q=s.length
        ·have d3:(((q:Nat):Int)==(s.length:Int))=true:=by rw [beq_iff_eq];omega
         have hnone:s[q]? =none:=List.getElem?_eq_none (by omega)
         rw [hnone] at hlab
         simp (decide:=true) only [d3,Bool.not_true,condF,bindR_val,isBoolV_u,pickV_boolV,condT,condR_boolV,g2_eq,g3_eq,i1.h4] at e
         refine refuse 3 (q:Int) (by decide) hlab fun σ1 σ2 f1 f2=> ?_
         rw [e]
         simp only [f1,bindR_val,retK_ret,extractV_0,extractV_1,extractV_2,f2,kblk_ret,kOc_ret]
         refine ⟨_,rfl,?_,?_,?_⟩<;>simp (decide:=true) only [putE_same,putE_ne,i1.h4]
        ·have d3:(((q:Nat):Int)==(s.length:Int))=false:=by rw [beq_eq_false_iff_ne];omega
         obtain ⟨c,hc⟩:∃c,s[q]? =some c:=⟨s[q]'(by omega),List.getElem?_eq_getElem (by omega)⟩
         rw [hc] at hlab
         simp only at hlab
         have w5:IntKind.i64.wrap ((q:Int)+1)=((q+1:Nat):Int):=i64_add1 q (by omega)
         have w6:IntKind.i64.wrap (((q+1:Nat):Int) - 1)=(q:Int):=by
          simp [IntKind.wrap,IntKind.bits,IntKind.signed];omega
         simp (decide:=true) only [d3,Bool.not_false,condT,bindR_val,indexS s q c hc,binOp_int,intOp_neq,u8n44,isBoolV_t,intOp_add,w5,intOp_sub,w6,intOp_eql,u8e125] at e
         by_cases h125:c=125
         ·rw [if_pos h125] at hlab
          have d4:(c==125)=true:=by rw [h125];rfl
          have d5:(c==44)=false:=by rw [h125];rfl
          have d6:(((c.toNat:Nat):Int) !=125)=false:=by rw [u8n125,d4];rfl
          simp (decide:=true) only [d5,Bool.not_false,condT,bindR_val,intOp_neq,binOp_int,d6,pickV_boolV,condF,condR_boolV,indexS s q c hc,d4,g3_eq,build26_0,i1.h4] at e
          obtain ⟨c0,d0,hg⟩:=hN.get
          simp (decide:=true) only [store26 hN.lt hg,bindR_val,kblk_ret,kOc_ret] at e
          rw [hlab]
          refine ⟨_,_,loop_ret (dd_of tab W 121 e),_,r93_ret ?_ ?_ ?_ (load26 hN.lt (getO_set_same hN.wf hN.lt)),hN.grow.set hN.ge hN.lt _⟩<;>
           simp (decide:=true) only [putE_same,putE_ne,i1.h4]
         ·rw [if_neg h125] at hlab
          have d4:(c==125)=false:=by simpa using h125
          have d6:(((c.toNat:Nat):Int) !=125)=true:=by rw [u8n125,d4];rfl
          by_cases h44:c=44
          ·rw [if_pos h44] at hlab
           have d5:(c==44)=true:=by rw [h44];rfl
           simp (decide:=true) only [d5,Bool.not_true,condF,bindR_val,pickV_boolV,condR_boolV,d4,kblk_nxt,kOc_nxt] at e
           have key:∃T3,denK tab W 121 c81c kOc T σ= .ok (.nxt T3 σ)∧In81 s b T3 (l ||| 2^n) (n:Int)∧T3 7=intV .i64 ((q+1:Nat):Int):=by
            refine ⟨_,e,⟨?_,?_,?_,?_⟩,?_⟩<;>simp (decide:=true) only [putE_same,putE_ne,i1.h0,i1.h4]
           obtain ⟨T3,e3,i3,k37⟩:=key
           obtain ⟨T',σ',r1,r2⟩:=ih (q+1) (by omega) (by omega) T3 (l ||| 2^n) (n:Int) hl' i3 k37
           rw [hlab]
           exact ⟨T',σ',loop_next (dd_of tab W 121 e3) r1,r2⟩
          ·rw [if_neg h44] at hlab
           have d5:(c==44)=false:=by simpa using h44
           simp (decide:=true) only [d5,Bool.not_false,condT,g2_eq,g3_eq,bindR_val,i1.h4,indexS s q c hc,binOp_int,intOp_neq,d6,pickV_boolV,condF,condR_boolV] at e
           refine refuse 3 (q:Int) (by decide) hlab fun σ1 σ2 f1 f2=> ?_
           rw [e]
           simp only [f1,bindR_val,retK_ret,extractV_0,extractV_1,extractV_2,f2,kblk_ret,kOc_ret]
           refine ⟨_,rfl,?_,?_,?_⟩<;>simp (decide:=true) only [putE_same,putE_ne,i1.h4]
   simp (decide:=true) only [hda,Bool.not_true,condF,ec81d,mv_eq,bindR_val,puts_cons,puts_nil,putE_ne,h7] at e
   refine tail _ ⟨?_,?_,?_,?_⟩ ?_ ?_ ?_ e<;>simp (decide:=true) only [putE_same,putE_ne,hI.h0,hI.h4,hI.h5,hI.h6,h7]<;>rfl
end Go.Proofs.YtahgmmbmmcaejaaGreatDoor
namespace Go.Proofs.YtahgmmbmmcaejaaGreatDoor
open Go Go.Dt
set_option maxRecDepth 100000
theorem W81(s:List UInt8)(hs:s.length<1099511627776)(σ:St)(hw:WF σ):labOut σ (W 81 [str s] σ) (labS s):=by
 have pull:∀(r:AEnd×St),denK tab W 121 c81 r93 (argE [str s]) σ= .ok r→W 81 [str s] σ= .ok r:=fun r h=>w81 (by simp) h
 have pullR:Refused σ (denK tab W 121 c81 r93 (argE [str s]) σ)→Refused σ (W 81 [str s] σ):=by
  rintro ⟨e,a,σ',he,h,g⟩
  exact ⟨e,a,σ',he,pull _ h,g⟩
 obtain ⟨σ1,hσ1⟩:∃σ1,σ1=σ.push (.cells [intV .i64 0,intV .i64 0] 26 true 2):=⟨_,rfl⟩
 have hN:Noted σ σ1 σ.n:=by
  rw [hσ1]
  exact ⟨WF.push hw _,by rw [push_n];omega,Nat.le_refl _,⟨0,0,getO_push_new⟩,Grow.push _ _⟩
 have e:=ec81 r93 (str s) σ
 simp only [mv_eq,g1_eq,g2_eq,g3_eq,bindR_val,alloc26,binOp_str,strOp_eql,isBoolV_f,← hσ1] at e
 have refuse:∀(e0 a:Int),e0≠0→(∀σ2 σ3,W 96 [intV .i64 e0,intV .i64 a] σ1= .ok (.ret (.tuple [intV .u64 0,intV .i64 0,.agg [intV .i64 e0,intV .i64 a]]),σ2)→
   storeV tab σ2 26 (.ptr σ.n 0) (.agg [intV .i64 e0,intV .i64 a])= .ok σ3→∃X,denK tab W 121 c81 r93 (argE [str s]) σ=r93.ret X σ3∧X 2=intV .u64 0∧X 3=intV .i64 0∧X 4= .ptr σ.n 0)→Refused σ (W 81 [str s] σ):=by
  intro e0 a he hX
  obtain ⟨σ2,σ3,f1,f2,f3,f4⟩:=hN.fail96 e0 a
  obtain ⟨X,hX,h2,h3,h4⟩:=hX σ2 σ3 f1 f2
  exact pullR ⟨e0,a,σ3,he,by rw [hX];exact r93_ret h2 h3 h4 f3,f4⟩
 have good:∀(l u:Int),(∀σ3,storeV tab σ1 26 (.ptr σ.n 0) (.agg [intV .i64 0,intV .i64 0])= .ok σ3→∃X,denK tab W 121 c81 r93 (argE [str s]) σ=r93.ret X σ3∧X 2=intV .u64 l∧X 3=intV .i64 u∧X 4= .ptr σ.n 0)→
   ∃σ',W 81 [str s] σ= .ok (.ret (.tuple [intV .u64 l,intV .i64 u,.agg [intV .i64 0,intV .i64 0]]),σ')∧Grow σ σ':=by
  intro l u hX
  obtain ⟨c,d,hg⟩:=hN.get
  obtain ⟨X,h3',h2,h3,h4⟩:=hX _ (store26 hN.lt hg)
  refine ⟨_,pull _ (h3'.trans (r93_ret h2 h3 h4 (load26 hN.lt (getO_set_same hN.wf hN.lt)))),hN.grow.set hN.ge hN.lt _⟩
 cases s with
 | nil=>
  have e1:(([]:List UInt8)==[])=true:=rfl
  simp only [e1,Bool.not_true,condF,bindR_val,pickV_boolV,condT,condR_boolV] at e
  show Refused σ _
  refine refuse 3 0 (by decide) fun σ2 σ3 f1 f2=> ?_
  rw [e,f1]
  simp only [bindR_val,retK_ret,extractV_0,extractV_1,extractV_2,f2]
  refine ⟨_,rfl,?_,?_,?_⟩<;>simp (decide:=true) only [puts_cons,puts_nil,putE_same,putE_ne]
 | cons c s=>
  have e1:((c::s:List UInt8)==[])=false:=rfl
  simp only [e1,Bool.not_false,condT,bindR_val,index0,binOp_int,intOp_neq,pickV_boolV,condF,condR_boolV,u8n123] at e
  by_cases h123:c=123
  ·have d1:(!(c==123))=false:=by rw [h123];rfl
   simp (decide:=true) only [d1,condF,ec81a,puts_cons,puts_nil,putE_ne,mv_eq,g1_eq,bindR_val,argE,List.getD_cons_zero,lenS,binOp_int,intOp_gtr,isBoolV_t] at e
   have hl0:labS (c::s)=(if (c::s)[1]? =some 125 then some (0,2) else match labL ((c::s).length+1) (c::s) 0 (-1) 1 with
     | some p=>some (p.1,p.2+1)
     | none=>none):=by
    unfold labS
    rw [if_pos (by simp [h123])]
    rfl
   rw [hl0]
   have tail:∀T:Rg,In81 (c::s) σ.n T 0 (-1)→T 7=intV .i64 ((1:Nat):Int)→denK tab W 121 c81 r93 (argE [str (c::s)]) σ=
      bindR (loopLim (dd tab W 121 c81c) T σ1) (K.app (kblk 0 r93))→
     labOut σ (W 81 [str (c::s)] σ) (match labL ((c::s).length+1) (c::s) 0 (-1) 1 with
     | some p=>some (p.1,p.2+1)
     | none=>none):=by
    intro T hI h7 hden
    obtain ⟨T',σ',r1,r2⟩:=loop81o (c::s) hs σ σ1 σ.n hN ((c::s).length+1) 1 (by simp) (by simp;omega) T 0 (-1) (by omega) hI h7
    rw [r1] at hden
    simp only [bindR_val,app_ret,kblk_ret] at hden
    cases hp:labL ((c::s).length+1) (c::s) 0 (-1) 1 with
    | some p=>
     rw [hp] at r2
     obtain ⟨σ2,q1,q2⟩:=r2
     exact ⟨σ2,pull _ (hden.trans q1),q2⟩
    | none=>
     rw [hp] at r2
     refine pullR ?_
     rw [hden]
     exact r2
   cases s with
   | nil=>
    have d2:decide ((([c].length:Nat):Int)>1)=false:=rfl
    simp (decide:=true) only [d2,condF,bindR_val,pickV_boolV,condR_boolV,ec81b,mv_eq] at e
    rw [if_neg (by simp)]
    refine tail _ ⟨?_,?_,?_,?_⟩ ?_ e<;>simp (decide:=true) only [puts_cons,puts_nil,putE_same,putE_ne]<;>rfl
   | cons d s=>
    have d2:decide ((((c::d::s).length:Nat):Int)>1)=true:=by simp;omega
    have hi1:indexV tab 9 (str (c::d::s)) (intV .i64 1)= .ok (intV .u8 d.toNat):=indexS (c::d::s) 1 d rfl
    simp only [d2,condT,bindR_val,hi1,binOp_int,intOp_eql,pickV_boolV,condR_boolV,u8e125] at e
    by_cases h125:d=125
    ·have d3:(d==125)=true:=by rw [h125];rfl
     rw [if_pos (by simp [h125])]
     simp (decide:=true) only [d3,condT,g3_eq,bindR_val,build26_0,putE_same] at e
     refine good 0 2 fun σ3 f=> ?_
     rw [e,f]
     simp only [bindR_val]
     refine ⟨_,rfl,?_,?_,?_⟩<;>simp (decide:=true) only [putE_same,putE_ne]
    ·have d3:(d==125)=false:=by simpa using h125
     rw [if_neg (by simpa using h125)]
     simp (decide:=true) only [d3,condF,ec81b,mv_eq,bindR_val] at e
     refine tail _ ⟨?_,?_,?_,?_⟩ ?_ e<;>simp (decide:=true) only [puts_cons,puts_nil,putE_same,putE_ne]<;>rfl
  ·have d1:(!(c==123))=true:=by simpa using h123
   have hl0:labS (c::s)=none:=by
    unfold labS
    rw [if_neg (by simpa using h123)]
   rw [hl0]
   simp only [d1,condT] at e
   show Refused σ _
   refine refuse 3 0 (by decide) fun σ2 σ3 f1 f2=> ?_
   rw [e,f1]
   simp only [bindR_val,retK_ret,extractV_0,extractV_1,extractV_2,f2]
   refine ⟨_,rfl,?_,?_,?_⟩<;>simp (decide:=true) only [puts_cons,puts_nil,putE_same,putE_ne]
end Go.Proofs.YtahgmmbmmcaejaaGreatDoor
namespace Go.Proofs.YtahgmmbmmcaejaaGreatDoor
open Go Go.Dt
set_option maxRecDepth 100000
def At(σ:St)(b:Nat)(o:AO):Prop:=b<σ.n∧σ.getO b=o
theorem At.new(σ:St)(o:AO):At (σ.push o) σ.n o:=⟨by rw [push_n];omega,getO_push_new⟩
theorem At.push{σ:St}{b:Nat}{o:AO}(h:At σ b o)(o':AO):At (σ.push o') b o:=⟨by rw [push_n];have:=h.1;omega,by rw [getO_push_old h.1];exact h.2⟩
theorem At.set_same{σ:St}{b:Nat}{o:AO}(hw:WF σ)(h:At σ b o)(o':AO):At (σ.set b o') b o':=⟨h.1,getO_set_same hw h.1⟩
theorem At.set_ne{σ:St}{b c:Nat}{o:AO}(h:At σ c o)(hb:b<σ.n)(hne:c≠b)(o':AO):At (σ.set b o') c o:=⟨h.1,by rw [getO_set_other hb (Ne.symm hne)];exact h.2⟩
structure Mod(P:List Nat)(σ σ':St):Prop where
 n:σ.n≤σ'.n
 old:∀b,b<σ.n→b∉P→σ'.getO b=σ.getO b
 len:σ.l.length=σ.n→σ'.l.length=σ'.n
 M:σ'.M=σ.M
theorem Mod.refl(P:List Nat)(σ:St):Mod P σ σ:=⟨Nat.le_refl _,fun _ _ _=>rfl,id,rfl⟩
theorem Mod.trans{P:List Nat}{a b c:St}(h:Mod P a b)(k:Mod P b c):Mod P a c:=
 ⟨Nat.le_trans h.n k.n,fun x hx hp=>(k.old x (Nat.lt_of_lt_of_le hx h.n) hp).trans (h.old x hx hp),fun hl=>k.len (h.len hl),k.M.trans h.M⟩
theorem Mod.trans'{P Q:List Nat}{a b c:St}(h:Mod P a b)(k:Mod Q b c)(hq:∀x∈Q,x∈P∨a.n≤x):Mod P a c:=
 ⟨Nat.le_trans h.n k.n,fun x hx hp=>(k.old x (Nat.lt_of_lt_of_le hx h.n) (fun hxq=>(hq x hxq).elim hp (fun h=>by omega))).trans (h.old x hx hp),fun hl=>k.len (h.len hl),k.M.trans h.M⟩
theorem Mod.mono{P Q:List Nat}{a b:St}(h:Mod P a b)(hq:∀x∈P,x∈Q∨a.n≤x):Mod Q a b:=
 (Mod.refl Q a).trans' h hq
theorem Grow.mod{σ σ':St}(h:Grow σ σ')(P:List Nat):Mod P σ σ':=⟨h.n,fun b hb _=>h.old b hb,h.len,h.M⟩
theorem Mod.grow{P:List Nat}{σ σ':St}(h:Mod P σ σ')(hp:∀x∈P,σ.n≤x):Grow σ σ':=⟨h.n,fun b hb=>h.old b hb (fun hx=>by have:=hp b hx;omega),h.len,h.M⟩
theorem Mod.wf{P:List Nat}{σ σ':St}(h:Mod P σ σ')(hw:WF σ):WF σ':=h.len hw
theorem At.mod{P:List Nat}{σ σ':St}{b:Nat}{o:AO}(h:Mod P σ σ')(hp:b∉P)(ha:At σ b o):At σ' b o:=⟨Nat.lt_of_lt_of_le ha.1 h.n,by rw [h.old b ha.1 hp];exact ha.2⟩
theorem At.grow{σ σ':St}{b:Nat}{o:AO}(h:Grow σ σ')(ha:At σ b o):At σ' b o:=⟨Nat.lt_of_lt_of_le ha.1 h.n,by rw [h.old b ha.1];exact ha.2⟩
theorem Mod.push(P:List Nat)(σ:St)(o:AO):Mod P σ (σ.push o):=(Grow.push σ o).mod P
theorem Mod.set{P:List Nat}{σ:St}{b:Nat}(hb:b∈P)(hlt:b<σ.n)(o:AO):Mod P σ (σ.set b o):=
 ⟨Nat.le_refl _,fun x _ hx=>by rw [getO_set_other hlt (by intro h;apply hx;rw [← h];exact hb)],fun hl=>by simp [St.set];exact hl,rfl⟩
noncomputable def leafB(t:Nat):Bool:=match und tab t with
 | .ok d=> !isAggD d
 | .error _=>false
noncomputable def aggB(t n:Nat):Bool:=match und tab t,size tab t with
 | .ok d,.ok m=>isAggD d && m==n
 | _,_=>false
noncomputable def sizeB(t n:Nat):Bool:=match size tab t with
 | .ok m=>m==n
 | _=>false
theorem ld{σ:St}{t b o:Nat}{cs:List AV}{e sz:Nat}{ow:Bool}{v:AV}(ht:leafB t=true)(h:At σ b (.cells cs e ow sz))(hv:cs[o]? =some v):loadV tab σ t (.ptr b o)= .ok v:=by
 unfold leafB at ht
 cases hu:und tab t with
 | error e=>rw [hu] at ht;cases ht
 | ok d=>rw [hu] at ht;exact loadV_cell hu (by simpa using ht) h.1 h.2 hv
theorem lda{σ:St}{t n b o:Nat}{cs:List AV}{e sz:Nat}{ow:Bool}{l:List AV}(ht:aggB t n=true)(h:At σ b (.cells cs e ow sz))(hl:(cs.drop o).take n=l)(hn:l.length=n):loadV tab σ t (.ptr b o)= .ok (.agg l):=by
 unfold aggB at ht
 cases hu:und tab t with
 | error e=>rw [hu] at ht;cases ht
 | ok d=>
  rw [hu] at ht
  cases hs:size tab t with
  | error e=>rw [hs] at ht;cases ht
  | ok m=>
   rw [hs] at ht
   simp only [Bool.and_eq_true,beq_iff_eq] at ht
   obtain ⟨h1,rfl⟩:=ht
   subst hl
   exact loadV_agg hu h1 hs h.1 h.2 hn
theorem sizeB_of{t n:Nat}(ht:sizeB t n=true):size tab t= .ok n:=by
 unfold sizeB at ht
 cases hs:size tab t with
 | error e=>rw [hs] at ht;cases ht
 | ok m=>rw [hs] at ht;simp only [beq_iff_eq] at ht;rw [ht]
theorem stv{σ:St}{t n b o:Nat}{cs:List AV}{e sz:Nat}{x:AV}(ht:sizeB t n=true)(h:At σ b (.cells cs e true sz))(hx:x.cells.length=n)(h0:0<n)(hle:o+n≤cs.length)(hone:x.cells.all AV.oneCell=true):
  storeV tab σ t (.ptr b o) x= .ok (σ.set b (.cells (splice cs o x.cells) e true sz)):=
 storeV_at (sizeB_of ht) hx h0 h.1 h.2 hle hone
def nilS:AV:= .base (.slice none 0 0)
structure Vec(σ:St)(e sz n:Nat)(v:AV)(cs:List AV)(fp:List Nat):Prop where
 len:cs.length=n*sz
 is:(v=nilS∧n=0∧fp=[])∨∃b,v= .slice b 0 n none sz∧At σ b (.cells cs e true sz)∧fp=[b]
theorem Vec.nil(σ:St)(e sz:Nat):Vec σ e sz 0 nilS [] []:=⟨by simp,.inl ⟨rfl,rfl,rfl⟩⟩
theorem Vec.mod{σ σ':St}{e sz n:Nat}{v:AV}{cs:List AV}{fp P:List Nat}(h:Vec σ e sz n v cs fp)(hm:Mod P σ σ')(hp:∀x∈fp,x∉P):Vec σ' e sz n v cs fp:=by
 refine ⟨h.len,?_⟩
 rcases h.is with h1 | ⟨b,h1,h2,h3⟩
 ·exact .inl h1
 ·exact .inr ⟨b,h1,h2.mod hm (hp b (by rw [h3];simp)),h3⟩
theorem Vec.grow{σ σ':St}{e sz n:Nat}{v:AV}{cs:List AV}{fp:List Nat}(h:Vec σ e sz n v cs fp)(hm:Grow σ σ'):Vec σ' e sz n v cs fp:=h.mod (hm.mod []) (by simp)
noncomputable def sliceB(t:Nat):Bool:=match und tab t with
 | .ok (.slice _)=>true
 | _=>false
theorem Vec.lenV{σ:St}{e sz n:Nat}{v:AV}{cs:List AV}{fp:List Nat}(h:Vec σ e sz n v cs fp){t:Nat}(ht:sliceB t=true):lenV tab t v= .ok (intV .i64 (n:Int)):=by
 unfold sliceB at ht
 split at ht
 ·rename_i el hu
  rcases h.is with ⟨h1,h2,_⟩ | ⟨b,h1,_,_⟩
  ·subst h1;subst h2;simp [Dt.lenV,hu,nilS,bindR_eq];rfl
  ·subst h1;simp [Dt.lenV,hu,bindR_eq];rfl
 ·cases ht
noncomputable def elemB(t e sz:Nat):Bool:=match sliceElem tab t,size tab e with
 | .ok e',.ok s=>e'==e && s==sz
 | _,_=>false
theorem elemB_of{t e sz:Nat}(h:elemB t e sz=true):sliceElem tab t= .ok e∧size tab e= .ok sz:=by
 unfold elemB at h
 cases h1:sliceElem tab t with
 | error _=>rw [h1] at h;cases h
 | ok e'=>
  cases h2:size tab e with
  | error _=>rw [h1,h2] at h;cases h
  | ok s=>
   rw [h1,h2] at h
   simp only [Bool.and_eq_true,beq_iff_eq] at h
   rw [h.1,h.2];exact ⟨rfl,rfl⟩
theorem und_elem{t e:Nat}(h:sliceElem tab t= .ok e):und tab t= .ok (.slice e):=by
 unfold sliceElem at h
 rw [bindR_eq,bindR_ok] at h
 obtain ⟨d,h1,h2⟩:=h
 cases d<;>simp at h2
 rename_i x
 rw [h1,h2]
theorem ixAddr{t e sz b o len i:Nat}{cap:Option Nat}{z:Nat}(ht:elemB t e sz=true)(hi:i<len):indexAddr tab t (.slice b o len cap z) (intV .i64 (i:Int))= .ok (.ptr b (o+i*sz)):=by
 obtain ⟨h1,h2⟩:=elemB_of ht
 have hi':(i:Int)<(len:Int):=by omega
 simp [indexAddr,asI,intV,und_elem h1,h2,bindR_eq,hi']
noncomputable def appB(sT xT e sz:Nat):Bool:=match sliceElem tab sT,size tab e,inf tab e,und tab xT,zero tab e with
 | .ok e',.ok s',.ok i,.ok xd,.ok z=>e'==e && s'==sz && decide (0<i.bytes∧i.bytes<2^14∧0<sz) && !isIntD xd && z.cells.length==sz
 | _,_,_,_,_=>false
theorem app1{sT xT e sz n:Nat}{σ:St}{v:AV}{cs new:List AV}{fp:List Nat}(hok:appB sT xT e sz=true)(_:WF σ)(hV:Vec σ e sz n v cs fp)(hn:n+1<1073741824)(hl:new.length=sz)(hone:new.all AV.oneCell=true):
  ∃σ',appendV tab (σ.push (.cells new e true sz)) sT xT v (.slice σ.n 0 1 (some 1) sz)= .ok (.slice (σ.n+1) 0 (n+1) none sz,σ')∧At σ' (σ.n+1) (.cells (cs++new) e true sz)∧Mod fp σ σ'∧σ'.n=σ.n+2:=by
 unfold appB at hok
 split at hok
 ·rename_i e' s' i xd z h1 h2 h3 h4 h5
  simp only [Bool.and_eq_true,beq_iff_eq,decide_eq_true_eq,Bool.not_eq_true'] at hok
  obtain ⟨⟨⟨⟨rfl,rfl⟩,hb⟩,hx⟩,hz⟩:=hok
  have hsrc:srcCells (σ.push (.cells new e' true s')) s' (.slice σ.n 0 1 (some 1) s')= .ok (new,1):=by
   have hlt:σ.n<(σ.push (.cells new e' true s')).n:=by rw [push_n];omega
   have ht:new.take s'=new:=List.take_of_length_le (by omega)
   simp [srcCells,cellsOf,hlt,getO_push_new,takeN,bindR_eq,ht,hl]
  have hc:(!(decide (1<2^30) && decide (0<i.bytes∧i.bytes<2^14∧0<s') && !isIntD xd && z.cells.length==s'))=false:=by
   simp only [Bool.not_eq_false',Bool.and_eq_true,decide_eq_true_eq,beq_iff_eq,hx,Bool.not_false,hz,and_true]
   exact ⟨by omega,hb⟩
  rcases hV.is with ⟨rfl,rfl,rfl⟩ | ⟨b,rfl,hat,rfl⟩
  ·have hcs:cs=[]:=List.length_eq_zero_iff.1 (by rw [hV.len];simp)
   subst hcs
   refine ⟨(σ.push (.cells new e' true s')).push (.cells new e' true s'),?_,?_,?_,by simp [push_n]⟩
   ·simp only [appendV,h1,h2,h3,h4,h5,hsrc,bindR_eq,bindR_val,hc,nilS]
    rfl
   ·exact At.new _ _
   ·exact (Mod.push _ _ _).trans (Mod.push _ _ _)
  ·have hat1:=hat.push (.cells new e' true s')
   have hold:(cs.drop 0).take (n*s')=cs:=by rw [List.drop_zero];exact List.take_of_length_le (by rw [hV.len];omega)
   refine ⟨((σ.push (.cells new e' true s')).set b .gone).push (.cells (cs++new) e' true s'),?_,?_,?_,by simp [push_n,set_n]⟩
   ·have c2:(!(decide (n+1<2^30) && true))=false:=by simp;omega
    simp only [appendV,h1,h2,h3,h4,h5,hsrc,bindR_eq,bindR_val,hc,c2,cellsOf,hat1.1,hat1.2,if_true,takeN,hold,hV.len,hone,beq_self_eq_true,Bool.and_self,Bool.not_true,Nat.zero_mod,Bool.true_and]
    rw [if_neg (by simp),if_neg (by simp),if_neg (by simp),if_neg (by simp)]
    rfl
   ·exact At.new _ _
   ·exact ((Mod.push _ _ _).trans (Mod.set (by simp) hat1.1 _)).trans (Mod.push _ _ _)
 ·cases hok
theorem Vec.app{e sz n:Nat}{σ':St}{cs new:List AV}{b:Nat}(hl:cs.length=n*sz)(hn:new.length=sz)(h:At σ' b (.cells (cs++new) e true sz)):Vec σ' e sz (n+1) (.slice b 0 (n+1) none sz) (cs++new) [b]:=
 ⟨by rw [List.length_append,hl,hn,Nat.add_mul,Nat.one_mul],.inr ⟨b,rfl,h,rfl⟩⟩
end Go.Proofs.YtahgmmbmmcaejaaGreatDoor
namespace Go.Proofs.YtahgmmbmmcaejaaGreatDoor
open Go Go.Dt
set_option maxRecDepth 100000
def splitB(c:UInt8):List UInt8→List (List UInt8)
 | []=>[[]]
 | x::l=>if x=c then []::splitB c l else
  match splitB c l with
  | w::ws=>(x::w)::ws
  | []=>[[x]]
def glue(p:List UInt8):List (List UInt8)→List (List UInt8)
 | w::ws=>(p++w)::ws
 | []=>[p]
theorem splitB_cons(c x:UInt8)(l:List UInt8):splitB c (x::l)=if x=c then []::splitB c l else glue [x] (splitB c l):=by
 conv=>lhs;unfold splitB
 split
 ·rfl
 ·cases splitB c l<;>rfl
theorem splitB_ne(c:UInt8)(l:List UInt8):splitB c l≠[]:=by
 cases l with
 | nil=>simp [splitB]
 | cons x l=>
  rw [splitB_cons]
  split
  ·simp
  ·cases splitB c l<;>simp [glue]
theorem glue_glue(p q:List UInt8)(l:List (List UInt8))(h:l≠[]):glue p (glue q l)=glue (p++q) l:=by
 cases l with
 | nil=>exact (h rfl).elim
 | cons w ws=>simp [glue]
theorem glue_nil(l:List (List UInt8))(h:l≠[]):glue [] l=l:=by
 cases l with
 | nil=>exact (h rfl).elim
 | cons w ws=>simp [glue]
theorem app105:appB 105 105 9 1=true:=by kernel_rfl
theorem bs105(w:List UInt8)(b:Nat):buildSliceA tab 105 1 [(0,str w)] b= .ok (.slice b 0 1 (some 1) 1,.cells [str w] 9 true 1):=by kernel_rfl
theorem loop50(s:List UInt8)(hs:s.length<536870912):∀(m i frm:Nat),i+m=s.length→frm≤i→∀(T:Rg) (σ:St) (v:AV) (ws:List (List UInt8)) (fp:List Nat),WF σ→
  T 0=str s→T 3=v→T 4=intV .i64 (frm:Int)→T 5=intV .i64 (i:Int)→ws.length≤i→Vec σ 9 1 ws.length v (ws.map str) fp→
  ∃T' σ' v' fp',loopLim (dd tab W 32 c50a) T σ= .ok (.exit 0 T' σ')∧T' 3=v'∧Mod fp σ σ'∧(∀x∈fp',σ.n≤x)∧
   ∃ws',ws++glue ((s.drop frm).take (i - frm)) (splitB 32 (s.drop i))=ws'∧Vec σ' 9 1 ws'.length v' (ws'.map str) fp':=by
 have body:∀(i frm:Nat),i≤s.length→frm≤i→∀(T:Rg) (σ:St) (v:AV) (ws:List (List UInt8)) (fp:List Nat),WF σ→
  T 0=str s→T 3=v→T 4=intV .i64 (frm:Int)→T 5=intV .i64 (i:Int)→ws.length≤i→Vec σ 9 1 ws.length v (ws.map str) fp→(i=s.length∨s[i]? =some 32)→
  ∃T1 σ1 v1 fp1,denK tab W 32 c50a kOc T σ= .ok (.nxt T1 σ1)∧T1 0=str s∧T1 3=v1∧T1 4=intV .i64 ((i+1:Nat):Int)∧T1 5=intV .i64 ((i+1:Nat):Int)∧Mod fp σ σ1∧(∀x∈fp1,σ.n≤x)∧
   ∃w',ws++[(s.drop frm).take (i - frm)]=w'∧Vec σ1 9 1 w'.length v1 (w'.map str) fp1:=by
  intro i frm hi hf T σ v ws fp hw h0 h3 h4 h5 hk hV hc
  have d1:decide ((i:Int)≤(s.length:Int))=true:=by simp;omega
  have w1:IntKind.i64.wrap ((i:Int)+1)=((i+1:Nat):Int):=i64_add1 i (by omega)
  obtain ⟨σ1,a1,a2,a3,a4⟩:=app1 (new:=[str ((s.drop frm).take (i - frm))]) app105 hw hV (by omega) rfl rfl
  have e:=ec50a kOc T σ
  have hpick:pickV (boolV ((i:Int)==(s.length:Int))) (boolV true) (boolV true)= .ok (boolV true):=by cases ((i:Int)==(s.length:Int))<;>rfl
  simp only [mv_eq,g1_eq,bindR_val,h5,h0,lenS,binOp_int,intOp_leq,d1,condR_boolV,condT,intOp_eql,isBoolV_f] at e
  have e2:∃X,denK tab W 32 c50a kOc T σ=denK tab W 32 c50c kOc X σ1∧X 0=str s∧X 3= .slice (σ.n+1) 0 (ws.length+1) none 1∧X 4=intV .i64 ((i+1:Nat):Int)∧X 5=intV .i64 (i:Int):=by
   by_cases hil:i=s.length
   ·have d2:((i:Int)==(s.length:Int))=true:=by rw [beq_iff_eq];omega
    simp only [d2,Bool.not_true,condF,bindR_val,pickV_boolV,condT,h3,h4,sliceS s frm i hf hi,bs105,g4_eq,a1,intOp_add,w1] at e
    refine ⟨_,e,?_,?_,?_,?_⟩<;>simp (decide:=true) only [puts_cons,puts_nil,putE_same,putE_ne,h0,h5]
   ·have d2:((i:Int)==(s.length:Int))=false:=by rw [beq_eq_false_iff_ne];omega
    have hc:=hc.resolve_left hil
    have d3:(((32:UInt8).toNat:Int)==32)=true:=rfl
    simp only [d2,Bool.not_false,condT,bindR_val,indexS s i 32 hc,binOp_int,intOp_eql,d3,pickV_boolV,condF,h3,h4,sliceS s frm i hf hi,bs105,g4_eq,a1,intOp_add,w1] at e
    refine ⟨_,e,?_,?_,?_,?_⟩<;>simp (decide:=true) only [puts_cons,puts_nil,putE_same,putE_ne,h0,h5]
  obtain ⟨X,e2,x0,x3,x4,x5⟩:=e2
  rw [e2]
  have e3:=ec50c kOc X σ1
  simp only [mv_eq,g1_eq,bindR_val,x5,binOp_int,intOp_add,w1,kOc_nxt] at e3
  refine ⟨_,σ1,.slice (σ.n+1) 0 (ws.length+1) none 1,[σ.n+1],e3,?_,?_,?_,?_,a3,?_,_,rfl,?_⟩
  ·simp (decide:=true) only [puts_cons,puts_nil,putE_ne,x0]
  ·simp (decide:=true) only [puts_cons,puts_nil,putE_ne,x3]
  ·simp (decide:=true) only [puts_cons,puts_nil,putE_ne,x4]
  ·simp (decide:=true) only [puts_cons,puts_nil,putE_same]
  ·intro x hx;simp at hx;omega
  ·have:=Vec.app (e:=9) (sz:=1) (n:=ws.length) (cs:=ws.map str) (new:=[str ((s.drop frm).take (i - frm))]) (σ':=σ1) (b:=σ.n+1) (by simp) rfl a2
   rw [List.map_append,List.length_append]
   exact this
 intro m
 induction m with
 | zero=>
  intro i frm hi hf T σ v ws fp hw h0 h3 h4 h5 hk hV
  obtain ⟨T1,σ1,v1,fp1,b1,b2,b3,b4,b5,b6,b7,w',hw',bV⟩:=body i frm (by omega) hf T σ v ws fp hw h0 h3 h4 h5 hk hV (.inl (by omega))
  have e:=ec50a kOc T1 σ1
  have d1:decide (((i+1:Nat):Int)≤(s.length:Int))=false:=by simp;omega
  simp only [mv_eq,g1_eq,bindR_val,b5,b2,lenS,binOp_int,intOp_leq,d1,condR_boolV,condF,kOc_exit] at e
  refine ⟨_,σ1,v1,fp1,loop_next (dd_of tab W 32 b1) (loop_exit (dd_of tab W 32 e)),?_,b6,b7,w',?_,bV⟩
  ·simp (decide:=true) only [puts_cons,puts_nil,putE_ne,b3]
  ·rw [List.drop_eq_nil_of_le (by omega:s.length≤i),← hw']
   simp [splitB,glue]
 | succ m ih=>
  intro i frm hi hf T σ v ws fp hw h0 h3 h4 h5 hk hV
  have hil:i<s.length:=by omega
  obtain ⟨c,hc⟩:∃c,s[i]? =some c:=⟨s[i],List.getElem?_eq_getElem hil⟩
  have hd:s.drop i=c::s.drop (i+1):=by
   rw [List.drop_eq_getElem_cons hil]
   rw [List.getElem?_eq_getElem hil] at hc
   rw [Option.some.inj hc]
  rw [hd,splitB_cons]
  by_cases h32:c=32
  ·obtain ⟨T1,σ1,v1,fp1,b1,b2,b3,b4,b5,b6,b7,w',hw',bV⟩:=body i frm (by omega) hf T σ v ws fp hw h0 h3 h4 h5 hk hV (.inr (by rw [hc,h32]))
   have hwl:w'.length=ws.length+1:=by rw [← hw'];simp
   obtain ⟨T',σ',v',fp',q1,q2,q3,q4,ws',q5,q6⟩:=ih (i+1) (i+1) (by omega) (Nat.le_refl _) T1 σ1 v1 w' fp1 (b6.wf hw) b2 b3 b4 b5 (by omega) bV
   refine ⟨T',σ',v',fp',loop_next (dd_of tab W 32 b1) q1,q2,b6.trans' q3 (fun x hx=> .inr (b7 x hx)),fun x hx=>Nat.le_trans b6.n (q4 x hx),ws',?_,q6⟩
   rw [if_pos h32,← q5,← hw',Nat.sub_self,List.take_zero,glue_nil _ (splitB_ne _ _)]
   simp [glue]
  ·have e:=ec50a kOc T σ
   have d1:decide ((i:Int)≤(s.length:Int))=true:=by simp;omega
   have d2:((i:Int)==(s.length:Int))=false:=by rw [beq_eq_false_iff_ne];omega
   have d3:(c==32)=false:=by simpa using h32
   have w1:IntKind.i64.wrap ((i:Int)+1)=((i+1:Nat):Int):=i64_add1 i (by omega)
   simp (decide:=true) only [mv_eq,g1_eq,bindR_val,h5,h0,lenS,binOp_int,intOp_leq,d1,condR_boolV,condT,intOp_eql,isBoolV_f,d2,Bool.not_false,indexS s i c hc,u8e32,d3,pickV_boolV,condF,ec50c,puts_cons,puts_nil,putE_ne,intOp_add,w1,kOc_nxt] at e
   have key:∃T1,denK tab W 32 c50a kOc T σ= .ok (.nxt T1 σ)∧T1 0=str s∧T1 3=v∧T1 4=intV .i64 (frm:Int)∧T1 5=intV .i64 ((i+1:Nat):Int):=by
    refine ⟨_,e,?_,?_,?_,?_⟩<;>simp (decide:=true) only [putE_same,putE_ne,h0,h3,h4]
   obtain ⟨T1,b1,b2,b3,b4,b5⟩:=key
   obtain ⟨T',σ',v',fp',q1,q2,q3,q4,ws',q5,q6⟩:=ih (i+1) frm (by omega) (by omega) T1 σ v ws fp hw b2 b3 b4 b5 (by omega) hV
   refine ⟨T',σ',v',fp',loop_next (dd_of tab W 32 b1) q1,q2,q3,q4,ws',?_,q6⟩
   have ht:(s.drop frm).take (i+1 - frm)=(s.drop frm).take (i - frm)++[c]:=by
    have e1:i+1 - frm=(i - frm)+1:=by omega
    rw [e1,List.take_add_one,List.getElem?_drop,(by omega:frm+(i - frm)=i),hc]
    rfl
   rw [if_neg h32,← q5,ht,glue_glue _ _ _ (splitB_ne _ _)]
theorem W50(s:List UInt8)(hs:s.length<536870912)(σ:St)(hw:WF σ):∃v σ' fp,W 50 [str s] σ= .ok (.ret v,σ')∧Grow σ σ'∧(∀x∈fp,σ.n≤x)∧Vec σ' 9 1 (splitB 32 s).length v ((splitB 32 s).map str) fp:=by
 have e:=ec50 (kRet tab [.tmp 2]) (str s) σ
 simp only [mv_eq,bindR_val] at e
 obtain ⟨T',σ',v',fp',q1,q2,q3,q4,ws',q5,q6⟩:=loop50 s hs s.length 0 0 (by omega) (Nat.le_refl _) (puts 32 (argE [str s]) [(2,AV.base (.slice none 0 0)),(3,AV.base (.slice none 0 0)),(4,intV .i64 0),(5,intV .i64 0)]) σ nilS [] [] hw
  (by simp (decide:=true) only [puts_cons,puts_nil,putE_ne];rfl) (by simp (decide:=true) only [puts_cons,puts_nil,putE_same,putE_ne];rfl) (by simp (decide:=true) only [puts_cons,puts_nil,putE_same,putE_ne];rfl) (by simp (decide:=true) only [puts_cons,puts_nil,putE_same];rfl) (by simp) (Vec.nil _ _ _)
 have hws:splitB 32 s=ws':=by
  rw [← q5]
  simp [glue_nil _ (splitB_ne _ _)]
 rw [q1] at e
 simp (decide:=true) only [bindR_val,app_exit,kblk_exit,if_true,kseq_nxt,ec50b,mv_eq,q2,r50,puts_cons,puts_nil,putE_same] at e
 rw [hws]
 exact ⟨v',σ',fp',w50 (by simp) e,q3.grow (by simp),q4,q6⟩
end Go.Proofs.YtahgmmbmmcaejaaGreatDoor
namespace Go.Proofs.YtahgmmbmmcaejaaGreatDoor
open Go Go.Dt
set_option maxRecDepth 100000
theorem loop57(s:List UInt8)(hs:s.length<536870912):∀(m i frm:Nat),i+m=s.length→frm≤i→∀(T:Rg) (σ:St) (v:AV) (ws:List (List UInt8)) (fp:List Nat),WF σ→
  T 0=str s→T 3=v→T 4=intV .i64 (frm:Int)→T 5=intV .i64 (i:Int)→ws.length≤i→Vec σ 9 1 ws.length v (ws.map str) fp→
  ∃T' σ' v' fp',loopLim (dd tab W 32 c57a) T σ= .ok (.exit 0 T' σ')∧T' 3=v'∧Mod fp σ σ'∧(∀x∈fp',σ.n≤x)∧
   ∃ws',ws++glue ((s.drop frm).take (i - frm)) (splitB 32 (s.drop i))=ws'∧Vec σ' 9 1 ws'.length v' (ws'.map str) fp':=by
 have body:∀(i frm:Nat),i≤s.length→frm≤i→∀(T:Rg) (σ:St) (v:AV) (ws:List (List UInt8)) (fp:List Nat),WF σ→
  T 0=str s→T 3=v→T 4=intV .i64 (frm:Int)→T 5=intV .i64 (i:Int)→ws.length≤i→Vec σ 9 1 ws.length v (ws.map str) fp→(i=s.length∨s[i]? =some 32)→
  ∃T1 σ1 v1 fp1,denK tab W 32 c57a kOc T σ= .ok (.nxt T1 σ1)∧T1 0=str s∧T1 3=v1∧T1 4=intV .i64 ((i+1:Nat):Int)∧T1 5=intV .i64 ((i+1:Nat):Int)∧Mod fp σ σ1∧(∀x∈fp1,σ.n≤x)∧
   ∃w',ws++[(s.drop frm).take (i - frm)]=w'∧Vec σ1 9 1 w'.length v1 (w'.map str) fp1:=by
  intro i frm hi hf T σ v ws fp hw h0 h3 h4 h5 hk hV hc
  have d1:decide ((i:Int)≤(s.length:Int))=true:=by simp;omega
  have w1:IntKind.i64.wrap ((i:Int)+1)=((i+1:Nat):Int):=i64_add1 i (by omega)
  obtain ⟨σ1,a1,a2,a3,a4⟩:=app1 (new:=[str ((s.drop frm).take (i - frm))]) app105 hw hV (by omega) rfl rfl
  have e:=ec57a kOc T σ
  have hpick:pickV (boolV ((i:Int)==(s.length:Int))) (boolV true) (boolV true)= .ok (boolV true):=by cases ((i:Int)==(s.length:Int))<;>rfl
  simp only [mv_eq,g1_eq,bindR_val,h5,h0,lenS,binOp_int,intOp_leq,d1,condR_boolV,condT,intOp_eql,isBoolV_f] at e
  have e2:∃X,denK tab W 32 c57a kOc T σ=denK tab W 32 c57c kOc X σ1∧X 0=str s∧X 3= .slice (σ.n+1) 0 (ws.length+1) none 1∧X 4=intV .i64 ((i+1:Nat):Int)∧X 5=intV .i64 (i:Int):=by
   by_cases hil:i=s.length
   ·have d2:((i:Int)==(s.length:Int))=true:=by rw [beq_iff_eq];omega
    simp only [d2,Bool.not_true,condF,bindR_val,pickV_boolV,condT,h3,h4,sliceS s frm i hf hi,bs105,g4_eq,a1,intOp_add,w1] at e
    refine ⟨_,e,?_,?_,?_,?_⟩<;>simp (decide:=true) only [puts_cons,puts_nil,putE_same,putE_ne,h0,h5]
   ·have d2:((i:Int)==(s.length:Int))=false:=by rw [beq_eq_false_iff_ne];omega
    have hc:=hc.resolve_left hil
    have d3:(((32:UInt8).toNat:Int)==32)=true:=rfl
    simp only [d2,Bool.not_false,condT,bindR_val,indexS s i 32 hc,binOp_int,intOp_eql,d3,pickV_boolV,condF,h3,h4,sliceS s frm i hf hi,bs105,g4_eq,a1,intOp_add,w1] at e
    refine ⟨_,e,?_,?_,?_,?_⟩<;>simp (decide:=true) only [puts_cons,puts_nil,putE_same,putE_ne,h0,h5]
  obtain ⟨X,e2,x0,x3,x4,x5⟩:=e2
  rw [e2]
  have e3:=ec57c kOc X σ1
  simp only [mv_eq,g1_eq,bindR_val,x5,binOp_int,intOp_add,w1,kOc_nxt] at e3
  refine ⟨_,σ1,.slice (σ.n+1) 0 (ws.length+1) none 1,[σ.n+1],e3,?_,?_,?_,?_,a3,?_,_,rfl,?_⟩
  ·simp (decide:=true) only [puts_cons,puts_nil,putE_ne,x0]
  ·simp (decide:=true) only [puts_cons,puts_nil,putE_ne,x3]
  ·simp (decide:=true) only [puts_cons,puts_nil,putE_ne,x4]
  ·simp (decide:=true) only [puts_cons,puts_nil,putE_same]
  ·intro x hx;simp at hx;omega
  ·have:=Vec.app (e:=9) (sz:=1) (n:=ws.length) (cs:=ws.map str) (new:=[str ((s.drop frm).take (i - frm))]) (σ':=σ1) (b:=σ.n+1) (by simp) rfl a2
   rw [List.map_append,List.length_append]
   exact this
 intro m
 induction m with
 | zero=>
  intro i frm hi hf T σ v ws fp hw h0 h3 h4 h5 hk hV
  obtain ⟨T1,σ1,v1,fp1,b1,b2,b3,b4,b5,b6,b7,w',hw',bV⟩:=body i frm (by omega) hf T σ v ws fp hw h0 h3 h4 h5 hk hV (.inl (by omega))
  have e:=ec57a kOc T1 σ1
  have d1:decide (((i+1:Nat):Int)≤(s.length:Int))=false:=by simp;omega
  simp only [mv_eq,g1_eq,bindR_val,b5,b2,lenS,binOp_int,intOp_leq,d1,condR_boolV,condF,kOc_exit] at e
  refine ⟨_,σ1,v1,fp1,loop_next (dd_of tab W 32 b1) (loop_exit (dd_of tab W 32 e)),?_,b6,b7,w',?_,bV⟩
  ·simp (decide:=true) only [puts_cons,puts_nil,putE_ne,b3]
  ·rw [List.drop_eq_nil_of_le (by omega:s.length≤i),← hw']
   simp [splitB,glue]
 | succ m ih=>
  intro i frm hi hf T σ v ws fp hw h0 h3 h4 h5 hk hV
  have hil:i<s.length:=by omega
  obtain ⟨c,hc⟩:∃c,s[i]? =some c:=⟨s[i],List.getElem?_eq_getElem hil⟩
  have hd:s.drop i=c::s.drop (i+1):=by
   rw [List.drop_eq_getElem_cons hil]
   rw [List.getElem?_eq_getElem hil] at hc
   rw [Option.some.inj hc]
  rw [hd,splitB_cons]
  by_cases h32:c=32
  ·obtain ⟨T1,σ1,v1,fp1,b1,b2,b3,b4,b5,b6,b7,w',hw',bV⟩:=body i frm (by omega) hf T σ v ws fp hw h0 h3 h4 h5 hk hV (.inr (by rw [hc,h32]))
   have hwl:w'.length=ws.length+1:=by rw [← hw'];simp
   obtain ⟨T',σ',v',fp',q1,q2,q3,q4,ws',q5,q6⟩:=ih (i+1) (i+1) (by omega) (Nat.le_refl _) T1 σ1 v1 w' fp1 (b6.wf hw) b2 b3 b4 b5 (by omega) bV
   refine ⟨T',σ',v',fp',loop_next (dd_of tab W 32 b1) q1,q2,b6.trans' q3 (fun x hx=> .inr (b7 x hx)),fun x hx=>Nat.le_trans b6.n (q4 x hx),ws',?_,q6⟩
   rw [if_pos h32,← q5,← hw',Nat.sub_self,List.take_zero,glue_nil _ (splitB_ne _ _)]
   simp [glue]
  ·have e:=ec57a kOc T σ
   have d1:decide ((i:Int)≤(s.length:Int))=true:=by simp;omega
   have d2:((i:Int)==(s.length:Int))=false:=by rw [beq_eq_false_iff_ne];omega
   have d3:(c==32)=false:=by simpa using h32
   have w1:IntKind.i64.wrap ((i:Int)+1)=((i+1:Nat):Int):=i64_add1 i (by omega)
   simp (decide:=true) only [mv_eq,g1_eq,bindR_val,h5,h0,lenS,binOp_int,intOp_leq,d1,condR_boolV,condT,intOp_eql,isBoolV_f,d2,Bool.not_false,indexS s i c hc,u8e32,d3,pickV_boolV,condF,ec57c,puts_cons,puts_nil,putE_ne,intOp_add,w1,kOc_nxt] at e
   have key:∃T1,denK tab W 32 c57a kOc T σ= .ok (.nxt T1 σ)∧T1 0=str s∧T1 3=v∧T1 4=intV .i64 (frm:Int)∧T1 5=intV .i64 ((i+1:Nat):Int):=by
    refine ⟨_,e,?_,?_,?_,?_⟩<;>simp (decide:=true) only [putE_same,putE_ne,h0,h3,h4]
   obtain ⟨T1,b1,b2,b3,b4,b5⟩:=key
   obtain ⟨T',σ',v',fp',q1,q2,q3,q4,ws',q5,q6⟩:=ih (i+1) frm (by omega) (by omega) T1 σ v ws fp hw b2 b3 b4 b5 (by omega) hV
   refine ⟨T',σ',v',fp',loop_next (dd_of tab W 32 b1) q1,q2,q3,q4,ws',?_,q6⟩
   have ht:(s.drop frm).take (i+1 - frm)=(s.drop frm).take (i - frm)++[c]:=by
    have e1:i+1 - frm=(i - frm)+1:=by omega
    rw [e1,List.take_add_one,List.getElem?_drop,(by omega:frm+(i - frm)=i),hc]
    rfl
   rw [if_neg h32,← q5,ht,glue_glue _ _ _ (splitB_ne _ _)]
theorem W57(s:List UInt8)(hs:s.length<536870912)(σ:St)(hw:WF σ):∃v σ' fp,W 57 [str s] σ= .ok (.ret v,σ')∧Grow σ σ'∧(∀x∈fp,σ.n≤x)∧Vec σ' 9 1 (splitB 32 s).length v ((splitB 32 s).map str) fp:=by
 have e:=ec57 (kRet tab [.tmp 2]) (str s) σ
 simp only [mv_eq,bindR_val] at e
 obtain ⟨T',σ',v',fp',q1,q2,q3,q4,ws',q5,q6⟩:=loop57 s hs s.length 0 0 (by omega) (Nat.le_refl _) (puts 32 (argE [str s]) [(2,AV.base (.slice none 0 0)),(3,AV.base (.slice none 0 0)),(4,intV .i64 0),(5,intV .i64 0)]) σ nilS [] [] hw
  (by simp (decide:=true) only [puts_cons,puts_nil,putE_ne];rfl) (by simp (decide:=true) only [puts_cons,puts_nil,putE_same,putE_ne];rfl) (by simp (decide:=true) only [puts_cons,puts_nil,putE_same,putE_ne];rfl) (by simp (decide:=true) only [puts_cons,puts_nil,putE_same];rfl) (by simp) (Vec.nil _ _ _)
 have hws:splitB 32 s=ws':=by
  rw [← q5]
  simp [glue_nil _ (splitB_ne _ _)]
 rw [q1] at e
 simp (decide:=true) only [bindR_val,app_exit,kblk_exit,if_true,kseq_nxt,ec57b,mv_eq,q2,r57,puts_cons,puts_nil,putE_same] at e
 rw [hws]
 exact ⟨v',σ',fp',w57 (by simp) e,q3.grow (by simp),q4,q6⟩
end Go.Proofs.YtahgmmbmmcaejaaGreatDoor
namespace Go.Proofs.YtahgmmbmmcaejaaGreatDoor
open Go Go.Dt
set_option maxRecDepth 100000
theorem bindR_cond{α β:Type}(b:Bool)(x y:α)(F:α→R β):bindR (bif b then .ok x else .ok y:R α) F=F (bif b then x else y):=by cases b<;>rfl
theorem cond_loadV(c:Bool)(σ:St)(t:Nat)(x y:AV)(z:R AV):(bif c then loadV tab σ t (bif c then x else y) else z)=bif c then loadV tab σ t x else z:=by cases c<;>rfl
theorem cond_field(c:Bool)(t f:Nat)(x y:AV)(z:R AV):(bif c then fieldAddr tab t (bif c then x else y) f else z)=bif c then fieldAddr tab t x f else z:=by cases c<;>rfl
theorem cond_len(c:Bool)(t:Nat)(x y:AV)(z:R AV):(bif c then Dt.lenV tab t (bif c then x else y) else z)=bif c then Dt.lenV tab t x else z:=by cases c<;>rfl
theorem cond_binl(c:Bool)(op:BinOp)(t:Nat)(k:Bool)(x y w:AV)(z:R AV):(bif c then Dt.binOp tab op t (bif c then x else y) w k else z)=bif c then Dt.binOp tab op t x w k else z:=by cases c<;>rfl
theorem cond_ok(c:Bool)(x y:AV)(z:R AV):(bif c then .ok (bif c then x else y) else z)=bif c then .ok x else z:=by cases c<;>rfl
theorem pick_or(b c:Bool)(y:AV):pickV (boolV b) (boolV true) (bif !b then boolV c else y)= .ok (boolV (b || c)):=by cases b<;>rfl
theorem pick_and(b c:Bool)(y:AV):pickV (boolV b) (bif b then boolV c else y) (boolV false)= .ok (boolV (b && c)):=by cases b<;>rfl
theorem pick_f(x y:AV):pickV (boolV false) x y= .ok y:=eqBy rfl
structure RecD where
 rule:Int
 evL:Int
 evN:Int
 old:Int
 new:Int
 tick:Int
 deriving DecidableEq
def recC(r:RecD):List AV:=[intV .i64 r.rule,intV .u64 r.evL,intV .u64 r.evN,intV .u64 r.old,intV .u64 r.new,intV .u64 r.tick]
def idBad(n:Int):Bool:=decide (n<1) || decide (n>1099511627776)
def recRight(r:RecD):Int:=
 bif decide (r.rule<0) || decide (r.rule≥8) || idBad r.evN || decide (r.tick>1099511627776) then 2 else bif r.old !=r.evL then 13 else 0
theorem box74(x y:AV)(b:Nat):boxA tab 74 (.agg [x,y]) b= .ok (.ptr b 0,.cells [x,y] 74 true 2):=by kernel_rfl
theorem box77(x0 x1 x2 x3 x4 x5:AV)(b:Nat):boxA tab 77 (.agg [x0,x1,x2,x3,x4,x5]) b= .ok (.ptr b 0,.cells [x0,x1,x2,x3,x4,x5] 77 true 6):=by kernel_rfl
theorem fa74_0(b o:Nat):fieldAddr tab 74 (.ptr b o) 0= .ok (.ptr b o):=by kernel_rfl
theorem fa74_1(b o:Nat):fieldAddr tab 74 (.ptr b o) 1= .ok (.ptr b (o+1)):=by kernel_rfl
theorem fa77_0(b o:Nat):fieldAddr tab 77 (.ptr b o) 0= .ok (.ptr b o):=by kernel_rfl
theorem fa77_1(b o:Nat):fieldAddr tab 77 (.ptr b o) 1= .ok (.ptr b (o+1)):=by kernel_rfl
theorem fa77_2(b o:Nat):fieldAddr tab 77 (.ptr b o) 2= .ok (.ptr b (o+3)):=by kernel_rfl
theorem fa77_3(b o:Nat):fieldAddr tab 77 (.ptr b o) 3= .ok (.ptr b (o+4)):=by kernel_rfl
theorem fa77_4(b o:Nat):fieldAddr tab 77 (.ptr b o) 4= .ok (.ptr b (o+5)):=by kernel_rfl
theorem l3:leafB 3=true:=by kernel_rfl
theorem l24:leafB 24=true:=by kernel_rfl
theorem l72:leafB 72=true:=by kernel_rfl
theorem a74:aggB 74 2=true:=by kernel_rfl
theorem W94(n:Int)(σ:St):W 94 [intV .i64 n] σ= .ok (.ret (boolV (!idBad n)),σ):=by
 refine w94 (by simp) ?_
 rw [ec94]
 have:(!idBad n)=(decide (n≥1) && decide (n≤1099511627776)):=by
  unfold idBad
  rw [Bool.eq_iff_iff]
  simp
 simp (decide:=true) only [mv_eq,g1_eq,bindR_val,binOp_int,intOp_geq,isBoolV_t,bindR_cond,cond_binl,intOp_leq,pick_and,r94,puts_cons,puts_nil,putE_same,this]
theorem W95(n:Int)(σ:St):W 95 [intV .i64 n] σ= .ok (.ret (boolV (!idBad n)),σ):=by
 refine w95 (by simp) ?_
 rw [ec95]
 have:(!idBad n)=(decide (n≥1) && decide (n≤1099511627776)):=by
  unfold idBad
  rw [Bool.eq_iff_iff]
  simp
 simp (decide:=true) only [mv_eq,g1_eq,bindR_val,binOp_int,intOp_geq,isBoolV_t,bindR_cond,cond_binl,intOp_leq,pick_and,r95,puts_cons,puts_nil,putE_same,this]
theorem W77(l n:Int)(σ:St):∃σ',W 77 [.agg [intV .u64 l,intV .u64 n]] σ= .ok (.ret (intV .i64 (bif idBad n then 2 else 0)),σ')∧Grow σ σ':=by
 refine ⟨_,w77 (by simp) ?_,Grow.push σ (.cells [intV .u64 l,intV .u64 n] 74 true 2)⟩
 rw [ec77]
 have hA:=At.new σ (.cells [intV .u64 l,intV .u64 n] 74 true 2)
 simp only [mv_eq,g1_eq,bindR_val,box74,fa74_1,Nat.zero_add,ld l72 hA (o:=1) rfl,binOp_int,intOp_lss,isBoolV_f,bindR_cond,cond_loadV,cond_binl,intOp_gtr,pick_or,condR_boolV]
 have:(decide (n<1) || decide (n>1099511627776))=idBad n:=rfl
 rw [this]
 cases idBad n<;>simp (decide:=true) only [condT,condF,r77,puts_cons,puts_nil,putE_same]
theorem W54(r:RecD)(σ:St):∃σ',W 54 [.agg (recC r)] σ= .ok (.ret (intV .i64 (recRight r)),σ')∧Grow σ σ':=by
 refine ⟨_,w54 (by simp) ?_,Grow.push σ (.cells (recC r) 77 true 6)⟩
 rw [ec54]
 have hA:=At.new σ (.cells (recC r) 77 true 6)
 unfold recC at hA ⊢
 simp only [mv_eq,g1_eq,bindR_val,box77,fa77_0,fa77_1,fa77_2,fa77_4,fa74_0,fa74_1,Nat.zero_add,ld l3 hA (o:=0) rfl,ld l72 hA (o:=1) rfl,ld l72 hA (o:=2) rfl,ld l72 hA (o:=3) rfl,ld l72 hA (o:=5) rfl,
  binOp_int,intOp_lss,intOp_geq,isBoolV_f,bindR_cond,cond_loadV,cond_field,cond_binl,intOp_gtr,pick_or,condR_boolV,intOp_neq]
 have:(decide (r.rule<0) || decide (r.rule≥8) || decide (r.evN<1) || decide (r.evN>1099511627776) || decide (r.tick>1099511627776))=(decide (r.rule<0) || decide (r.rule≥8) || idBad r.evN || decide (r.tick>1099511627776)):=by
  unfold idBad
  simp only [Bool.or_assoc]
 rw [this]
 unfold recRight
 cases (decide (r.rule<0) || decide (r.rule≥8) || idBad r.evN || decide (r.tick>1099511627776))<;>cases (r.old !=r.evL)<;>simp (decide:=true) only [condT,condF,r54,puts_cons,puts_nil,putE_same]
theorem W49(r:RecD)(σ:St):∃σ',W 49 [.agg (recC r)] σ= .ok (.ret (intV .i64 (recRight r)),σ')∧Grow σ σ':=by
 have hA:=At.new σ (.cells (recC r) 77 true 6)
 have e:=ec49 (kRet tab [.tmp 2]) (.agg (recC r)) σ
 unfold recC at hA e
 have hid:loadV tab (σ.push (.cells (recC r) 77 true 6)) 74 (.ptr σ.n 1)= .ok (.agg [intV .u64 r.evL,intV .u64 r.evN]):=lda a74 hA rfl rfl
 unfold recC at hid
 obtain ⟨σ2,k1,k2⟩:=W77 r.evL r.evN (σ.push (.cells (recC r) 77 true 6))
 unfold recC at k1
 have hB:=hA.grow k2
 have hg:=(Grow.push σ (.cells (recC r) 77 true 6)).trans k2
 simp only [mv_eq,g1_eq,bindR_val,box77,fa77_0,fa77_1,fa77_2,fa77_4,fa74_0,Nat.zero_add,ld l3 hA (o:=0) rfl,hid,
  binOp_int,intOp_lss,intOp_geq,isBoolV_f,bindR_cond,cond_loadV,cond_binl,pick_or] at e
 unfold recRight
 cases hb:(decide (r.rule<0) || decide (r.rule≥8)) with
 | true=>
  simp (decide:=true) only [hb,Bool.not_true,condF,bindR_val,retK_ret,pickV_boolV,isBoolV_f,condT,condR_boolV,r49,puts_cons,puts_nil,putE_same] at e
  simp only [Bool.true_or,condT]
  exact ⟨_,w49 (by simp) e,Grow.push _ _⟩
 | false=>
  simp (decide:=true) only [hb,Bool.not_false,condT,k1,bindR_val,retK_ret,binOp_int,intOp_neq,pick_f,isBoolV_f,ld l72 hB (o:=1) rfl,ld l72 hB (o:=3) rfl,ld l72 hB (o:=5) rfl,bindR_cond,cond_binl,intOp_gtr,pick_or,condR_boolV] at e
  have hx:((bif idBad r.evN then (2:Int) else 0) !=0)=idBad r.evN:=by cases idBad r.evN<;>rfl
  rw [hx] at e
  simp only [Bool.false_or]
  refine ⟨σ2,w49 (by simp) (e.trans ?_),hg⟩
  cases (idBad r.evN || decide (r.tick>1099511627776))<;>cases (r.old !=r.evL)<;>simp (decide:=true) only [condT,condF,r49,puts_cons,puts_nil,putE_same]
end Go.Proofs.YtahgmmbmmcaejaaGreatDoor
namespace Go.Proofs.YtahgmmbmmcaejaaGreatDoor
open Go Go.Dt
set_option maxRecDepth 100000
theorem cond_ixa(c:Bool)(t:Nat)(x y i j:AV)(z:R AV):(bif c then indexAddr tab t (bif c then x else y) (bif c then i else j) else z)=bif c then indexAddr tab t x i else z:=by cases c<;>rfl
theorem ixA0{t e sz b len i:Nat}{cap:Option Nat}{z:Nat}(ht:elemB t e sz=true)(hi:i<len):indexAddr tab t (.slice b 0 len cap z) (intV .i64 (i:Int))= .ok (.ptr b (i*sz)):=by
 rw [ixAddr ht hi,Nat.zero_add]
def flat{α:Type}(f:α→List AV)(l:List α):List AV:=(l.map f).flatten
theorem flat_cons{α:Type}(f:α→List AV)(a:α)(l:List α):flat f (a::l)=f a++flat f l:=by simp [flat]
theorem flat_app{α:Type}(f:α→List AV)(l m:List α):flat f (l++m)=flat f l++flat f m:=by simp [flat]
theorem flat_one{α:Type}(f:α→List AV)(a:α):flat f [a]=f a:=by simp [flat]
theorem flat_drop{α:Type}(f:α→List AV)(sz:Nat)(h:∀a,(f a).length=sz):∀(l:List α) (i:Nat),(flat f l).drop (i*sz)=flat f (l.drop i)
 | l,0=>by simp
 | [],i+1=>by simp [flat]
 | a::l,i+1=>by
  have h1:(f a++flat f l).drop sz=flat f l:=by
   have:=h a
   subst this
   simp
  rw [flat_cons,Nat.add_mul,Nat.one_mul,Nat.add_comm,← List.drop_drop,h1,flat_drop f sz h l i]
  rfl
theorem flat_at{α:Type}(f:α→List AV)(sz:Nat)(h:∀a,(f a).length=sz)(l:List α)(i:Nat)(a:α)(ha:l[i]? =some a):((flat f l).drop (i*sz)).take sz=f a:=by
 rw [flat_drop f sz h]
 have hlt:=(List.getElem?_eq_some_iff.1 ha).1
 have:l.drop i=a::l.drop (i+1):=by
  rw [List.drop_eq_getElem_cons hlt]
  rw [List.getElem?_eq_getElem hlt] at ha
  rw [Option.some.inj ha]
 rw [this,flat_cons,List.take_append_of_le_length (by rw [h];omega),List.take_of_length_le (by rw [h];omega)]
theorem flat_get{α:Type}(f:α→List AV)(sz:Nat)(h:∀a,(f a).length=sz)(l:List α)(i k:Nat)(a:α)(v:AV)(ha:l[i]? =some a)(hk:k<sz)(hv:(f a)[k]? =some v):(flat f l)[i*sz+k]? =some v:=by
 have:=flat_at f sz h l i a ha
 rw [← hv,← this,List.getElem?_take_of_lt hk,List.getElem?_drop]
structure ItemD where
 kind:Int
 query:Int
 ids:List (Int×Int)
 atoms:List Int
 values:List Int
 err:Int
 count:Int
def idC(p:Int×Int):List AV:=[intV .u64 p.1,intV .u64 p.2]
def i1C(n:Int):List AV:=[intV .i64 n]
structure ItemR(σ:St)(cs:List AV)(x:ItemD)(fp:List Nat):Prop where
 is:∃iv av vv f1 f2 f3,cs=[intV .i64 x.kind,intV .i64 x.query,iv,av,vv,intV .i64 x.err,intV .i64 x.count]∧Vec σ 74 2 x.ids.length iv (flat idC x.ids) f1∧
  Vec σ 3 1 x.atoms.length av (flat i1C x.atoms) f2∧Vec σ 2 1 x.values.length vv (flat i1C x.values) f3∧fp=f1++f2++f3
theorem ItemR.mod{σ σ':St}{cs:List AV}{x:ItemD}{fp P:List Nat}(h:ItemR σ cs x fp)(hm:Mod P σ σ')(hp:∀y∈fp,y∉P):ItemR σ' cs x fp:=by
 obtain ⟨iv,av,vv,f1,f2,f3,h1,h2,h3,h4,rfl⟩:=h.is
 exact ⟨iv,av,vv,f1,f2,f3,h1,h2.mod hm fun y hy=>hp y (by simp [hy]),h3.mod hm fun y hy=>hp y (by simp [hy]),h4.mod hm fun y hy=>hp y (by simp [hy]),rfl⟩
theorem ItemR.grow{σ σ':St}{cs:List AV}{x:ItemD}{fp:List Nat}(h:ItemR σ cs x fp)(hm:Grow σ σ'):ItemR σ' cs x fp:=h.mod (hm.mod []) (by simp)
def pairBad(p:(Int×Int)×Int):Bool:=idBad p.1.2 || decide (p.2<0) || decide (p.2≥12)
def foundS(x:ItemD):Int:=
 bif idBad x.query then 2 else bif (x.ids.length:Int)==0 then 5 else bif decide ((x.ids.length:Int)>12) then 6 else bif (x.atoms.length:Int) !=(x.ids.length:Int) then 3 else
 bif (x.ids.zip x.atoms).any pairBad then 2 else bif x.err !=0 && x.err !=7 && x.err !=16 then 11 else bif x.err !=0 && decide ((x.values.length:Int)>0) then 3 else
 bif decide ((x.values.length:Int)>4) then 6 else bif x.count !=0 then 3 else 0
def noticeS(x:ItemD):Int:=
 bif x.err !=17 && x.err !=18 && x.err !=19 then 11 else
 bif (x.err==19 && x.query !=0) || (x.err !=19 && idBad x.query) then 2 else
 bif (x.err==17 && x.count !=0) || (x.err !=17 && idBad x.count) then 2 else
 bif decide ((x.ids.length:Int)>0) || decide ((x.atoms.length:Int)>0) || decide ((x.values.length:Int)>0) then 3 else 0
def itemRight(x:ItemD):Int:=bif x.kind==1 then foundS x else bif x.kind==2 then noticeS x else 11
theorem el37:elemB 37 74 2=true:=by kernel_rfl
theorem el38:elemB 38 3 1=true:=by kernel_rfl
theorem el39:elemB 39 2 1=true:=by kernel_rfl
theorem sl37:sliceB 37=true:=by kernel_rfl
theorem sl38:sliceB 38=true:=by kernel_rfl
theorem sl39:sliceB 39=true:=by kernel_rfl
theorem l37:leafB 37=true:=by kernel_rfl
theorem l38:leafB 38=true:=by kernel_rfl
theorem l39:leafB 39=true:=by kernel_rfl
theorem a41:aggB 41 7=true:=by kernel_rfl
theorem sz74:sizeB 74 2=true:=by kernel_rfl
theorem box41(x0 x1 x2 x3 x4 x5 x6:AV)(b:Nat):boxA tab 41 (.agg [x0,x1,x2,x3,x4,x5,x6]) b= .ok (.ptr b 0,.cells [x0,x1,x2,x3,x4,x5,x6] 41 true 7):=by kernel_rfl
theorem fa41_0(b o:Nat):fieldAddr tab 41 (.ptr b o) 0= .ok (.ptr b o):=by kernel_rfl
theorem fa41_1(b o:Nat):fieldAddr tab 41 (.ptr b o) 1= .ok (.ptr b (o+1)):=by kernel_rfl
theorem fa41_2(b o:Nat):fieldAddr tab 41 (.ptr b o) 2= .ok (.ptr b (o+2)):=by kernel_rfl
theorem fa41_3(b o:Nat):fieldAddr tab 41 (.ptr b o) 3= .ok (.ptr b (o+3)):=by kernel_rfl
theorem fa41_4(b o:Nat):fieldAddr tab 41 (.ptr b o) 4= .ok (.ptr b (o+4)):=by kernel_rfl
theorem fa41_5(b o:Nat):fieldAddr tab 41 (.ptr b o) 5= .ok (.ptr b (o+5)):=by kernel_rfl
theorem fa41_6(b o:Nat):fieldAddr tab 41 (.ptr b o) 6= .ok (.ptr b (o+6)):=by kernel_rfl
theorem alloc74(b:Nat):allocA tab 74 b= .ok (.ptr b 0,.cells [intV .u64 0,intV .u64 0] 74 true 2):=by kernel_rfl
theorem idC_len(p:Int×Int):(idC p).length=2:=rfl
theorem i1C_len(p:Int):(i1C p).length=1:=rfl
theorem Vec.at{σ:St}{e sz n i:Nat}{v:AV}{cs:List AV}{fp:List Nat}(h:Vec σ e sz n v cs fp)(hi:i<n):∃b,v= .slice b 0 n none sz∧At σ b (.cells cs e true sz)∧fp=[b]:=by
 rcases h.is with ⟨_,h2,_⟩ | h
 ·omega
 ·exact h
structure InItem(σ:St)(b:Nat)(x:ItemD)(iv av vv:AV)(f1 f2 f3:List Nat):Prop where
 at':At σ b (.cells [intV .i64 x.kind,intV .i64 x.query,iv,av,vv,intV .i64 x.err,intV .i64 x.count] 41 true 7)
 ids:Vec σ 74 2 x.ids.length iv (flat idC x.ids) f1
 atoms:Vec σ 3 1 x.atoms.length av (flat i1C x.atoms) f2
 values:Vec σ 2 1 x.values.length vv (flat i1C x.values) f3
theorem InItem.grow{σ σ':St}{b:Nat}{x:ItemD}{iv av vv:AV}{f1 f2 f3:List Nat}(h:InItem σ b x iv av vv f1 f2 f3)(hg:Grow σ σ'):InItem σ' b x iv av vv f1 f2 f3:=
 ⟨h.at'.grow hg,h.ids.grow hg,h.atoms.grow hg,h.values.grow hg⟩
theorem loop75(b:Nat)(x:ItemD)(iv av vv:AV)(f1 f2 f3:List Nat)(hal:x.atoms.length=x.ids.length)(h12:x.ids.length≤12):∀(m i:Nat),i+m=x.ids.length→∀(T:Rg) (σ:St),WF σ→InItem σ b x iv av vv f1 f2 f3→
  T 1= .ptr b 0→T 29=iv→T 30=intV .i64 (x.ids.length:Int)→T 31=intV .i64 (i:Int)→
  ∃T' σ',Grow σ σ'∧((((x.ids.drop i).zip (x.atoms.drop i)).any pairBad=true∧loopLim (dd tab W 94 c75a) T σ= .ok (.ret T' σ')∧T' 2=intV .i64 2)∨
   (((x.ids.drop i).zip (x.atoms.drop i)).any pairBad=false∧loopLim (dd tab W 94 c75a) T σ= .ok (.exit 1 T' σ')∧T' 1= .ptr b 0)):=by
 intro m
 induction m with
 | zero=>
  intro i hi T σ hw hI h1 h29 h30 h31
  have e:=ec75a kOc T σ
  have d1:decide ((i:Int)<(x.ids.length:Int))=false:=by simp;omega
  simp only [g1_eq,bindR_val,h30,h31,binOp_int,intOp_lss,d1,condR_boolV,condF,kOc_exit] at e
  refine ⟨_,σ,Grow.refl _,.inr ⟨?_,loop_exit (dd_of tab W 94 e),?_⟩⟩
  ·rw [List.drop_eq_nil_of_le (by omega:x.ids.length≤i)];rfl
  ·simp (decide:=true) only [puts_cons,puts_nil,putE_ne,h1]
 | succ m ih=>
  intro i hi T σ hw hI h1 h29 h30 h31
  have hil:i<x.ids.length:=by omega
  have hia:i<x.atoms.length:=by omega
  have hp:x.ids[i]? =some x.ids[i]:=List.getElem?_eq_getElem hil
  have ha:x.atoms[i]? =some x.atoms[i]:=List.getElem?_eq_getElem hia
  have hzip:(x.ids.drop i).zip (x.atoms.drop i)=(x.ids[i],x.atoms[i])::(x.ids.drop (i+1)).zip (x.atoms.drop (i+1)):=by
   rw [List.drop_eq_getElem_cons hil,List.drop_eq_getElem_cons hia];rfl
  rw [hzip]
  obtain ⟨⟨l,n⟩,hln⟩:∃p,x.ids[i]=p:=⟨_,rfl⟩
  obtain ⟨a,haa⟩:∃a,x.atoms[i]=a:=⟨_,rfl⟩
  rw [hln] at hp ⊢
  rw [haa] at ha ⊢
  obtain ⟨bi,hiv,hbi,_⟩:=hI.ids.at hil
  obtain ⟨ba,hav,hba,_⟩:=hI.atoms.at hia
  have e:=ec75a kOc T σ
  have d1:decide ((i:Int)<(x.ids.length:Int))=true:=by simp;omega
  have w1:IntKind.i64.wrap ((i:Int)+1)=((i+1:Nat):Int):=i64_add1 i (by omega)
  have ld1:loadV tab σ 74 (.ptr bi (i*2))= .ok (.agg [intV .u64 l,intV .u64 n]):=lda a74 hbi (by exact flat_at idC 2 idC_len _ i (l,n) hp) rfl
  have hC:=At.new σ (.cells [intV .u64 0,intV .u64 0] 74 true 2)
  have hst:storeV tab (σ.push (.cells [intV .u64 0,intV .u64 0] 74 true 2)) 74 (.ptr σ.n 0) (.agg [intV .u64 l,intV .u64 n])= .ok ((σ.push (.cells [intV .u64 0,intV .u64 0] 74 true 2)).set σ.n (.cells [intV .u64 l,intV .u64 n] 74 true 2)):=
   stv (x:= .agg [intV .u64 l,intV .u64 n]) sz74 hC rfl (by omega) (by simp) rfl
  obtain ⟨σ2,hσ2⟩:∃σ2,σ2=(σ.push (.cells [intV .u64 0,intV .u64 0] 74 true 2)).set σ.n (.cells [intV .u64 l,intV .u64 n] 74 true 2):=⟨_,rfl⟩
  rw [← hσ2] at hst
  have hD:At σ2 σ.n (.cells [intV .u64 l,intV .u64 n] 74 true 2):=by rw [hσ2];exact hC.set_same (WF.push hw _) _
  have hg:Grow σ σ2:=by rw [hσ2];exact (Grow.push _ _).set (Nat.le_refl _) hC.1 _
  have hw2:=hg.wf hw
  have hI2:=hI.grow hg
  have hba2:=hba.grow hg
  have hA:=hI2.at'
  have ld2:loadV tab σ2 3 (.ptr ba (i*1))= .ok (intV .i64 a):=ld l3 hba2 (by exact flat_get i1C 1 i1C_len _ i 0 a _ ha (by omega) rfl)
  simp only [mv_eq,g1_eq,g3_eq,bindR_val,h1,h29,h30,h31,binOp_int,intOp_lss,d1,condR_boolV,condT,hiv,ixA0 el37 hil,ld1,alloc74,hst,fa74_1,Nat.zero_add,ld l72 hD (o:=1) rfl,isBoolV_f,bindR_cond,cond_loadV,cond_binl,intOp_gtr,pick_or,
   fa41_3,ld l38 hA (o:=3) rfl,hav,cond_ixa,ixA0 el38 hia,intOp_add,w1] at e
  simp only [ld2,isBoolV_f,bindR_cond,cond_binl,binOp_int,intOp_lss,intOp_geq,pick_or,condR_boolV,bindR_val,kOc_nxt,kOc_ret] at e
  have hbad:(decide (n<1) || decide (n>1099511627776) || decide (a<0) || decide (a≥12))=pairBad ((l,n),a):=rfl
  rw [hbad] at e
  cases hb:pairBad ((l,n),a) with
  | true=>
   rw [hb] at e
   simp only [condT] at e
   refine ⟨_,σ2,hg,.inl ⟨by simp [hb],loop_ret (dd_of tab W 94 e),?_⟩⟩
   simp (decide:=true) only [puts_cons,puts_nil,putE_same]
  | false=>
   rw [hb] at e
   simp only [condF] at e
   have key:∃T1,denK tab W 94 c75a kOc T σ= .ok (.nxt T1 σ2)∧T1 1= .ptr b 0∧T1 29=iv∧T1 30=intV .i64 (x.ids.length:Int)∧T1 31=intV .i64 ((i+1:Nat):Int):=by
    refine ⟨_,e,?_,?_,?_,?_⟩<;>simp (decide:=true) only [puts_cons,puts_nil,putE_same,putE_ne,h1,h29,h30,hiv]
   obtain ⟨T1,e1,k1,k29,k30,k31⟩:=key
   obtain ⟨T',σ',q1,q2⟩:=ih (i+1) (by omega) T1 σ2 hw2 hI2 k1 k29 k30 k31
   refine ⟨T',σ',hg.trans q1,?_⟩
   rcases q2 with ⟨p1,p2,p3⟩ | ⟨p1,p2,p3⟩
   ·exact .inl ⟨by simp only [List.any_cons,hb,p1,Bool.or_true],loop_next (dd_of tab W 94 e1) p2,p3⟩
   ·exact .inr ⟨by simp only [List.any_cons,hb,p1,Bool.or_false],loop_next (dd_of tab W 94 e1) p2,p3⟩
end Go.Proofs.YtahgmmbmmcaejaaGreatDoor
