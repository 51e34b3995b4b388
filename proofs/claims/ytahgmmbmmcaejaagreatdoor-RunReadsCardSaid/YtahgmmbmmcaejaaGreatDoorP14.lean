/-
  A part of the proof. No statement of this seat stands here.
-/
import Derived.Test.YtahgmmbmmcaejaaGreatDoorP12
import Derived.Test.YtahgmmbmmcaejaaGreatDoorP13
namespace Go.Proofs.YtahgmmbmmcaejaaGreatDoor
open Go Go.Dt
set_option maxRecDepth 100000
def isNeg(s:List UInt8):Bool:=s.head? ==some 45
def intT(s:List UInt8):List UInt8:=if isNeg s then s.drop 1 else s
def midS(neg:Bool)(t:List UInt8):AV:=
 match numS t with
 | none=> .tuple [intV .i64 0,intV .i64 3]
 | some v=>if neg=true∧v=0 then .tuple [intV .i64 0,intV .i64 3] else narrowR 2 (narrowS neg v)
def intS(s:List UInt8):AV:=midS (isNeg s) (intT s)
theorem i64eq(c:UInt8):(((c.toNat:Nat):Int)==45)=(c==45):=by
 rw [Bool.eq_iff_iff,beq_iff_eq,beq_iff_eq]
 constructor
 ·intro h
  have:c.toNat=45:=by omega
  exact UInt8.toNat_inj.1 this
 ·intro h;subst h;rfl
theorem mid100(neg:Bool)(t:List UInt8)(ht:t.length<1099511627776)(σ:St)(T:Rg)(h0:T 0=str t)(h4:T 4=boolV neg):
  ∃σ',denK tab W 49 c100b (kRet tab [.tmp 2,.tmp 3]) T σ= .ok (.ret (midS neg t),σ')∧Grow σ σ':=by
 rw [ec100b]
 unfold midS
 simp only [mv_eq,g1_eq,g2_eq,bindR_val,h0,W78 t ht,retK_ret]
 cases hn:numS t with
 | none=>
  refine ⟨σ,?_,Grow.refl σ⟩
  have e3:((3:Int) !=0)=true:=rfl
  simp (decide:=true) only [natR,extractV_0,extractV_1,extractV_2,bindR_val,binOp_int,intOp_neq,e3,isBoolV_f,Bool.not_true,condF,isBoolV_u,pickV_boolV,condT,condR_boolV,puts_cons,puts_nil,r100,putE_same,putE_ne]
 | some v=>
  have e0:((0:Int) !=0)=false:=rfl
  simp only [natR,extractV_0,extractV_1,extractV_2,bindR_val,binOp_int,intOp_neq,e0,isBoolV_f,Bool.not_false,condT,isBoolV_t,h4]
  have fin:∀T1:Rg,T1=T1→(neg=true∧v=0)∨¬(neg=true∧v=0):=fun _ _=>Classical.em _
  cases hb:isBig v with
  | true=>
   have hb':=hb
   rw [isBig_eq,decide_eq_true_eq] at hb'
   have hnv:¬(neg=true∧v=0):=by omega
   rw [if_neg hnv]
   have hnar:narrowS neg v=none:=by unfold narrowS;rw [if_pos];left;omega
   rw [hnar]
   refine ⟨σ,?_,Grow.refl σ⟩
   cases neg with
   | false=>
    simp (decide:=true) only [bindR_val,condF,condT,pickV_boolV,isBoolV_t,condR_boolV,puts_cons,puts_nil,r100,putE_same,putE_ne]
    rfl
   | true=>
    simp only [bindR_val,condF,condT,binOp_int,intOp_eql,isBoolV_t,pickV_boolV]
    cases ((v%18446744073709551616:Nat):Int)==0<;>
    ·simp (decide:=true) only [bindR_val,condF,condT,condR_boolV,unOp_not,Bool.not_true,puts_cons,puts_nil,r100,putE_same,putE_ne]
     rfl
  | false=>
   have hb':=hb
   rw [isBig_eq,decide_eq_false_iff_not] at hb'
   have hv:v%18446744073709551616=v:=Nat.mod_eq_of_lt (by omega)
   rw [hv]
   by_cases hz:neg=true∧v=0
   ·obtain ⟨rfl,rfl⟩:=hz
    rw [if_pos ⟨rfl,rfl⟩]
    refine ⟨σ,?_,Grow.refl σ⟩
    have ez:(((0:Nat):Int)==0)=true:=rfl
    simp (decide:=true) only [bindR_val,condF,condT,binOp_int,intOp_eql,ez,isBoolV_t,pickV_boolV,condR_boolV,unOp_not,Bool.not_false,puts_cons,puts_nil,r100,putE_same,putE_ne]
   ·rw [if_neg hz]
    obtain ⟨σ',hw,hg⟩:=W107 neg v (by omega) σ
    refine ⟨σ',?_,hg⟩
    have key:(bif neg then (Except.ok (intV .u64 (v:Int)):R AV) else .ok AV.undef)= .ok (bif neg then intV .u64 (v:Int) else AV.undef):=by cases neg<;>rfl
    have hcond:∃b1:Bool,(bindR (bif neg then (Except.ok (intV .u64 (v:Int)):R AV) else .ok AV.undef) fun v16=>
      bindR (bif neg then Dt.binOp tab .eql 72 v16 (intV .u64 0) true else .ok AV.undef) fun v17=>pickV (boolV neg) v17 (boolV false))= .ok (boolV b1)∧b1=false:=by
     cases neg with
     | false=>exact ⟨false,rfl,rfl⟩
     | true=>
      have:v≠0:=fun h=>hz ⟨rfl,h⟩
      have ez:(((v:Nat):Int)==0)=false:=by rw [beq_eq_false_iff_ne];omega
      exact ⟨false,by simp only [condT,bindR_val,binOp_int,intOp_eql,ez,pickV_boolV],rfl⟩
    cases neg with
    | false=>
     simp only [bindR_val,condF,pickV_boolV,isBoolV_t,condR_boolV,build164,hw,retK_ret]
     cases hnar:narrowS false v with
     | none=>
      have e16:((16:Int) !=0)=true:=rfl
      simp (decide:=true) only [narrowR,extractV_0,extractV_1,bindR_val,binOp_int,intOp_neq,e16,condR_boolV,condT,puts_cons,puts_nil,r100,putE_same,putE_ne]
     | some x=>
      simp (decide:=true) only [narrowR,extractV_0,extractV_1,bindR_val,binOp_int,intOp_neq,e0,condR_boolV,condF,puts_cons,puts_nil,r100,putE_same,putE_ne]
    | true=>
     have:v≠0:=fun h=>hz ⟨rfl,h⟩
     have ez:(((v:Nat):Int)==0)=false:=by rw [beq_eq_false_iff_ne];omega
     simp only [bindR_val,condF,condT,binOp_int,intOp_eql,ez,pickV_boolV,isBoolV_t,condR_boolV,build164,hw,retK_ret]
     cases hnar:narrowS true v with
     | none=>
      have e16:((16:Int) !=0)=true:=rfl
      simp (decide:=true) only [narrowR,extractV_0,extractV_1,bindR_val,binOp_int,intOp_neq,e16,condR_boolV,condT,puts_cons,puts_nil,r100,putE_same,putE_ne]
     | some x=>
      simp (decide:=true) only [narrowR,extractV_0,extractV_1,bindR_val,binOp_int,intOp_neq,e0,condR_boolV,condF,puts_cons,puts_nil,r100,putE_same,putE_ne]
theorem W100(s:List UInt8)(hs:s.length<1099511627776)(σ:St):∃σ',W 100 [str s] σ= .ok (.ret (intS s),σ')∧Grow σ σ':=by
 have key:∀(neg:Bool) (T:Rg),isNeg s=neg→T 0=str s→T 4=boolV neg→∃σ',denK tab W 49 c100a (kRet tab [.tmp 2,.tmp 3]) T σ= .ok (.ret (intS s),σ')∧Grow σ σ':=by
  intro neg T hneg h0 h4
  rw [ec100a]
  simp only [mv_eq,g1_eq,bindR_val,h4,condR_boolV]
  unfold intS intT
  rw [hneg]
  cases neg with
  | true=>
   have hne:1≤s.length:=by
    cases s with
    | nil=>cases hneg
    | cons c s=>simp
   have hsl:sliceV tab 9 (str s) (some (intV .i64 1)) none none= .ok (str (s.drop 1)):=sliceS_lo s 1 hne
   rw [if_pos rfl]
   simp only [condT,h0,hsl,bindR_val]
   refine mid100 true (s.drop 1) (by simp;omega) σ _ ?_ ?_
   ·simp (decide:=true) only [puts_cons,puts_nil,putE_same]
   ·simp (decide:=true) only [puts_cons,puts_nil,putE_ne,h4]
  | false=>
   rw [if_neg (by decide)]
   simp only [condF]
   refine mid100 false s hs σ _ ?_ ?_
   ·simp (decide:=true) only [puts_cons,puts_nil,putE_ne,h0]
   ·simp (decide:=true) only [puts_cons,puts_nil,putE_ne,h4]
 cases s with
 | nil=>
  obtain ⟨σ',h1,h2⟩:=key false (puts 49 (argE [str []]) [(2,intV .i64 0),(3,intV .i64 0),(9,str []),(10,boolV false),(11,boolV false),(12,AV.undef),(13,AV.undef),(14,AV.undef),(15,boolV false),(4,boolV false)]) rfl
   (by simp (decide:=true) only [puts_cons,puts_nil,putE_ne];rfl) (by simp (decide:=true) only [puts_cons,puts_nil,putE_same])
  refine ⟨σ',w100 (by simp) ?_,h2⟩
  rw [ec100]
  have e0:(!(([]:List UInt8)==[]))=false:=rfl
  simp only [mv_eq,g1_eq,bindR_val,binOp_str,strOp_neq,e0,isBoolV_t,condF,pickV_boolV]
  exact h1
 | cons c s=>
  have hneg:isNeg (c::s)=(c==45):=by simp [isNeg]
  have hT:∀T:Rg,T=puts 49 (argE [str (c::s)]) [(2,intV .i64 0),(3,intV .i64 0),(9,str (c::s)),(10,boolV true),(11,boolV true),(12,str (c::s)),(13,intV .u8 (c.toNat:Int)),(14,boolV (c==45)),(15,boolV (c==45)),(4,boolV (c==45))]→
    T 0=str (c::s)∧T 4=boolV (c==45):=by
   intro T hT
   rw [hT]
   exact ⟨by simp (decide:=true) only [puts_cons,puts_nil,putE_ne];rfl,by simp (decide:=true) only [puts_cons,puts_nil,putE_same]⟩
  obtain ⟨σ',h1,h2⟩:=key (c==45) _ hneg (hT _ rfl).1 (hT _ rfl).2
  refine ⟨σ',w100 (by simp) ?_,h2⟩
  rw [ec100]
  have e0:(!((c::s:List UInt8)==[]))=true:=rfl
  simp only [mv_eq,g1_eq,bindR_val,binOp_str,strOp_neq,e0,isBoolV_t,condT,pickV_boolV,index0,binOp_int,intOp_eql,i64eq]
  exact h1
end Go.Proofs.YtahgmmbmmcaejaaGreatDoor
namespace Go.Proofs.YtahgmmbmmcaejaaGreatDoor
open Go Go.Dt
set_option maxRecDepth 100000
theorem numF_ge:∀(l:List UInt8) (v:Nat),v≤l.foldl numF v
 | [],v=>Nat.le_refl _
 | c::l,v=>by
  rw [List.foldl_cons]
  refine Nat.le_trans ?_ (numF_ge l _)
  rw [numF];omega
theorem numS_zero{t:List UInt8}{v:Nat}(h:numS t=some v):(t==[48])=decide (v=0):=by
 simp only [numS] at h
 split at h
 ·cases h
 ·rename_i hc
  cases h
  cases t with
  | nil=>exact (hc (.inl rfl)).elim
  | cons c r=>
   have hd:isDig c=true:=by
    cases hq:isDig c with
    | true=>rfl
    | false=>exact (hc (.inr (.inr (by simp [hq])))).elim
   simp only [isDig,Bool.and_eq_true,decide_eq_true_eq] at hd
   cases r with
   | nil=>
    by_cases h48:c=48
    ·subst h48;rfl
    ·have h1:([c]==[48])=false:=by simpa using h48
     have h2:numV [c]≠0:=by
      simp only [numV,List.foldl_cons,List.foldl_nil,numF]
      intro h
      apply h48
      have:c.toNat=48:=by omega
      exact UInt8.toNat_inj.1 this
     rw [h1,decide_eq_false h2]
   | cons d r=>
    have h48:c≠48:=fun h=>hc (.inr (.inl ⟨by simp,by simp [h]⟩))
    have h1:(c::d::r==[48])=false:=by simp
    have h2:numV (c::d::r)≠0:=by
     simp only [numV,List.foldl_cons]
     have k1:=numF_ge r (numF (numF 0 c) d)
     have:c.toNat≠48:=fun h=>h48 (UInt8.toNat_inj.1 h)
     simp only [numF] at k1 ⊢
     omega
    rw [h1,decide_eq_false h2]
theorem mid168(neg:Bool)(t:List UInt8)(ht:t.length<1099511627776)(σ:St)(T:Rg)(h5:T 5=str t)(h4:T 4=boolV neg):
  denK tab W 58 c168b (kRet tab [.tmp 2,.tmp 3]) T σ= .ok (.ret (midS neg t),σ):=by
 rw [ec168b]
 unfold midS
 simp only [mv_eq,g1_eq,g2_eq,bindR_val,h5,W104 t ht,retK_ret]
 cases hn:numS t with
 | none=>
  simp (decide:=true) only [digR,extractV_0,extractV_1,extractV_2,bindR_val,unOp_not,isBoolV_f,Bool.not_true,Bool.not_false,condF,isBoolV_u,pickV_boolV,condT,condR_boolV,puts_cons,puts_nil,r168,putE_same,putE_ne]
 | some v=>
  have hz:=numS_zero hn
  simp only [digR,extractV_0,extractV_1,extractV_2,bindR_val,unOp_not,isBoolV_f,Bool.not_true,Bool.not_false,condT,isBoolV_t,h4]
  have rest:∀T1:Rg,¬(neg=true∧v=0)→T1=T1:=fun _ _=>rfl
  cases hb:isBig v with
  | true=>
   have hb':=hb
   rw [isBig_eq,decide_eq_true_eq] at hb'
   have hnv:¬(neg=true∧v=0):=by omega
   rw [if_neg hnv]
   have hnar:narrowS neg v=none:=by unfold narrowS;rw [if_pos];left;omega
   have hz':(t==[48])=false:=by rw [hz];simp;omega
   rw [hnar]
   cases neg with
   | false=>
    simp (decide:=true) only [bindR_val,condF,condT,pickV_boolV,isBoolV_f,isBoolV_u,Bool.not_true,condR_boolV,puts_cons,puts_nil,r168,putE_same,putE_ne]
    rfl
   | true=>
    simp (decide:=true) only [bindR_val,condF,condT,binOp_str,strOp_eql,hz',pickV_boolV,isBoolV_f,isBoolV_u,Bool.not_true,condR_boolV,puts_cons,puts_nil,r168,putE_same,putE_ne]
    rfl
  | false=>
   have hb':=hb
   rw [isBig_eq,decide_eq_false_iff_not] at hb'
   have hv:v%18446744073709551616=v:=Nat.mod_eq_of_lt (by omega)
   rw [hv]
   by_cases hzz:neg=true∧v=0
   ·obtain ⟨rfl,rfl⟩:=hzz
    rw [if_pos ⟨rfl,rfl⟩]
    have hz':(t==[48])=true:=by rw [hz];rfl
    simp (decide:=true) only [bindR_val,condF,condT,binOp_str,strOp_eql,hz',pickV_boolV,Bool.not_false,condR_boolV,puts_cons,puts_nil,r168,putE_same,putE_ne]
   ·rw [if_neg hzz]
    have pre:∀(X:AV→AV→AV→R (AEnd×St)) (y:R (AEnd×St)),(∀v16 v17,X v16 v17 (boolV false)=y)→
      (bindR (bif neg then (Except.ok (str t):R AV) else .ok AV.undef) fun v16=>
       bindR (bif neg then Dt.binOp tab .eql 9 v16 (str [48]) true else .ok AV.undef) fun v17=>
        bindR (pickV (boolV neg) v17 (boolV false)) fun v18=>X v16 v17 v18)=y:=by
     intro X y hX
     cases neg with
     | false=>simp only [condF,bindR_val,pickV_boolV];exact hX _ _
     | true=>
      have hz':(t==[48])=false:=by rw [hz];simp;intro h;exact hzz ⟨rfl,h⟩
      simp only [condT,bindR_val,binOp_str,strOp_eql,hz',pickV_boolV];exact hX _ _
    refine pre _ _ fun v16 v17=> ?_
    by_cases h1:9223372036854775808<v
    ·have d1:decide ((v:Int)>9223372036854775808)=true:=by simp;omega
     have hnar:narrowS neg v=none:=by simp [narrowS,h1]
     simp (decide:=true) only [hnar,pickV_boolV,condF,condT,bindR_val,condR_boolV,binOp_int,intOp_gtr,d1,isBoolV_f,isBoolV_u,Bool.not_true,Bool.not_false,puts_cons,puts_nil,r168,putE_same,putE_ne]
     rfl
    ·have d1:decide ((v:Int)>9223372036854775808)=false:=by simp;omega
     by_cases h2:v=9223372036854775808
     ·subst h2
      have d2:(((9223372036854775808:Nat):Int)==9223372036854775808)=true:=rfl
      cases neg with
      | false=>
       have hnar:narrowS false 9223372036854775808=none:=rfl
       simp (decide:=true) only [hnar,pickV_boolV,condF,condT,bindR_val,condR_boolV,binOp_int,intOp_gtr,isBoolV_f,Bool.not_false,puts_cons,puts_nil,r168,putE_same,putE_ne]
       rfl
      | true=>
       have hnar:narrowS true 9223372036854775808=some (-9223372036854775808):=rfl
       have w1:IntKind.u64.wrap (0 - ((9223372036854775808:Nat):Int))=((9223372036854775808:Nat):Int):=rfl
       have w2:IntKind.i64.wrap ((9223372036854775808:Nat):Int)= -9223372036854775808:=rfl
       simp (decide:=true) only [hnar,pickV_boolV,condF,condT,bindR_val,condR_boolV,binOp_int,intOp_gtr,unOp_neg,convR_int u72 u2,w1,w2,isBoolV_f,Bool.not_false,puts_cons,puts_nil,r168,putE_same,putE_ne]
       rfl
     ·have d2:(((v:Nat):Int)==9223372036854775808)=false:=by rw [beq_eq_false_iff_ne];omega
      cases neg with
      | false=>
       have hnar:narrowS false v=some (v:Int):=by simp [narrowS,h1,h2]
       have w2:IntKind.i64.wrap (v:Int)=(v:Int):=by simp [IntKind.wrap,IntKind.bits,IntKind.signed];omega
       simp (decide:=true) only [hnar,pickV_boolV,condF,condT,bindR_val,condR_boolV,binOp_int,intOp_gtr,intOp_eql,convR_int u72 u2,w2,d1,d2,isBoolV_f,isBoolV_t,Bool.not_false,puts_cons,puts_nil,r168,putE_same,putE_ne]
       rfl
      | true=>
       have hnar:narrowS true v=some (-(v:Int)):=by simp [narrowS,h1]
       have hv0:v≠0:=fun h=>hzz ⟨rfl,h⟩
       have w1:IntKind.u64.wrap (0 - (v:Int))=((18446744073709551616 - v:Nat):Int):=by simp [IntKind.wrap,IntKind.bits,IntKind.signed];omega
       have w2:IntKind.i64.wrap ((18446744073709551616 - v:Nat):Int)= -(v:Int):=by simp [IntKind.wrap,IntKind.bits,IntKind.signed];omega
       simp (decide:=true) only [hnar,pickV_boolV,condF,condT,bindR_val,condR_boolV,binOp_int,intOp_gtr,intOp_eql,unOp_neg,convR_int u72 u2,w1,w2,d1,d2,isBoolV_f,isBoolV_t,Bool.not_false,puts_cons,puts_nil,r168,putE_same,putE_ne]
       rfl
theorem W168(s:List UInt8)(hs:s.length<1099511627776)(σ:St):W 168 [str s] σ= .ok (.ret (intS s),σ):=by
 have key:∀(neg:Bool) (T:Rg),isNeg s=neg→T 0=str s→T 4=boolV neg→denK tab W 58 c168a (kRet tab [.tmp 2,.tmp 3]) T σ= .ok (.ret (intS s),σ):=by
  intro neg T hneg h0 h4
  rw [ec168a]
  simp only [mv_eq,g1_eq,bindR_val,h4,condR_boolV]
  unfold intS intT
  rw [hneg]
  cases neg with
  | true=>
   have hne:1≤s.length:=by
    cases s with
    | nil=>cases hneg
    | cons c s=>simp
   have hsl:sliceV tab 9 (str s) (some (intV .i64 1)) none none= .ok (str (s.drop 1)):=sliceS_lo s 1 hne
   rw [if_pos rfl]
   simp only [condT,h0,hsl,bindR_val]
   refine mid168 true (s.drop 1) (by simp;omega) σ _ ?_ ?_
   ·simp (decide:=true) only [puts_cons,puts_nil,putE_same]
   ·simp (decide:=true) only [puts_cons,puts_nil,putE_ne,h4]
  | false=>
   rw [if_neg (by decide)]
   simp only [condF]
   refine mid168 false s hs σ _ ?_ ?_
   ·simp (decide:=true) only [puts_cons,puts_nil,putE_same,putE_ne,h0]
   ·simp (decide:=true) only [puts_cons,puts_nil,putE_ne,h4]
 refine w168 (by simp) ?_
 rw [ec168]
 cases s with
 | nil=>
  have e0:decide ((((([]:List UInt8).length:Nat)):Int)>0)=false:=rfl
  simp only [mv_eq,g1_eq,bindR_val,lenS,binOp_int,intOp_gtr,e0,isBoolV_t,condF,pickV_boolV]
  refine key false _ rfl ?_ ?_
  ·simp (decide:=true) only [puts_cons,puts_nil,putE_ne];rfl
  ·simp (decide:=true) only [puts_cons,puts_nil,putE_same]
 | cons c s=>
  have hneg:isNeg (c::s)=(c==45):=by simp [isNeg]
  have e0:decide (((((c::s:List UInt8).length:Nat)):Int)>0)=true:=by simp
  simp only [mv_eq,g1_eq,bindR_val,lenS,binOp_int,intOp_gtr,e0,isBoolV_t,condT,pickV_boolV,index0,intOp_eql,i64eq]
  refine key (c==45) _ hneg ?_ ?_
  ·simp (decide:=true) only [puts_cons,puts_nil,putE_ne];rfl
  ·simp (decide:=true) only [puts_cons,puts_nil,putE_same]
end Go.Proofs.YtahgmmbmmcaejaaGreatDoor
namespace Go.Proofs.YtahgmmbmmcaejaaGreatDoor
open Go Go.Dt
set_option maxRecDepth 100000
def WF(σ:St):Prop:=σ.l.length=σ.n
theorem Grow.wf{σ σ':St}(h:Grow σ σ')(hw:WF σ):WF σ':=h.len hw
theorem WF.push{σ:St}(h:WF σ)(o:AO):WF (σ.push o):=by simp [WF,St.push];exact h
theorem WF.set{σ:St}(h:WF σ)(b:Nat)(o:AO):WF (σ.set b o):=by simp [WF,St.set];exact h
theorem set_n(σ:St)(b:Nat)(o:AO):(σ.set b o).n=σ.n:=rfl
theorem Grow.set{σ0 σ:St}(h:Grow σ0 σ){b:Nat}(hb:σ0.n≤b)(hlt:b<σ.n)(o:AO):Grow σ0 (σ.set b o):=
 ⟨h.n,fun x hx=>by rw [getO_set_other hlt (by omega)];exact h.old x hx,fun hl=>by simp [St.set];exact h.len hl,h.M⟩
theorem storeV_at{σ:St}{t b o n e sz:Nat}{x:AV}{cs:List AV}(hs:size tab t= .ok n)(hx:x.cells.length=n)(h0:0<n)(hb:b<σ.n)(ho:σ.getO b= .cells cs e true sz)
  (hle:o+n≤cs.length) (hone:x.cells.all AV.oneCell=true):storeV tab σ t (.ptr b o) x= .ok (σ.set b (.cells (splice cs o x.cells) e true sz)):=by
 simp only [storeV,hs,bindR_eq,bindR_val,hx,if_true]
 unfold Dt.storeCells
 split
 ·rename_i h;rw [h] at hx;simp at hx;omega
 ·rw [if_pos hb,ho]
  simp only
  rw [if_pos]
  simp only [Bool.and_eq_true,decide_eq_true_eq,hone,and_true,true_and]
  omega
theorem loadV_agg{σ:St}{t b o n:Nat}{ty:TypeDesc}{cs:List AV}{e sz:Nat}{ow:Bool}(hu:und tab t= .ok ty)(ha:isAggD ty=true)(hn:size tab t= .ok n)(hb:b<σ.n)(ho:σ.getO b= .cells cs e ow sz)
  (hl:((cs.drop o).take n).length=n):loadV tab σ t (.ptr b o)= .ok (.agg ((cs.drop o).take n)):=by
 simp only [loadV,cellsOf,hb,ho,hu,ha,hn,takeN,bindR_eq,bindR_val,if_true]
 rw [if_pos hl]
 rfl
def isAggOk(r:R TypeDesc):Bool:=match r with
 | .ok d=>isAggD d
 | .error _=>false
theorem isAggOk_of{r:R TypeDesc}(h:isAggOk r=true):∃ty,r= .ok ty∧isAggD ty=true:=by
 cases r with
 | ok d=>exact ⟨d,rfl,h⟩
 | error e=>cases h
theorem u26:∃ty,und tab 26= .ok ty∧isAggD ty=true:=isAggOk_of (by kernel_rfl)
theorem sz26:size tab 26= .ok 2:=by kernel_rfl
theorem alloc26(b:Nat):allocA tab 26 b= .ok (.ptr b 0,.cells [intV .i64 0,intV .i64 0] 26 true 2):=by kernel_rfl
theorem build26(x y:Int):Dt.build tab 26 [(0,intV .i64 x),(1,intV .i64 y)]= .ok (.agg [intV .i64 x,intV .i64 y]):=by kernel_rfl
theorem build26_0:Dt.build tab 26 []= .ok (.agg [intV .i64 0,intV .i64 0]):=by kernel_rfl
theorem store26{σ:St}{b:Nat}{x y c d:Int}(hb:b<σ.n)(ho:σ.getO b= .cells [intV .i64 c,intV .i64 d] 26 true 2):
  storeV tab σ 26 (.ptr b 0) (.agg [intV .i64 x,intV .i64 y])= .ok (σ.set b (.cells [intV .i64 x,intV .i64 y] 26 true 2)):=
 storeV_at (x:= .agg [intV .i64 x,intV .i64 y]) sz26 rfl (by omega) hb ho (by simp) rfl
theorem load26{σ:St}{b:Nat}{x y:AV}{ow:Bool}(hb:b<σ.n)(ho:σ.getO b= .cells [x,y] 26 ow 2):loadV tab σ 26 (.ptr b 0)= .ok (.agg [x,y]):=by
 obtain ⟨ty,hu,ha⟩:=u26
 exact loadV_agg hu ha sz26 hb ho rfl
theorem W105(e at':Int)(σ:St)(hw:WF σ):∃σ',W 105 [intV .i64 e,intV .i64 at'] σ= .ok (.ret (.tuple [intV .u64 0,intV .i64 0,.agg [intV .i64 e,intV .i64 at']]),σ')∧Grow σ σ':=by
 have hlt:σ.n<(σ.push (.cells [intV .i64 0,intV .i64 0] 26 true 2)).n:=by rw [push_n];omega
 refine ⟨_,w105 (by simp) ?_,(Grow.push σ (.cells [intV .i64 0,intV .i64 0] 26 true 2)).set (b:=σ.n) (Nat.le_refl _) hlt (.cells [intV .i64 e,intV .i64 at'] 26 true 2)⟩
 rw [ec105]
 have a0:argE [intV .i64 e,intV .i64 at'] 0=intV .i64 e:=rfl
 simp only [mv_eq,g1_eq,g3_eq,bindR_val,alloc26,build26,store26 hlt getO_push_new]
 have hl:=load26 (σ:=(σ.push (.cells [intV .i64 0,intV .i64 0] 26 true 2)).set σ.n (.cells [intV .i64 e,intV .i64 at'] 26 true 2)) (b:=σ.n) hlt
  (getO_set_same (WF.push hw _) hlt)
 simp (decide:=true) only [kRet,resK,puts_cons,puts_nil,putE_same,putE_ne,hl,bindR_val]
 rfl
theorem callG105(e at':Int)(σ:St):callG tab W (AV.func (.func 105) [] []) [intV .i64 e,intV .i64 at'] σ=W 105 [intV .i64 e,intV .i64 at'] σ:=by kernel_rfl
theorem W106(c:UInt8)(σ:St):W 106 [intV .u8 (c.toNat:Int)] σ= .ok (.ret (boolV (isDig c)),σ):=by
 refine w106 (by simp) ?_
 rw [ec106]
 have hc:c.toNat<256:=c.toNat_lt
 simp only [mv_eq,g1_eq,bindR_val,binOp_int,intOp_geq,isBoolV_t]
 by_cases h:48≤c.toNat
 ·have d1:decide ((c.toNat:Int)≥48)=true:=by simp;omega
  have d2:isDig c=decide ((c.toNat:Int)≤57):=by
   unfold isDig
   rw [decide_eq_true h,Bool.true_and,decide_eq_decide]
   omega
  simp (decide:=true) only [d1,condT,bindR_val,binOp_int,intOp_leq,pickV_boolV,puts_cons,puts_nil,r106,putE_same,d2]
 ·have d1:decide ((c.toNat:Int)≥48)=false:=by simp;omega
  have d2:isDig c=false:=by
   unfold isDig
   rw [decide_eq_false h,Bool.false_and]
  simp (decide:=true) only [d1,condF,bindR_val,pickV_boolV,puts_cons,puts_nil,r106,putE_same,d2]
end Go.Proofs.YtahgmmbmmcaejaaGreatDoor
namespace Go.Proofs.YtahgmmbmmcaejaaGreatDoor
open Go Go.Dt
set_option maxRecDepth 100000
structure Noted(σ0 σ:St)(b:Nat):Prop where
 wf:WF σ
 lt:b<σ.n
 ge:σ0.n≤b
 get:∃c d,σ.getO b= .cells [intV .i64 c,intV .i64 d] 26 true 2
 grow:Grow σ0 σ
theorem Noted.fail{σ0 σ:St}{b:Nat}(h:Noted σ0 σ b)(e a:Int):∃σ1 σ2,callG tab W (AV.func (.func 105) [] []) [intV .i64 e,intV .i64 a] σ= .ok (.ret (.tuple [intV .u64 0,intV .i64 0,.agg [intV .i64 e,intV .i64 a]]),σ1)∧
  storeV tab σ1 26 (.ptr b 0) (.agg [intV .i64 e,intV .i64 a])= .ok σ2∧loadV tab σ2 26 (.ptr b 0)= .ok (.agg [intV .i64 e,intV .i64 a])∧Grow σ0 σ2:=by
 obtain ⟨σ1,h1,h2⟩:=W105 e a σ h.wf
 obtain ⟨c,d,hg⟩:=h.get
 have hlt:b<σ1.n:=Nat.lt_of_lt_of_le h.lt h2.n
 have hg1:σ1.getO b= .cells [intV .i64 c,intV .i64 d] 26 true 2:=by rw [h2.old b h.lt];exact hg
 refine ⟨σ1,_,by rw [callG105];exact h1,store26 hlt hg1,load26 hlt (getO_set_same (h2.wf h.wf) hlt),(h.grow.trans h2).set h.ge hlt _⟩
def capF(v:Nat)(c:UInt8):Nat:=min 1000 (10*v+(c.toNat - 48))
noncomputable def r93:K (AEnd×St):=kRet tab [.tmp 2,.tmp 3,.cell 4 26]
theorem r93_ret{T:Rg}{σ:St}{x y v:AV}{b:Nat}(h2:T 2=x)(h3:T 3=y)(h4:T 4= .ptr b 0)(hl:loadV tab σ 26 (.ptr b 0)= .ok v):r93.ret T σ= .ok (.ret (.tuple [x,y,v]),σ):=by
 simp only [r93,kRet,resK,h2,h3,h4,hl,bindR_val]
 rfl
def Refused(σ0:St)(r:R (AEnd×St)):Prop:=∃e a σ',e≠0∧r= .ok (.ret (.tuple [intV .u64 0,intV .i64 0,.agg [intV .i64 e,intV .i64 a]]),σ')∧Grow σ0 σ'
theorem minMax2(a b:Int):minMax false (intV .i64 a) [intV .i64 b]= .ok (intV .i64 (if b<a then b else a)):=eqBy rfl
structure In93(s:List UInt8)(b:Nat)(T:Rg)(l:Nat)(last:Int):Prop where
 h0:T 0=str s
 h2:T 2=intV .u64 (l:Int)
 h4:T 4= .ptr b 0
 h5:T 5= .func (.func 105) [] []
 h6:T 6=intV .i64 last
theorem loop93i(s:List UInt8)(hs:s.length<1099511627776)(σ0 σ:St)(b:Nat)(hN:Noted σ0 σ b)(frm:Nat):∀(m at':Nat),at'+m=s.length→frm≤at'→∀(T:Rg) (l:Nat) (last:Int) (v:Nat),v≤1000→In93 s b T l last→
  T 7=intV .i64 (at':Int)→T 8=intV .i64 (frm:Int)→T 9=intV .i64 (v:Int)→
  ∀ds,(s.drop at').takeWhile isDig=ds→
  ((ds≠[]∧s[frm]? =some 48∧frm+1<at'+ds.length)→
   ∃T' σ',loopLim (dd tab W 136 c93e) T σ= .ok (.ret T' σ')∧Refused σ0 (r93.ret T' σ'))∧
  (¬(ds≠[]∧s[frm]? =some 48∧frm+1<at'+ds.length)→∃T',loopLim (dd tab W 136 c93e) T σ= .ok (.exit 2 T' σ)∧In93 s b T' l last∧T' 7=intV .i64 ((at'+ds.length:Nat):Int)∧T' 8=intV .i64 (frm:Int)∧T' 9=intV .i64 ((ds.foldl capF v:Nat):Int)):=by
 intro m
 induction m with
 | zero=>
  intro at' hat hfa T l last v hv hI h7 h8 h9 ds hds
  have hd:s.drop at'=[]:=List.drop_eq_nil_of_le (by omega)
  have e:=ec93e kOc T σ
  have hlt:decide ((at':Int)<(s.length:Int))=false:=by simp;omega
  simp only [mv_eq,g1_eq,bindR_val,h7,hI.h0,lenS,binOp_int,intOp_lss,hlt,isBoolV_t,condF,retK_ret,pickV_boolV,condR_boolV,kOc_exit] at e
  rw [hd,List.takeWhile_nil] at hds
  subst hds
  refine ⟨fun h=>(h.1 rfl).elim,fun _=> ?_⟩
  refine ⟨_,loop_exit (dd_of tab W 136 e),⟨?_,?_,?_,?_,?_⟩,?_,?_,?_⟩
  ·simp (decide:=true) only [puts_cons,puts_nil,putE_ne,hI.h0]
  ·simp (decide:=true) only [puts_cons,puts_nil,putE_ne,hI.h2]
  ·simp (decide:=true) only [puts_cons,puts_nil,putE_ne,hI.h4]
  ·simp (decide:=true) only [puts_cons,puts_nil,putE_ne,hI.h5]
  ·simp (decide:=true) only [puts_cons,puts_nil,putE_ne,hI.h6]
  ·simp (decide:=true) only [puts_cons,puts_nil,putE_ne,h7];rfl
  ·simp (decide:=true) only [puts_cons,puts_nil,putE_ne,h8]
  ·simp (decide:=true) only [puts_cons,puts_nil,putE_ne,h9];rfl
 | succ m ih=>
  intro at' hat hfa T l last v hv hI h7 h8 h9 ds hds
  have hil:at'<s.length:=by omega
  have hf:frm<s.length:=by omega
  obtain ⟨c,hc⟩:∃c,s[at']? =some c:=⟨s[at'],List.getElem?_eq_getElem hil⟩
  have hd:s.drop at'=c::s.drop (at'+1):=by
   rw [List.drop_eq_getElem_cons hil]
   rw [List.getElem?_eq_getElem hil] at hc
   rw [Option.some.inj hc]
  have hlt:decide ((at':Int)<(s.length:Int))=true:=by simp;omega
  have hc255:c.toNat<256:=c.toNat_lt
  have e:=ec93e kOc T σ
  simp only [mv_eq,g1_eq,g2_eq,g3_eq,bindR_val,h7,hI.h0,lenS,binOp_int,intOp_lss,hlt,isBoolV_t,condT,indexS s at' c hc,W106,retK_ret,pickV_boolV,condR_boolV] at e
  rw [hd] at hds
  cases hdig:isDig c with
  | false=>
   simp only [hdig,condF,kOc_exit] at e
   have htw:(c::s.drop (at'+1)).takeWhile isDig=[]:=by simp [hdig]
   rw [htw] at hds
   subst hds
   refine ⟨fun h=>(h.1 rfl).elim,fun _=> ?_⟩
   refine ⟨_,loop_exit (dd_of tab W 136 e),⟨?_,?_,?_,?_,?_⟩,?_,?_,?_⟩
   ·simp (decide:=true) only [puts_cons,puts_nil,putE_ne,hI.h0]
   ·simp (decide:=true) only [puts_cons,puts_nil,putE_ne,hI.h2]
   ·simp (decide:=true) only [puts_cons,puts_nil,putE_ne,hI.h4]
   ·simp (decide:=true) only [puts_cons,puts_nil,putE_ne,hI.h5]
   ·simp (decide:=true) only [puts_cons,puts_nil,putE_ne,hI.h6]
   ·simp (decide:=true) only [puts_cons,puts_nil,putE_ne,h7];rfl
   ·simp (decide:=true) only [puts_cons,puts_nil,putE_ne,h8]
   ·simp (decide:=true) only [puts_cons,puts_nil,putE_ne,h9];rfl
  | true=>
   have htw:(c::s.drop (at'+1)).takeWhile isDig=c::(s.drop (at'+1)).takeWhile isDig:=by simp [hdig]
   rw [htw] at hds
   obtain ⟨cf,hcf⟩:∃cf,s[frm]? =some cf:=⟨s[frm],List.getElem?_eq_getElem hf⟩
   simp only [hdig,condT,h8,binOp_int,intOp_gtr] at e
   have hdg:=hdig
   simp only [isDig,Bool.and_eq_true,decide_eq_true_eq] at hdg
   have fin:∀ds',(s.drop (at'+1)).takeWhile isDig=ds'→c::ds'=ds→(∃T1,denK tab W 136 c93e kOc T σ= .ok (.nxt T1 σ)∧In93 s b T1 l last∧T1 7=intV .i64 ((at'+1:Nat):Int)∧T1 8=intV .i64 (frm:Int)∧T1 9=intV .i64 ((capF v c:Nat):Int))→
     ¬(s[frm]? =some 48∧frm<at')→
     ((ds≠[]∧s[frm]? =some 48∧frm+1<at'+ds.length)→∃T' σ',loopLim (dd tab W 136 c93e) T σ= .ok (.ret T' σ')∧Refused σ0 (r93.ret T' σ'))∧
     (¬(ds≠[]∧s[frm]? =some 48∧frm+1<at'+ds.length)→∃T',loopLim (dd tab W 136 c93e) T σ= .ok (.exit 2 T' σ)∧In93 s b T' l last∧T' 7=intV .i64 ((at'+ds.length:Nat):Int)∧T' 8=intV .i64 (frm:Int)∧T' 9=intV .i64 ((ds.foldl capF v:Nat):Int)):=by
    rintro ds' hds' rfl ⟨T1,e1,i1,k7,k8,k9⟩ hno
    obtain ⟨ka,kb⟩:=ih (at'+1) (by omega) (by omega) T1 l last (capF v c) (by unfold capF;omega) i1 k7 k8 k9 ds' hds'
    refine ⟨fun h=> ?_,fun h=> ?_⟩
    ·have hne:ds'≠[]:=by
      intro hn
      subst hn
      have:=h.2.2
      simp at this
      exact hno ⟨h.2.1,by omega⟩
     obtain ⟨T',σ',q1,q2⟩:=ka ⟨hne,h.2.1,by have:=h.2.2;simp at this;omega⟩
     exact ⟨T',σ',loop_next (dd_of tab W 136 e1) q1,q2⟩
    ·obtain ⟨T',q1,q2,q3,q4,q5⟩:=kb (fun hh=>h ⟨by simp,hh.2.1,by have:=hh.2.2;simp;omega⟩)
     refine ⟨T',loop_next (dd_of tab W 136 e1) q1,q2,?_,q4,q5⟩
     rw [q3]
     congr 2
     simp;omega
   have w1:IntKind.u8.wrap ((c.toNat:Int) - 48)=((c.toNat - 48:Nat):Int):=by
    simp [IntKind.wrap,IntKind.bits,IntKind.signed];omega
   have w2:IntKind.i64.wrap ((c.toNat - 48:Nat):Int)=((c.toNat - 48:Nat):Int):=by
    simp [IntKind.wrap,IntKind.bits,IntKind.signed];omega
   have w3:IntKind.i64.wrap (10*(v:Int))=((10*v:Nat):Int):=by
    simp [IntKind.wrap,IntKind.bits,IntKind.signed];omega
   have w4:IntKind.i64.wrap (((10*v:Nat):Int)+((c.toNat - 48:Nat):Int))=((10*v+(c.toNat - 48):Nat):Int):=by
    simp [IntKind.wrap,IntKind.bits,IntKind.signed];omega
   have w5:IntKind.i64.wrap ((at':Int)+1)=((at'+1:Nat):Int):=i64_add1 at' (by omega)
   have w6:(if ((10*v+(c.toNat - 48):Nat):Int)<1000 then ((10*v+(c.toNat - 48):Nat):Int) else 1000)=((capF v c:Nat):Int):=by
    unfold capF;split<;>omega
   by_cases hg:frm<at'
   ·have d1:decide ((at':Int)>(frm:Int))=true:=by simp;omega
    simp only [d1,isBoolV_t,condT,bindR_val,indexS s frm cf hcf,binOp_int,intOp_eql,pickV_boolV,condR_boolV] at e
    by_cases h48:cf=48
    ·have e48:(((cf.toNat:Nat):Int)==48)=true:=by subst h48;rfl
     simp only [e48,condT,hI.h5,hI.h4] at e
     obtain ⟨σ1,σ2,f1,f2,f3,f4⟩:=hN.fail 3 (at':Int)
     simp only [f1,bindR_val,retK_ret,extractV_0,extractV_1,extractV_2,f2,kOc_ret] at e
     refine ⟨fun _=>⟨_,σ2,loop_ret (dd_of tab W 136 e),3,(at':Int),σ2,by decide,?_,f4⟩,fun h=>(h ⟨by rw [← hds];simp,by rw [hcf,h48],by rw [← hds];simp;omega⟩).elim⟩
     refine r93_ret ?_ ?_ ?_ f3<;>simp (decide:=true) only [puts_cons,puts_nil,putE_same,putE_ne,hI.h4]
    ·have e48:(((cf.toNat:Nat):Int)==48)=false:=by
      rw [beq_eq_false_iff_ne]
      intro h
      exact h48 (UInt8.toNat_inj.1 (by show cf.toNat=48;omega))
     simp only [e48,condF,h9,bindR_val,binOp_int,intOp_mul,w3,intOp_sub,w1,convR_int u5 u3,w2,intOp_add,w4,minMax2,w6,w5,kOc_nxt] at e
     refine fin _ rfl hds ⟨_,e,⟨?_,?_,?_,?_,?_⟩,?_,?_,?_⟩ (fun h=>h48 (by rw [hcf] at h;exact Option.some.inj h.1))<;>
      simp (decide:=true) only [puts_cons,puts_nil,putE_same,putE_ne,hI.h0,hI.h2,hI.h4,hI.h5,hI.h6,h8]
   ·have d1:decide ((at':Int)>(frm:Int))=false:=by simp;omega
    simp only [d1,isBoolV_t,condF,bindR_val,pickV_boolV,condR_boolV,h9,binOp_int,intOp_mul,w3,intOp_sub,w1,convR_int u5 u3,w2,intOp_add,w4,minMax2,w6,w5,kOc_nxt] at e
    refine fin _ rfl hds ⟨_,e,⟨?_,?_,?_,?_,?_⟩,?_,?_,?_⟩ (fun h=>hg h.2)<;>
     simp (decide:=true) only [puts_cons,puts_nil,putE_same,putE_ne,hI.h0,hI.h2,hI.h4,hI.h5,hI.h6,h8]
theorem orN(a b:Nat)(ha:a<18446744073709551616)(hb:b<18446744073709551616):intOp .or .u64 .u64 (a:Int) (b:Int)= .ok (intV .u64 ((a ||| b:Nat):Int)):=by
 have h1:(BitVec.ofInt 64 (a:Int)).toNat=a:=by simp;omega
 have h2:(BitVec.ofInt 64 (b:Int)).toNat=b:=by simp;omega
 have e:(BitVec.ofInt 64 (a:Int) ||| BitVec.ofInt 64 (b:Int)).toNat=a ||| b:=by
  rw [BitVec.toNat_or,h1,h2]
 have e2:intOp .or .u64 .u64 (a:Int) (b:Int)= .ok (intV .u64 (IntKind.u64.wrap (((BitVec.ofInt 64 (a:Int) ||| BitVec.ofInt 64 (b:Int)).toNat:Nat):Int))):=rfl
 have hlt:a ||| b<2^64:=Nat.or_lt_two_pow (by omega) (by omega)
 rw [e2,e,wrap64,Nat.mod_eq_of_lt (by omega)]
theorem shlN(n:Nat)(hn:n≤63)(k:IntKind):intOp .shl .u64 k 1 (n:Int)= .ok (intV .u64 ((2^n:Nat):Int)):=by
 show (if ((n:Int)<0) then (Except.error "shift" :R AV) else .ok (intV .u64 (IntKind.u64.wrap (1*2^(min (n:Int).toNat 64)))))=_
 rw [if_neg (by omega)]
 have e1:min (n:Int).toNat 64=n:=by omega
 have e2:(1:Int)*2^n=((2^n:Nat):Int):=by simp
 have hlt:2^n<2^64:=Nat.pow_lt_pow_right (by omega) (by omega)
 rw [e1,e2,wrap64,Nat.mod_eq_of_lt (by omega)]
theorem capF_le(l:List UInt8):∀v,v≤1000→l.foldl capF v≤1000:=by
 induction l with
 | nil=>intro v h;exact h
 | cons c l ih=>intro v _;exact ih _ (by unfold capF;omega)
def labL:Nat→List UInt8→Nat→Int→Nat→Option (Nat×Nat)
 | 0,_,_,_,_=>none
 | m+1,s,l,last,at'=>
  match (s.drop at').takeWhile isDig with
  | []=>none
  | d::ds=>
   if d=48∧ds≠[] then none else
   if 63<(d::ds).foldl capF 0∨(((d::ds).foldl capF 0:Nat):Int)≤last then none else
   match s[at'+(d::ds).length]? with
   | none=>none
   | some c=>
    if c=125 then some (l ||| 2^(d::ds).foldl capF 0,at'+(d::ds).length)
    else if c=44 then labL m s (l ||| 2^(d::ds).foldl capF 0) ((d::ds).foldl capF 0:Nat) (at'+(d::ds).length+1)
    else none
theorem u123:und tab 123= .ok (.int .u64):=by kernel_rfl
theorem tw_head{l:List UInt8}{d:UInt8}{ds:List UInt8}(h:l.takeWhile isDig=d::ds):l[0]? =some d∧ds.length+1≤l.length:=by
 have hp:=List.takeWhile_prefix (p:=isDig) (l:=l)
 rw [h] at hp
 obtain ⟨r,hr⟩:=hp
 rw [← hr]
 simp
theorem loop93o(s:List UInt8)(hs:s.length<1099511627776)(σ0 σ:St)(b:Nat)(hN:Noted σ0 σ b):∀(m at':Nat),at'≤s.length→s.length<at'+m→∀(T:Rg) (l:Nat) (last:Int),l<18446744073709551616→In93 s b T l last→
  T 7=intV .i64 (at':Int)→
  match labL m s l last at' with
  | some p=>∃T',loopLim (dd tab W 136 c93c) T σ= .ok (.exit 0 T' σ)∧T' 2=intV .u64 (p.1:Int)∧T' 7=intV .i64 (p.2:Int)∧T' 4= .ptr b 0∧p.1<18446744073709551616∧p.2<s.length
  | none=>∃T' σ',loopLim (dd tab W 136 c93c) T σ= .ok (.ret T' σ')∧Refused σ0 (r93.ret T' σ'):=by
 intro m
 induction m with
 | zero=>intro at' h1 h2;omega
 | succ m ih=>
  intro at' hle hm T l last hl hI h7
  have e:=ec93c kOc T σ
  simp only [mv_eq,bindR_val,h7] at e
  obtain ⟨ds,hds⟩:∃ds,(s.drop at').takeWhile isDig=ds:=⟨_,rfl⟩
  obtain ⟨T0,hT0⟩:∃T0,T0=puts 136 T [(31,intV .i64 (at':Int)),(8,intV .i64 (at':Int)),(9,intV .i64 0)]:=⟨_,rfl⟩
  rw [← hT0] at e
  have hI0:In93 s b T0 l last:=by
   rw [hT0]
   refine ⟨?_,?_,?_,?_,?_⟩
   ·simp (decide:=true) only [puts_cons,puts_nil,putE_ne,hI.h0]
   ·simp (decide:=true) only [puts_cons,puts_nil,putE_ne,hI.h2]
   ·simp (decide:=true) only [puts_cons,puts_nil,putE_ne,hI.h4]
   ·simp (decide:=true) only [puts_cons,puts_nil,putE_ne,hI.h5]
   ·simp (decide:=true) only [puts_cons,puts_nil,putE_ne,hI.h6]
  have h07:T0 7=intV .i64 (at':Int):=by rw [hT0];simp (decide:=true) only [puts_cons,puts_nil,putE_ne,h7]
  have h08:T0 8=intV .i64 (at':Int):=by rw [hT0];simp (decide:=true) only [puts_cons,puts_nil,putE_ne,putE_same]
  have h09:T0 9=intV .i64 ((0:Nat):Int):=by rw [hT0];simp (decide:=true) only [puts_cons,puts_nil,putE_same];rfl
  obtain ⟨ka,kb⟩:=loop93i s hs σ0 σ b hN at' (s.length - at') at' (by omega) (Nat.le_refl _) T0 l last 0 (by omega) hI0 h07 h08 h09 ds hds
  have refuse:∀(e0 a:Int),e0≠0→(∀σ1 σ2,callG tab W (AV.func (.func 105) [] []) [intV .i64 e0,intV .i64 a] σ= .ok (.ret (.tuple [intV .u64 0,intV .i64 0,.agg [intV .i64 e0,intV .i64 a]]),σ1)→
    storeV tab σ1 26 (.ptr b 0) (.agg [intV .i64 e0,intV .i64 a])= .ok σ2→∃X,denK tab W 136 c93c kOc T σ= .ok (.ret X σ2)∧X 2=intV .u64 0∧X 3=intV .i64 0∧X 4= .ptr b 0)→
    ∃T' σ',loopLim (dd tab W 136 c93c) T σ= .ok (.ret T' σ')∧Refused σ0 (r93.ret T' σ'):=by
   intro e0 a he hX
   obtain ⟨σ1,σ2,f1,f2,f3,f4⟩:=hN.fail e0 a
   obtain ⟨X,hX,h2,h3,h4⟩:=hX σ1 σ2 f1 f2
   exact ⟨X,σ2,loop_ret (dd_of tab W 136 hX),e0,a,σ2,he,r93_ret h2 h3 h4 f3,f4⟩
  by_cases hbad:ds≠[]∧s[at']? =some 48∧at'+1<at'+ds.length
  ·obtain ⟨T',σ',q1,q2⟩:=ka hbad
   rw [q1] at e
   simp only [bindR_val,app_ret,kblk_ret,kseq_ret,kOc_ret] at e
   have hnone:labL (m+1) s l last at'=none:=by
    unfold labL
    rw [hds]
    cases ds with
    | nil=>exact (hbad.1 rfl).elim
    | cons d ds=>
     simp only
     have h1:=(tw_head hds).1
     rw [List.getElem?_drop] at h1
     simp only [Nat.add_zero] at h1
     rw [hbad.2.1] at h1
     have h2:=hbad.2.2
     rw [if_pos]
     exact ⟨(Option.some.inj h1).symm,by intro hn;subst hn;simp at h2⟩
   rw [hnone]
   exact ⟨T',σ',loop_ret (dd_of tab W 136 e),q2⟩
  ·obtain ⟨T1,q1,i1,k7,k8,k9⟩:=kb hbad
   rw [q1] at e
   simp (decide:=true) only [bindR_val,app_exit,kblk_exit,if_true,kseq_nxt,ec93f,mv_eq,g1_eq,k7,k8,binOp_int,intOp_eql,condR_boolV] at e
   unfold labL
   rw [hds]
   cases ds with
   | nil=>
    simp only
    have e1:((((at'+([]:List UInt8).length:Nat)):Int)==(at':Int))=true:=by simp
    simp only [e1,condT,g2_eq,g3_eq,i1.h5,i1.h4] at e
    refine refuse 3 ((at'+([]:List UInt8).length:Nat):Int) (by decide) fun σ1 σ2 f1 f2=> ?_
    rw [e]
    simp only [f1,bindR_val,retK_ret,extractV_0,extractV_1,extractV_2,f2,kblk_ret,kOc_ret]
    refine ⟨_,rfl,?_,?_,?_⟩<;>simp (decide:=true) only [puts_cons,puts_nil,putE_same,putE_ne,i1.h4]
   | cons d ds=>
    obtain ⟨hd0,hlen⟩:=tw_head hds
    rw [List.getElem?_drop,Nat.add_zero] at hd0
    rw [List.length_drop] at hlen
    simp only
    have hz:¬(d=48∧ds≠[]):=by
     rintro ⟨h1,h2⟩
     apply hbad
     refine ⟨by simp,by rw [hd0,h1],?_⟩
     have:=List.length_pos_iff.2 h2
     simp;omega
    rw [if_neg hz]
    have e1:((((at'+(d::ds).length:Nat)):Int)==(at':Int))=false:=by rw [beq_eq_false_iff_ne];simp;omega
    have hcap:(d::ds).foldl capF 0≤1000:=capF_le _ _ (by omega)
    obtain ⟨n,hn⟩:∃n,(d::ds).foldl capF 0=n:=⟨_,rfl⟩
    obtain ⟨q,hq⟩:∃q,at'+(d::ds).length=q:=⟨_,rfl⟩
    rw [hn] at hcap k9 ⊢
    rw [hq] at e1 e k7 ⊢
    have hql:q≤s.length:=by rw [← hq];simp;omega
    have hq0:at'<q:=by rw [← hq];simp
    simp only [e1,condF,k9,bindR_val,binOp_int,intOp_gtr,condR_boolV] at e
    by_cases h63:63<n
    ·rw [if_pos (.inl h63)]
     have d1:decide ((n:Int)>63)=true:=by simp;omega
     simp only [d1,condT,g2_eq,g3_eq,i1.h5,i1.h4] at e
     refine refuse 2 (at':Int) (by decide) fun σ1 σ2 f1 f2=> ?_
     rw [e]
     simp only [f1,bindR_val,retK_ret,extractV_0,extractV_1,extractV_2,f2,kblk_ret,kOc_ret]
     refine ⟨_,rfl,?_,?_,?_⟩<;>simp (decide:=true) only [puts_cons,puts_nil,putE_same,putE_ne,i1.h4]
    ·have d1:decide ((n:Int)>63)=false:=by simp;omega
     simp only [d1,condF,bindR_val,i1.h6,binOp_int,intOp_leq,condR_boolV] at e
     by_cases hlast:(n:Int)≤last
     ·rw [if_pos (.inr hlast)]
      have d2:decide ((n:Int)≤last)=true:=by simp [hlast]
      simp only [d2,condT,g2_eq,g3_eq,i1.h5,i1.h4] at e
      refine refuse 9 (at':Int) (by decide) fun σ1 σ2 f1 f2=> ?_
      rw [e]
      simp only [f1,bindR_val,retK_ret,extractV_0,extractV_1,extractV_2,f2,kblk_ret,kOc_ret]
      refine ⟨_,rfl,?_,?_,?_⟩<;>simp (decide:=true) only [puts_cons,puts_nil,putE_same,putE_ne,i1.h4]
     ·rw [if_neg (fun h=>h.elim h63 hlast)]
      have d2:decide ((n:Int)≤last)=false:=by simp [hlast]
      have w0:IntKind.u64.wrap (n:Int)=(n:Int):=by rw [wrap64];omega
      have hor:=orN l (2^n) hl (by have:2^n<2^64:=Nat.pow_lt_pow_right (by omega) (by omega);omega)
      have hl':l ||| 2^n<18446744073709551616:=by
       have:l ||| 2^n<2^64:=Nat.or_lt_two_pow (by omega) (Nat.pow_lt_pow_right (by omega) (by omega))
       omega
      simp (decide:=true) only [d2,condF,ec93g,puts_cons,puts_nil,putE_ne,mv_eq,g1_eq,bindR_val,i1.h2,k9,k7,i1.h0,convR_int u3 u123,w0,binOp_int,shlN n (by omega),hor,lenS,intOp_eql,condR_boolV] at e
      by_cases hqe:q=s.length
      ·have d3:(((q:Nat):Int)==(s.length:Int))=true:=by rw [beq_iff_eq];omega
       have hnone:s[q]? =none:=List.getElem?_eq_none (by omega)
       rw [hnone]
       simp (decide:=true) only [d3,condT,g2_eq,g3_eq,i1.h5,i1.h4] at e
       refine refuse 3 (q:Int) (by decide) fun σ1 σ2 f1 f2=> ?_
       rw [e]
       simp only [f1,bindR_val,retK_ret,extractV_0,extractV_1,extractV_2,f2,kblk_ret,kOc_ret]
       refine ⟨_,rfl,?_,?_,?_⟩<;>simp (decide:=true) only [putE_same,putE_ne,i1.h4]
      ·have d3:(((q:Nat):Int)==(s.length:Int))=false:=by rw [beq_eq_false_iff_ne];omega
       obtain ⟨c,hc⟩:∃c,s[q]? =some c:=⟨s[q]'(by omega),List.getElem?_eq_getElem (by omega)⟩
       rw [hc]
       simp only
       simp (decide:=true) only [d3,condF,bindR_val,indexS s q c hc,binOp_int,intOp_eql,condR_boolV] at e
       by_cases h125:c=125
       ·rw [if_pos h125]
        have d4:(((c.toNat:Nat):Int)==125)=true:=by rw [h125];rfl
        simp (decide:=true) only [d4,condT,kblk_exit,if_false,kOc_exit] at e
        refine ⟨_,loop_exit (dd_of tab W 136 e),?_,?_,?_,hl',by omega⟩<;>simp (decide:=true) only [putE_same,putE_ne,i1.h4,k7]
       ·rw [if_neg h125]
        have d4:(((c.toNat:Nat):Int)==125)=false:=by
         rw [beq_eq_false_iff_ne]
         intro h
         exact h125 (UInt8.toNat_inj.1 (by show c.toNat=125;omega))
        simp (decide:=true) only [d4,condF,bindR_val,intOp_neq,condR_boolV] at e
        by_cases h44:c=44
        ·rw [if_pos h44]
         have d5:(((c.toNat:Nat):Int) !=44)=false:=by rw [h44];rfl
         have w5:IntKind.i64.wrap ((q:Int)+1)=((q+1:Nat):Int):=i64_add1 q (by omega)
         simp (decide:=true) only [d5,condF,bindR_val,intOp_add,w5,kblk_nxt,kOc_nxt] at e
         have key:∃T3,denK tab W 136 c93c kOc T σ= .ok (.nxt T3 σ)∧In93 s b T3 (l ||| 2^n) (n:Int)∧T3 7=intV .i64 ((q+1:Nat):Int):=by
          refine ⟨_,e,⟨?_,?_,?_,?_,?_⟩,?_⟩<;>simp (decide:=true) only [putE_same,putE_ne,i1.h0,i1.h4,i1.h5]
         obtain ⟨T3,e3,i3,k37⟩:=key
         have:=ih (q+1) (by omega) (by omega) T3 (l ||| 2^n) (n:Int) hl' i3 k37
         split at this
         ·obtain ⟨T',r1,r2⟩:=this
          exact ⟨T',loop_next (dd_of tab W 136 e3) r1,r2⟩
         ·obtain ⟨T',σ',r1,r2⟩:=this
          exact ⟨T',σ',loop_next (dd_of tab W 136 e3) r1,r2⟩
        ·rw [if_neg h44]
         have d5:(((c.toNat:Nat):Int) !=44)=true:=by
          rw [bne_iff_ne]
          intro h
          exact h44 (UInt8.toNat_inj.1 (by show c.toNat=44;omega))
         simp (decide:=true) only [d5,condT,g2_eq,g3_eq,i1.h5,i1.h4] at e
         refine refuse 3 (q:Int) (by decide) fun σ1 σ2 f1 f2=> ?_
         rw [e]
         simp only [f1,bindR_val,retK_ret,extractV_0,extractV_1,extractV_2,f2,kblk_ret,kOc_ret]
         refine ⟨_,rfl,?_,?_,?_⟩<;>simp (decide:=true) only [putE_same,putE_ne,i1.h4]
end Go.Proofs.YtahgmmbmmcaejaaGreatDoor
namespace Go.Proofs.YtahgmmbmmcaejaaGreatDoor
open Go Go.Dt
set_option maxRecDepth 100000
def labS(s:List UInt8):Option (Nat×Nat):=
 if s[0]? =some 123 then
  if s[1]? =some 125 then some (0,2)
  else match labL (s.length+1) s 0 (-1) 1 with
   | some p=>some (p.1,p.2+1)
   | none=>none
 else none
def labOut(σ:St)(r:R (AEnd×St)):Option (Nat×Nat)→Prop
 | some p=>∃σ',r= .ok (.ret (.tuple [intV .u64 (p.1:Int),intV .i64 (p.2:Int),.agg [intV .i64 0,intV .i64 0]]),σ')∧Grow σ σ'
 | none=>Refused σ r
theorem W93(s:List UInt8)(hs:s.length<1099511627776)(σ:St)(hw:WF σ):labOut σ (W 93 [str s] σ) (labS s):=by
 have pull:∀(r:AEnd×St),denK tab W 136 c93 r93 (argE [str s]) σ= .ok r→W 93 [str s] σ= .ok r:=fun r h=>w93 (by simp) h
 have pullR:Refused σ (denK tab W 136 c93 r93 (argE [str s]) σ)→Refused σ (W 93 [str s] σ):=by
  rintro ⟨e,a,σ',he,h,g⟩
  exact ⟨e,a,σ',he,pull _ h,g⟩
 obtain ⟨σ1,hσ1⟩:∃σ1,σ1=σ.push (.cells [intV .i64 0,intV .i64 0] 26 true 2):=⟨_,rfl⟩
 have hN:Noted σ σ1 σ.n:=by
  rw [hσ1]
  exact ⟨WF.push hw _,by rw [push_n];omega,Nat.le_refl _,⟨0,0,getO_push_new⟩,Grow.push _ _⟩
 have e:=ec93 r93 (str s) σ
 simp only [mv_eq,g1_eq,g2_eq,g3_eq,bindR_val,alloc26,binOp_str,strOp_eql,isBoolV_f,← hσ1] at e
 have refuse:∀(e0 a:Int),e0≠0→(∀σ2 σ3,W 105 [intV .i64 e0,intV .i64 a] σ1= .ok (.ret (.tuple [intV .u64 0,intV .i64 0,.agg [intV .i64 e0,intV .i64 a]]),σ2)→
   storeV tab σ2 26 (.ptr σ.n 0) (.agg [intV .i64 e0,intV .i64 a])= .ok σ3→∃X,denK tab W 136 c93 r93 (argE [str s]) σ=r93.ret X σ3∧X 2=intV .u64 0∧X 3=intV .i64 0∧X 4= .ptr σ.n 0)→Refused σ (W 93 [str s] σ):=by
  intro e0 a he hX
  obtain ⟨σ2,σ3,f1,f2,f3,f4⟩:=hN.fail e0 a
  rw [callG105] at f1
  obtain ⟨X,hX,h2,h3,h4⟩:=hX σ2 σ3 f1 f2
  exact pullR ⟨e0,a,σ3,he,by rw [hX];exact r93_ret h2 h3 h4 f3,f4⟩
 have good:∀(l u:Int),(∀σ3,storeV tab σ1 26 (.ptr σ.n 0) (.agg [intV .i64 0,intV .i64 0])= .ok σ3→∃X,denK tab W 136 c93 r93 (argE [str s]) σ=r93.ret X σ3∧X 2=intV .u64 l∧X 3=intV .i64 u∧X 4= .ptr σ.n 0)→
   ∃σ',W 93 [str s] σ= .ok (.ret (.tuple [intV .u64 l,intV .i64 u,.agg [intV .i64 0,intV .i64 0]]),σ')∧Grow σ σ':=by
  intro l u hX
  obtain ⟨c,d,hg⟩:=hN.get
  obtain ⟨X,h3',h2,h3,h4⟩:=hX _ (store26 hN.lt hg)
  refine ⟨_,pull _ (h3'.trans (r93_ret h2 h3 h4 (load26 hN.lt (getO_set_same hN.wf hN.lt)))),hN.grow.set hN.ge hN.lt _⟩
 cases s with
 | nil=>
  have e1:(([]:List UInt8)==[])=true:=rfl
  simp only [e1,Bool.not_true,condF,bindR_val,pickV_boolV,condT,condR_boolV] at e
  show Refused σ _
  refine refuse 3 0 (by decide) fun σ2 σ3 f1 f2=> ?_
  rw [e,f1]
  simp only [bindR_val,retK_ret,extractV_0,extractV_1,extractV_2,f2]
  refine ⟨_,rfl,?_,?_,?_⟩<;>simp (decide:=true) only [puts_cons,puts_nil,putE_same,putE_ne]
 | cons c s=>
  have e1:((c::s:List UInt8)==[])=false:=rfl
  have hc255:c.toNat<256:=c.toNat_lt
  simp only [e1,Bool.not_false,condT,bindR_val,index0,binOp_int,intOp_neq,pickV_boolV,condF,condR_boolV] at e
  by_cases h123:c=123
  ·have d1:(((c.toNat:Nat):Int) !=123)=false:=by rw [h123];rfl
   simp (decide:=true) only [d1,condF,ec93a,puts_cons,puts_nil,putE_ne,mv_eq,g1_eq,bindR_val,argE,List.getD_cons_zero,lenS,binOp_int,intOp_gtr,isBoolV_t] at e
   have hl0:labS (c::s)=(if (c::s)[1]? =some 125 then some (0,2) else match labL ((c::s).length+1) (c::s) 0 (-1) 1 with
     | some p=>some (p.1,p.2+1)
     | none=>none):=by
    unfold labS
    rw [if_pos (by simp [h123])]
   rw [hl0]
   have tail:∀T:Rg,In93 (c::s) σ.n T 0 (-1)→T 7=intV .i64 ((1:Nat):Int)→denK tab W 136 c93 r93 (argE [str (c::s)]) σ=
      bindR (loopLim (dd tab W 136 c93c) T σ1) (K.app (kblk 0 (kseq (denK tab W 136 c93d r93) r93)))→
     labOut σ (W 93 [str (c::s)] σ) (match labL ((c::s).length+1) (c::s) 0 (-1) 1 with
     | some p=>some (p.1,p.2+1)
     | none=>none):=by
    intro T hI h7 hden
    have k:=loop93o (c::s) hs σ σ1 σ.n hN ((c::s).length+1) 1 (by simp) (by simp;omega) T 0 (-1) (by omega) hI h7
    cases hp:labL ((c::s).length+1) (c::s) 0 (-1) 1 with
    | some p=>
     rw [hp] at k
     obtain ⟨T',r1,r2,r3,r4,r5,r6⟩:=k
     have w5:IntKind.i64.wrap ((p.2:Int)+1)=((p.2+1:Nat):Int):=i64_add1 p.2 (by omega)
     refine good _ _ fun σ3 f=> ?_
     rw [hden,r1]
     simp (decide:=true) only [bindR_val,app_exit,kblk_exit,if_true,kseq_nxt,ec93d,mv_eq,g1_eq,g3_eq,r2,r3,r4,binOp_int,intOp_add,w5,build26_0,f]
     refine ⟨_,rfl,?_,?_,?_⟩<;>simp (decide:=true) only [puts_cons,puts_nil,putE_same,putE_ne,r4]
    | none=>
     rw [hp] at k
     obtain ⟨T',σ',r1,r2⟩:=k
     refine pullR ?_
     rw [hden,r1]
     simp only [bindR_val,app_ret,kblk_ret,kseq_ret]
     exact r2
   cases s with
   | nil=>
    have d2:decide ((([c].length:Nat):Int)>1)=false:=rfl
    simp (decide:=true) only [d2,condF,bindR_val,pickV_boolV,condR_boolV,ec93b,mv_eq] at e
    rw [if_neg (by simp)]
    refine tail _ ⟨?_,?_,?_,?_,?_⟩ ?_ e<;>simp (decide:=true) only [puts_cons,puts_nil,putE_same,putE_ne]<;>rfl
   | cons d s=>
    have d2:decide ((((c::d::s).length:Nat):Int)>1)=true:=by simp;omega
    have hi1:indexV tab 9 (str (c::d::s)) (intV .i64 1)= .ok (intV .u8 d.toNat):=indexS (c::d::s) 1 d rfl
    have hd255:d.toNat<256:=d.toNat_lt
    simp only [d2,condT,bindR_val,hi1,binOp_int,intOp_eql,pickV_boolV,condR_boolV] at e
    by_cases h125:d=125
    ·have d3:(((d.toNat:Nat):Int)==125)=true:=by rw [h125];rfl
     rw [if_pos (by simp [h125])]
     simp (decide:=true) only [d3,condT,g3_eq,bindR_val,build26_0,putE_same] at e
     refine good 0 2 fun σ3 f=> ?_
     rw [e,f]
     simp only [bindR_val]
     refine ⟨_,rfl,?_,?_,?_⟩<;>simp (decide:=true) only [putE_same,putE_ne]
    ·have d3:(((d.toNat:Nat):Int)==125)=false:=by
      rw [beq_eq_false_iff_ne]
      intro h
      exact h125 (UInt8.toNat_inj.1 (by show d.toNat=125;omega))
     rw [if_neg (by simpa using h125)]
     simp (decide:=true) only [d3,condF,ec93b,mv_eq,bindR_val] at e
     refine tail _ ⟨?_,?_,?_,?_,?_⟩ ?_ e<;>simp (decide:=true) only [puts_cons,puts_nil,putE_same,putE_ne]<;>rfl
  ·have d1:(((c.toNat:Nat):Int) !=123)=true:=by
    rw [bne_iff_ne]
    intro h
    exact h123 (UInt8.toNat_inj.1 (by show c.toNat=123;omega))
   have hl0:labS (c::s)=none:=by
    unfold labS
    rw [if_neg (by simpa using h123)]
   rw [hl0]
   simp only [d1,condT] at e
   show Refused σ _
   refine refuse 3 0 (by decide) fun σ2 σ3 f1 f2=> ?_
   rw [e,f1]
   simp only [bindR_val,retK_ret,extractV_0,extractV_1,extractV_2,f2]
   refine ⟨_,rfl,?_,?_,?_⟩<;>simp (decide:=true) only [puts_cons,puts_nil,putE_same,putE_ne]
end Go.Proofs.YtahgmmbmmcaejaaGreatDoor
namespace Go.Proofs.YtahgmmbmmcaejaaGreatDoor
open Go Go.Dt
set_option maxRecDepth 100000
def labP(s:List UInt8):Option Nat:=
 match labS s with
 | some p=>if p.2<s.length then none else some p.1
 | none=>none
theorem fa26_0(b:Nat):fieldAddr tab 26 (.ptr b 0) 0= .ok (.ptr b 0):=by kernel_rfl
theorem bnd_agg(n:Nat)(x y:Int):bndA n (.agg [intV .i64 x,intV .i64 y])=true:=rfl
theorem beqA_agg(x y:Int):beqA (.agg [intV .i64 x,intV .i64 y]) (.agg [intV .i64 x,intV .i64 y])=true:=by
 simp [beqA,beqL,intV,beqBase]
theorem sameR_ok{r:R AV}{v:AV}(h:r= .ok v)(hb:beqA v v=true):sameR r v=true:=by rw [h];exact hb
theorem load24{σ:St}{b:Nat}{x y:Int}{ow:Bool}(hb:b<σ.n)(ho:σ.getO b= .cells [intV .i64 x,intV .i64 y] 26 ow 2):loadV tab σ 24 (.ptr b 0)= .ok (intV .i64 x):=
 loadV_cell u24 rfl hb ho rfl
def labOut1(σ:St)(r:R (AEnd×St)):Option Nat→Prop
 | some l=>∃σ',r= .ok (.ret (.tuple [intV .u64 (l:Int),.agg [intV .i64 0,intV .i64 0]]),σ')∧Grow σ σ'
 | none=>∃e a σ',e≠0∧r= .ok (.ret (.tuple [intV .u64 0,.agg [intV .i64 e,intV .i64 a]]),σ')∧Grow σ σ'
theorem W72(s:List UInt8)(hs:s.length<1099511627776)(σ:St)(hw:WF σ):labOut1 σ (W 72 [str s] σ) (labP s):=by
 obtain ⟨σ1,hσ1⟩:∃σ1,σ1=σ.push (.cells [intV .i64 0,intV .i64 0] 26 true 2):=⟨_,rfl⟩
 have hw1:WF σ1:=by rw [hσ1];exact WF.push hw _
 have hg1:Grow σ σ1:=by rw [hσ1];exact Grow.push _ _
 have hn1:σ.n<σ1.n:=by rw [hσ1,push_n];omega
 have ho1:σ1.getO σ.n= .cells [intV .i64 0,intV .i64 0] 26 true 2:=by rw [hσ1];exact getO_push_new
 have k:=W93 s hs σ1 hw1
 have mid:∀(l u x y:Int) (σ2:St),W 93 [str s] σ1= .ok (.ret (.tuple [intV .u64 l,intV .i64 u,.agg [intV .i64 x,intV .i64 y]]),σ2)→Grow σ1 σ2→
   ∃σ3,WF σ3∧σ2.n+1=σ3.n∧σ3.getO σ2.n= .cells [intV .i64 x,intV .i64 y] 26 true 2∧σ3.getO σ.n= .cells [intV .i64 0,intV .i64 0] 26 true 2∧Grow σ σ3∧σ.n<σ3.n∧
    storeV tab (σ2.push (.cells [intV .i64 0,intV .i64 0] 26 true 2)) 26 (.ptr σ2.n 0) (.agg [intV .i64 x,intV .i64 y])= .ok σ3:=by
  intro l u x y σ2 _ hg2
  have hw2:=hg2.wf hw1
  have hlt:σ2.n<(σ2.push (.cells [intV .i64 0,intV .i64 0] 26 true 2)).n:=by rw [push_n];omega
  have hn2:σ.n<σ2.n:=Nat.lt_of_lt_of_le hn1 hg2.n
  refine ⟨_,(WF.push hw2 _).set _ _,rfl,getO_set_same (WF.push hw2 _) hlt,?_,((hg1.trans hg2).trans (Grow.push _ _)).set (b:=σ2.n) (by omega) hlt _,by rw [set_n,push_n];omega,store26 hlt getO_push_new⟩
  rw [getO_set_other hlt (by omega),getO_push_old hn2,hg2.old _ hn1]
  exact ho1
 have ret2:∀ {T:Rg} {σ':St} {x v:AV},T 2=x→T 3= .ptr σ.n 0→loadV tab σ' 26 (.ptr σ.n 0)= .ok v→(kRet tab [.tmp 2,.cell 3 26]).ret T σ'= .ok (.ret (.tuple [x,v]),σ'):=by
  intro T σ' x v h2 h3 hl
  simp only [kRet,resK,h2,h3,hl,bindR_val]
  rfl
 have e:=ec72 (kRet tab [.tmp 2,.cell 3 26]) (str s) σ
 simp only [mv_eq,g1_eq,g2_eq,g3_eq,bindR_val,alloc26,← hσ1] at e
 unfold labP
 cases hl:labS s with
 | none=>
  rw [hl] at k
  obtain ⟨x,y,σ2,hx,h1,hg2⟩:=k
  obtain ⟨σ3,m1,m2,m3,m4,m5,m6,m7⟩:=mid _ _ _ _ _ h1 hg2
  have d1:(x !=0)=true:=by rw [bne_iff_ne];exact hx
  have hlt3:σ2.n<σ3.n:=by omega
  have ld:∀x y:Int,loadV tab (σ3.set σ.n (.cells [intV .i64 x,intV .i64 y] 26 true 2)) 26 (.ptr σ.n 0)= .ok (.agg [intV .i64 x,intV .i64 y]):=fun x y=>
   load26 (σ:=σ3.set σ.n (.cells [intV .i64 x,intV .i64 y] 26 true 2)) m6 (getO_set_same m1 m6)
  simp only [h1,bindR_val,retK_ret,extractV_0,extractV_1,extractV_2,m7,fa26_0,load24 hlt3 m3,binOp_int,intOp_neq,d1,condR_boolV,condT,load26 hlt3 m3] at e
  have hb:([AV.ptr σ.n 0,.agg [intV .i64 x,intV .i64 y]].all fun v=>bndA σ3.n v)=true:=by
   have h1:bndA σ3.n (.ptr σ.n 0)=true:=by simp only [bndA,blt_eq];simpa using m6
   simp only [List.all_cons,List.all_nil,bnd_agg,Bool.and_true,h1]
  have hle:Nat.ble σ3.n (σ3.set σ.n (.cells [intV .i64 x,intV .i64 y] 26 true 2)).n=true:=by rw [set_n];exact Nat.ble_eq_true_of_le (Nat.le_refl _)
  have hsame:sameR (.ok (.agg [intV .i64 x,intV .i64 y])) (.agg [intV .i64 x,intV .i64 y])=true:=sameR_ok rfl (beqA_agg x y)
  simp only [hsame,Bool.and_true,hb,condT,store26 m6 m4,bindR_val,hle] at e
  refine ⟨x,y,_,hx,w72 (by simp) (e.trans (ret2 ?_ ?_ (ld _ _))),m5.set (Nat.le_refl _) m6 _⟩<;>simp (decide:=true) only [puts_cons,puts_nil,putE_same,putE_ne]
 | some p=>
  rw [hl] at k
  obtain ⟨σ2,h1,hg2⟩:=k
  obtain ⟨σ3,m1,m2,m3,m4,m5,m6,m7⟩:=mid _ _ _ _ _ h1 hg2
  have d1:((0:Int) !=0)=false:=rfl
  have hlt3:σ2.n<σ3.n:=by omega
  have ld:∀x y:Int,loadV tab (σ3.set σ.n (.cells [intV .i64 x,intV .i64 y] 26 true 2)) 26 (.ptr σ.n 0)= .ok (.agg [intV .i64 x,intV .i64 y]):=fun x y=>
   load26 (σ:=σ3.set σ.n (.cells [intV .i64 x,intV .i64 y] 26 true 2)) m6 (getO_set_same m1 m6)
  simp only [h1,bindR_val,retK_ret,extractV_0,extractV_1,extractV_2,m7,fa26_0,load24 hlt3 m3,binOp_int,intOp_neq,d1,condR_boolV,condF,lenS,intOp_lss] at e
  simp only
  by_cases hp:p.2<s.length
  ·rw [if_pos hp]
   have d2:decide ((p.2:Int)<(s.length:Int))=true:=by simp;exact hp
   simp only [d2,condT,build26,store26 m6 m4,bindR_val] at e
   refine ⟨4,(p.2:Int),_,by decide,w72 (by simp) (e.trans (ret2 ?_ ?_ (ld _ _))),m5.set (Nat.le_refl _) m6 _⟩<;>simp (decide:=true) only [puts_cons,puts_nil,putE_same,putE_ne]
  ·rw [if_neg hp]
   have d2:decide ((p.2:Int)<(s.length:Int))=false:=by simp;omega
   simp only [d2,condF,build26_0,store26 m6 m4,bindR_val] at e
   refine ⟨_,w72 (by simp) (e.trans (ret2 ?_ ?_ (ld _ _))),m5.set (Nat.le_refl _) m6 _⟩<;>simp (decide:=true) only [puts_cons,puts_nil,putE_same,putE_ne]
end Go.Proofs.YtahgmmbmmcaejaaGreatDoor
namespace Go.Proofs.YtahgmmbmmcaejaaGreatDoor
open Go Go.Dt
set_option maxRecDepth 100000
theorem W96(e at':Int)(σ:St)(hw:WF σ):∃σ',W 96 [intV .i64 e,intV .i64 at'] σ= .ok (.ret (.tuple [intV .u64 0,intV .i64 0,.agg [intV .i64 e,intV .i64 at']]),σ')∧Grow σ σ':=by
 have hlt:σ.n<(σ.push (.cells [intV .i64 0,intV .i64 0] 26 true 2)).n:=by rw [push_n];omega
 refine ⟨_,w96 (by simp) ?_,(Grow.push σ (.cells [intV .i64 0,intV .i64 0] 26 true 2)).set (b:=σ.n) (Nat.le_refl _) hlt (.cells [intV .i64 e,intV .i64 at'] 26 true 2)⟩
 rw [ec96]
 simp only [mv_eq,g1_eq,g3_eq,bindR_val,alloc26,build26,store26 hlt getO_push_new]
 have hl:=load26 (σ:=(σ.push (.cells [intV .i64 0,intV .i64 0] 26 true 2)).set σ.n (.cells [intV .i64 e,intV .i64 at'] 26 true 2)) (b:=σ.n) hlt
  (getO_set_same (WF.push hw _) hlt)
 simp (decide:=true) only [kRet,resK,puts_cons,puts_nil,putE_same,putE_ne,hl,bindR_val]
 rfl
theorem Noted.fail96{σ0 σ:St}{b:Nat}(h:Noted σ0 σ b)(e a:Int):∃σ1 σ2,W 96 [intV .i64 e,intV .i64 a] σ= .ok (.ret (.tuple [intV .u64 0,intV .i64 0,.agg [intV .i64 e,intV .i64 a]]),σ1)∧
  storeV tab σ1 26 (.ptr b 0) (.agg [intV .i64 e,intV .i64 a])= .ok σ2∧loadV tab σ2 26 (.ptr b 0)= .ok (.agg [intV .i64 e,intV .i64 a])∧Grow σ0 σ2:=by
 obtain ⟨σ1,h1,h2⟩:=W96 e a σ h.wf
 obtain ⟨c,d,hg⟩:=h.get
 have hlt:b<σ1.n:=Nat.lt_of_lt_of_le h.lt h2.n
 have hg1:σ1.getO b= .cells [intV .i64 c,intV .i64 d] 26 true 2:=by rw [h2.old b h.lt];exact hg
 exact ⟨σ1,_,h1,store26 hlt hg1,load26 hlt (getO_set_same (h2.wf h.wf) hlt),(h.grow.trans h2).set h.ge hlt _⟩
def digAt(s:List UInt8)(i:Nat):Bool:=match s[i]? with
 | some c=>isDig c
 | none=>false
theorem W97(s:List UInt8)(i:Nat)(σ:St):W 97 [str s,intV .i64 (i:Int)] σ= .ok (.ret (boolV (digAt s i)),σ):=by
 refine w97 (by simp) ?_
 rw [ec97]
 simp only [mv_eq,g1_eq,bindR_val,lenS,binOp_int,intOp_lss,isBoolV_t]
 unfold digAt
 cases hc:s[i]? with
 | none=>
  have hle:s.length≤i:=List.getElem?_eq_none_iff.1 hc
  have d1:decide ((i:Int)<(s.length:Int))=false:=by simp;omega
  simp (decide:=true) only [d1,condF,bindR_val,pickV_boolV,isBoolV_t,puts_cons,puts_nil,r97,putE_same]
 | some c=>
  have hlt:i<s.length:=(List.getElem?_eq_some_iff.1 hc).1
  have d1:decide ((i:Int)<(s.length:Int))=true:=by simp;omega
  have hc255:c.toNat<256:=c.toNat_lt
  simp only [d1,condT,bindR_val,indexS s i c hc,binOp_int,intOp_geq,pickV_boolV,isBoolV_t]
  by_cases h:48≤c.toNat
  ·have d1:decide ((c.toNat:Int)≥48)=true:=by simp;omega
   have d2:isDig c=decide ((c.toNat:Int)≤57):=by
    unfold isDig
    rw [decide_eq_true h,Bool.true_and,decide_eq_decide]
    omega
   simp (decide:=true) only [d1,condT,bindR_val,indexS s i c hc,binOp_int,intOp_leq,puts_cons,puts_nil,r97,putE_same,d2]
  ·have d1:decide ((c.toNat:Int)≥48)=false:=by simp;omega
   have d2:isDig c=false:=by
    unfold isDig
    rw [decide_eq_false h,Bool.false_and]
   simp (decide:=true) only [d1,condF,bindR_val,puts_cons,puts_nil,r97,putE_same,d2]
structure In81(s:List UInt8)(b:Nat)(T:Rg)(l:Nat)(last:Int):Prop where
 h0:T 0=str s
 h5:T 5=intV .u64 (l:Int)
 h4:T 4= .ptr b 0
 h6:T 6=intV .i64 last
theorem loop81i(s:List UInt8)(hs:s.length<1099511627776)(σ0 σ:St)(b:Nat)(hN:Noted σ0 σ b)(frm:Nat):∀(m at':Nat),at'+m=s.length→frm≤at'→(s[frm]? =some 48→at'≤frm+1)→∀(T:Rg) (l:Nat) (last:Int) (v:Nat),v≤1000→In81 s b T l last→
  T 7=intV .i64 (at':Int)→T 8=intV .i64 (frm:Int)→T 9=intV .i64 (v:Int)→
  ∀ds,(s.drop at').takeWhile isDig=ds→
  ((ds≠[]∧s[frm]? =some 48∧frm+1<at'+ds.length)→
   ∃T' σ',loopLim (dd tab W 121 c81e) T σ= .ok (.ret T' σ')∧Refused σ0 (r93.ret T' σ'))∧
  (¬(ds≠[]∧s[frm]? =some 48∧frm+1<at'+ds.length)→∃T',loopLim (dd tab W 121 c81e) T σ= .ok (.exit 2 T' σ)∧In81 s b T' l last∧T' 7=intV .i64 ((at'+ds.length:Nat):Int)∧T' 8=intV .i64 (frm:Int)∧T' 9=intV .i64 ((ds.foldl capF v:Nat):Int)):=by
 intro m
 induction m with
 | zero=>
  intro at' hat hfa hz T l last v hv hI h7 h8 h9 ds hds
  have hd:s.drop at'=[]:=List.drop_eq_nil_of_le (by omega)
  have e:=ec81e kOc T σ
  have hda:digAt s at'=false:=by unfold digAt;rw [List.getElem?_eq_none (by omega)]
  simp only [mv_eq,g1_eq,g2_eq,bindR_val,h7,hI.h0,W97,hda,condF,retK_ret,condR_boolV,kOc_exit] at e
  rw [hd,List.takeWhile_nil] at hds
  subst hds
  refine ⟨fun h=>(h.1 rfl).elim,fun _=> ?_⟩
  refine ⟨_,loop_exit (dd_of tab W 121 e),⟨?_,?_,?_,?_⟩,?_,?_,?_⟩
  ·simp (decide:=true) only [puts_cons,puts_nil,putE_ne,hI.h0]
  ·simp (decide:=true) only [puts_cons,puts_nil,putE_ne,hI.h5]
  ·simp (decide:=true) only [puts_cons,puts_nil,putE_ne,hI.h4]
  ·simp (decide:=true) only [puts_cons,puts_nil,putE_ne,hI.h6]
  ·simp (decide:=true) only [puts_cons,puts_nil,putE_ne,h7];rfl
  ·simp (decide:=true) only [puts_cons,puts_nil,putE_ne,h8]
  ·simp (decide:=true) only [puts_cons,puts_nil,putE_ne,h9];rfl
 | succ m ih=>
  intro at' hat hfa hz T l last v hv hI h7 h8 h9 ds hds
  have hil:at'<s.length:=by omega
  have hf:frm<s.length:=by omega
  obtain ⟨c,hc⟩:∃c,s[at']? =some c:=⟨s[at'],List.getElem?_eq_getElem hil⟩
  have hd:s.drop at'=c::s.drop (at'+1):=by
   rw [List.drop_eq_getElem_cons hil]
   rw [List.getElem?_eq_getElem hil] at hc
   rw [Option.some.inj hc]
  have hlt:decide ((at':Int)<(s.length:Int))=true:=by simp;omega
  have hc255:c.toNat<256:=c.toNat_lt
  have e:=ec81e kOc T σ
  have hda:digAt s at'=isDig c:=by unfold digAt;rw [hc]
  simp only [mv_eq,g1_eq,g2_eq,g3_eq,bindR_val,h7,hI.h0,W97,hda,retK_ret,condR_boolV] at e
  rw [hd] at hds
  cases hdig:isDig c with
  | false=>
   simp only [hdig,condF,kOc_exit] at e
   have htw:(c::s.drop (at'+1)).takeWhile isDig=[]:=by simp [hdig]
   rw [htw] at hds
   subst hds
   refine ⟨fun h=>(h.1 rfl).elim,fun _=> ?_⟩
   refine ⟨_,loop_exit (dd_of tab W 121 e),⟨?_,?_,?_,?_⟩,?_,?_,?_⟩
   ·simp (decide:=true) only [puts_cons,puts_nil,putE_ne,hI.h0]
   ·simp (decide:=true) only [puts_cons,puts_nil,putE_ne,hI.h5]
   ·simp (decide:=true) only [puts_cons,puts_nil,putE_ne,hI.h4]
   ·simp (decide:=true) only [puts_cons,puts_nil,putE_ne,hI.h6]
   ·simp (decide:=true) only [puts_cons,puts_nil,putE_ne,h7];rfl
   ·simp (decide:=true) only [puts_cons,puts_nil,putE_ne,h8]
   ·simp (decide:=true) only [puts_cons,puts_nil,putE_ne,h9];rfl
  | true=>
   have htw:(c::s.drop (at'+1)).takeWhile isDig=c::(s.drop (at'+1)).takeWhile isDig:=by simp [hdig]
   rw [htw] at hds
   obtain ⟨cf,hcf⟩:∃cf,s[frm]? =some cf:=⟨s[frm],List.getElem?_eq_getElem hf⟩
   have hdg:=hdig
   simp only [isDig,Bool.and_eq_true,decide_eq_true_eq] at hdg
   have fin:∀ds',(s.drop (at'+1)).takeWhile isDig=ds'→c::ds'=ds→(∃T1,denK tab W 121 c81e kOc T σ= .ok (.nxt T1 σ)∧In81 s b T1 l last∧T1 7=intV .i64 ((at'+1:Nat):Int)∧T1 8=intV .i64 (frm:Int)∧T1 9=intV .i64 ((capF v c:Nat):Int))→
     ¬(s[frm]? =some 48∧frm<at')→
     ((ds≠[]∧s[frm]? =some 48∧frm+1<at'+ds.length)→∃T' σ',loopLim (dd tab W 121 c81e) T σ= .ok (.ret T' σ')∧Refused σ0 (r93.ret T' σ'))∧
     (¬(ds≠[]∧s[frm]? =some 48∧frm+1<at'+ds.length)→∃T',loopLim (dd tab W 121 c81e) T σ= .ok (.exit 2 T' σ)∧In81 s b T' l last∧T' 7=intV .i64 ((at'+ds.length:Nat):Int)∧T' 8=intV .i64 (frm:Int)∧T' 9=intV .i64 ((ds.foldl capF v:Nat):Int)):=by
    rintro ds' hds' rfl ⟨T1,e1,i1,k7,k8,k9⟩ hno
    obtain ⟨ka,kb⟩:=ih (at'+1) (by omega) (by omega) (fun h=>by have:=hz h;have:¬frm<at':=fun hh=>hno ⟨h,hh⟩;omega) T1 l last (capF v c) (by unfold capF;omega) i1 k7 k8 k9 ds' hds'
    refine ⟨fun h=> ?_,fun h=> ?_⟩
    ·have hne:ds'≠[]:=by
      intro hn
      subst hn
      have:=h.2.2
      simp at this
      exact hno ⟨h.2.1,by omega⟩
     obtain ⟨T',σ',q1,q2⟩:=ka ⟨hne,h.2.1,by have:=h.2.2;simp at this;omega⟩
     exact ⟨T',σ',loop_next (dd_of tab W 121 e1) q1,q2⟩
    ·obtain ⟨T',q1,q2,q3,q4,q5⟩:=kb (fun hh=>h ⟨by simp,hh.2.1,by have:=hh.2.2;simp;omega⟩)
     refine ⟨T',loop_next (dd_of tab W 121 e1) q1,q2,?_,q4,q5⟩
     rw [q3]
     congr 2
     simp;omega
   have w1:IntKind.u8.wrap ((c.toNat:Int) - 48)=((c.toNat - 48:Nat):Int):=by
    simp [IntKind.wrap,IntKind.bits,IntKind.signed];omega
   have w2:IntKind.i64.wrap ((c.toNat - 48:Nat):Int)=((c.toNat - 48:Nat):Int):=by
    simp [IntKind.wrap,IntKind.bits,IntKind.signed];omega
   have w3:IntKind.i64.wrap (10*(v:Int))=((10*v:Nat):Int):=by
    simp [IntKind.wrap,IntKind.bits,IntKind.signed];omega
   have w4:IntKind.i64.wrap (((10*v:Nat):Int)+((c.toNat - 48:Nat):Int))=((10*v+(c.toNat - 48):Nat):Int):=by
    simp [IntKind.wrap,IntKind.bits,IntKind.signed];omega
   have w5:IntKind.i64.wrap ((at':Int)+1)=((at'+1:Nat):Int):=i64_add1 at' (by omega)
   have w6:(if ((10*v+(c.toNat - 48):Nat):Int)<1000 then ((10*v+(c.toNat - 48):Nat):Int) else 1000)=((capF v c:Nat):Int):=by
    unfold capF;split<;>omega
   have w7:IntKind.i64.wrap ((frm:Int)+1)=((frm+1:Nat):Int):=i64_add1 frm (by omega)
   simp only [hdig,condT,h8,binOp_int,intOp_add,w7,bindR_val,intOp_eql,isBoolV_t] at e
   by_cases hg:at'=frm+1
   ·have d1:(((at':Nat):Int)==((frm+1:Nat):Int))=true:=by rw [beq_iff_eq];omega
    simp only [d1,condT,bindR_val,indexS s frm cf hcf,binOp_int,intOp_eql,pickV_boolV,condR_boolV] at e
    by_cases h48:cf=48
    ·have e48:(((cf.toNat:Nat):Int)==48)=true:=by subst h48;rfl
     simp only [e48,condT,hI.h4] at e
     obtain ⟨σ1,σ2,f1,f2,f3,f4⟩:=hN.fail96 3 (at':Int)
     simp only [f1,bindR_val,retK_ret,extractV_0,extractV_1,extractV_2,f2,kOc_ret] at e
     refine ⟨fun _=>⟨_,σ2,loop_ret (dd_of tab W 121 e),3,(at':Int),σ2,by decide,?_,f4⟩,fun h=>(h ⟨by rw [← hds];simp,by rw [hcf,h48],by rw [← hds];simp;omega⟩).elim⟩
     refine r93_ret ?_ ?_ ?_ f3<;>simp (decide:=true) only [puts_cons,puts_nil,putE_same,putE_ne,hI.h4]
    ·have e48:(((cf.toNat:Nat):Int)==48)=false:=by
      rw [beq_eq_false_iff_ne]
      intro h
      exact h48 (UInt8.toNat_inj.1 (by show cf.toNat=48;omega))
     simp only [e48,condF,h9,bindR_val,binOp_int,intOp_mul,w3,indexS s at' c hc,intOp_sub,w1,convR_int u5 u3,w2,intOp_add,w4,minMax2,w6,w5,kOc_nxt] at e
     refine fin _ rfl hds ⟨_,e,⟨?_,?_,?_,?_⟩,?_,?_,?_⟩ (fun h=>h48 (by rw [hcf] at h;exact Option.some.inj h.1))<;>
      simp (decide:=true) only [puts_cons,puts_nil,putE_same,putE_ne,hI.h0,hI.h4,hI.h5,hI.h6,h8]
   ·have d1:(((at':Nat):Int)==((frm+1:Nat):Int))=false:=by rw [beq_eq_false_iff_ne];omega
    simp only [d1,condF,bindR_val,pickV_boolV,condR_boolV,h9,binOp_int,intOp_mul,w3,indexS s at' c hc,intOp_sub,w1,convR_int u5 u3,w2,intOp_add,w4,minMax2,w6,w5,kOc_nxt] at e
    refine fin _ rfl hds ⟨_,e,⟨?_,?_,?_,?_⟩,?_,?_,?_⟩ (fun h=>by have:=hz h.1;omega)<;>
     simp (decide:=true) only [puts_cons,puts_nil,putE_same,putE_ne,hI.h0,hI.h4,hI.h5,hI.h6,h8]
end Go.Proofs.YtahgmmbmmcaejaaGreatDoor
