/-
  A part of the proof. No statement of this seat stands here.
-/
import Derived.Test.YtahgmmbmmcaejaaGreatDoorP10
import Derived.Test.YtahgmmbmmcaejaaGreatDoorP11
import Derived.Test.YtahgmmbmmcaejaaGreatDoorP09
import Derived.Lib.Bytealg
namespace Go.Proofs.YtahgmmbmmcaejaaGreatDoor
open Go Go.Dt
set_option maxRecDepth 100000
theorem u9:und tab 9= .ok .string:=by kernel_rfl
theorem u5:und tab 5= .ok (.int .u8):=by kernel_rfl
theorem u72:und tab 72= .ok (.int .u64):=by kernel_rfl
def isDig(c:UInt8):Bool:=decide (48≤c.toNat) && decide (c.toNat≤57)
def numF(v:Nat)(c:UInt8):Nat:=10*v+(c.toNat - 48)
def numV(s:List UInt8):Nat:=s.foldl numF 0
def numS(s:List UInt8):Option Nat:=
 if s=[]∨(1<s.length∧s[0]? =some 48)∨¬s.all isDig then none else some (numV s)
def isBig(v:Nat):Bool:=Nat.ble 18446744073709551616 v
theorem isBig_eq(v:Nat):isBig v=decide (18446744073709551616≤v):=by unfold isBig;exact ble_eq' _ _
theorem wrap64(n:Nat):IntKind.u64.wrap (n:Int)=((n%18446744073709551616:Nat):Int):=by
 simp [IntKind.wrap,IntKind.bits,IntKind.signed]
theorem loop78(s:List UInt8)(hs:s.length<1099511627776)(σ:St):∀(m i:Nat),i+m=s.length→∀(T:Rg) (v:Nat),T 0=str s→T 5=intV .u64 ((v%18446744073709551616:Nat):Int)→T 6=boolV (isBig v)→T 7=goI i→
  if (s.drop i).all isDig then
   ∃T',loopLim (dd tab W 56 c78b) T σ= .ok (.exit 0 T' σ)∧T' 5=intV .u64 (((s.drop i).foldl numF v%18446744073709551616:Nat):Int)∧T' 6=boolV (isBig ((s.drop i).foldl numF v))
  else ∃T',loopLim (dd tab W 56 c78b) T σ= .ok (.ret T' σ)∧T' 2=intV .u64 0∧T' 3=boolV false∧T' 4=intV .i64 3:=by
 intro m
 induction m with
 | zero=>
  intro i hi T v h0 h5 h6 h7
  have hd:s.drop i=[]:=List.drop_eq_nil_of_le (by omega)
  rw [hd]
  simp only [List.all_nil,if_true,List.foldl_nil]
  have e:=ec78b kOc T σ
  have hlt:¬((i:Int)<(s.length:Int)):=by omega
  simp only [h0,h7,g1_eq,mv_eq,puts_cons,puts_nil,bindR_val,lenV_str u9,binOp_goI,intOp_lss,condR_boolV,hlt,decide_false,condF,kOc_exit] at e
  refine ⟨_,loop_exit (dd_of tab W 56 e),?_,?_⟩
  ·simp (decide:=true) only [putE_ne,h5]
  ·simp (decide:=true) only [putE_ne,h6]
 | succ m ih=>
  intro i hi T v h0 h5 h6 h7
  have hil:i<s.length:=by omega
  obtain ⟨c,hc⟩:∃c,s[i]? =some c:=⟨s[i],List.getElem?_eq_getElem hil⟩
  have hd:s.drop i=c::s.drop (i+1):=by
   rw [List.drop_eq_getElem_cons hil]
   rw [List.getElem?_eq_getElem hil] at hc
   rw [Option.some.inj hc]
  rw [hd]
  have e:=ec78b kOc T σ
  have hlt:((i:Int)<(s.length:Int)):=by omega
  have hc255:c.toNat<256:=c.toNat_lt
  by_cases hdig:isDig c=true
  ·simp only [isDig,Bool.and_eq_true,decide_eq_true_eq] at hdig
   have l1:¬((c.toNat:Int)<48):=by omega
   have l2:¬((c.toNat:Int)>57):=by omega
   have w1:IntKind.u8.wrap ((c.toNat:Int) - 48)=((c.toNat - 48:Nat):Int):=by
    simp [IntKind.wrap,IntKind.bits,IntKind.signed];omega
   have w2:IntKind.u64.wrap ((c.toNat - 48:Nat):Int)=((c.toNat - 48:Nat):Int):=by rw [wrap64];omega
   simp only [h0,h5,h6,h7,condT,g1_eq,mv_eq,puts_cons,puts_nil,bindR_val,lenV_str u9,indexV_str u9 _ _ _ hc,binOp_int,binOp_goI,binOp_goI_l,intOp_lss,intOp_gtr,intOp_sub,intOp_mul,intOp_add,condR_boolV,hlt,l1,l2,decide_true,decide_false,condF,isBoolV_f,Bool.not_false,pickV_boolV,convR_int u5 u72,w1,w2,kOc_nxt] at e
   have w3:IntKind.i64.wrap ((i:Int)+1)=((i+1:Nat):Int):=by
    simp [IntKind.wrap,IntKind.bits,IntKind.signed];omega
   have w4:IntKind.u64.wrap (IntKind.u64.wrap (10*((v%18446744073709551616:Nat):Int))+((c.toNat - 48:Nat):Int))=((numF v c%18446744073709551616:Nat):Int):=by
    have e1:(10*((v%18446744073709551616:Nat):Int))=((10*(v%18446744073709551616):Nat):Int):=by omega
    rw [e1,wrap64]
    have e2:(((10*(v%18446744073709551616))%18446744073709551616:Nat):Int)+((c.toNat - 48:Nat):Int)=((((10*(v%18446744073709551616))%18446744073709551616)+(c.toNat - 48):Nat):Int):=by omega
    rw [e2,wrap64,numF]
    congr 1
    omega
   have key:∃T',denK tab W 56 c78b kOc T σ= .ok (.nxt T' σ)∧T' 0=str s∧T' 5=intV .u64 ((numF v c%18446744073709551616:Nat):Int)∧T' 6=boolV (isBig (numF v c))∧T' 7=goI (i+1):=by
    cases hb:isBig v with
    | true=>
     simp only [hb,Bool.not_true,condF,condT,bindR_val] at e
     refine ⟨_,e,?_,?_,?_,?_⟩
     ·simp (decide:=true) only [putE_ne,h0]
     ·simp (decide:=true) only [putE_same,putE_ne,w4]
     ·rw [isBig_eq,decide_eq_true_eq] at hb
      have:isBig (numF v c)=true:=by rw [isBig_eq,decide_eq_true_eq,numF];omega
      simp (decide:=true) only [putE_same,putE_ne,this]
     ·simp (decide:=true) only [putE_same,w3];rfl
    | false=>
     rw [isBig_eq,decide_eq_false_iff_not] at hb
     have hv:v%18446744073709551616=v:=Nat.mod_eq_of_lt (by omega)
     have hb':isBig v=false:=by rw [isBig_eq,decide_eq_false_iff_not];exact hb
     have w5:IntKind.u64.wrap (18446744073709551615 - ((c.toNat - 48:Nat):Int))=((18446744073709551615 - (c.toNat - 48):Nat):Int):=by
      have:(18446744073709551615 - ((c.toNat - 48:Nat):Int))=((18446744073709551615 - (c.toNat - 48):Nat):Int):=by omega
      rw [this,wrap64]
      congr 1
      omega
     have w6:IntKind.u64.wrap (Int.tdiv ((18446744073709551615 - (c.toNat - 48):Nat):Int) 10)=(((18446744073709551615 - (c.toNat - 48)) / 10:Nat):Int):=by
      have:Int.tdiv ((18446744073709551615 - (c.toNat - 48):Nat):Int) 10=(((18446744073709551615 - (c.toNat - 48)) / 10:Nat):Int):=by
       rw [Int.tdiv_eq_ediv_of_nonneg (by omega)];omega
      rw [this,wrap64]
      congr 1
      omega
     simp only [hb',Bool.not_false,condF,condT,bindR_val,binOp_int,intOp_sub,intOp_quo _ _ _ (show (10:Int)≠0 by decide),intOp_gtr,w5,w6] at e
     refine ⟨_,e,?_,?_,?_,?_⟩
     ·simp (decide:=true) only [putE_ne,h0]
     ·simp (decide:=true) only [putE_same,putE_ne,w4]
     ·have:isBig (numF v c)=decide (((v%18446744073709551616:Nat):Int)>(((18446744073709551615 - (c.toNat - 48)) / 10:Nat):Int)):=by
       rw [isBig_eq,decide_eq_decide,numF,hv];omega
      simp (decide:=true) only [putE_same,putE_ne,this]
     ·simp (decide:=true) only [putE_same,w3];rfl
   obtain ⟨T1,e1,k0,k5,k6,k7⟩:=key
   have k:=ih (i+1) (by omega) T1 (numF v c) k0 k5 k6 k7
   have hall:(c::s.drop (i+1)).all isDig=(s.drop (i+1)).all isDig:=by
    have:isDig c=true:=by simp only [isDig,Bool.and_eq_true,decide_eq_true_eq];exact hdig
    simp [this]
   rw [hall]
   split at k
   ·rename_i hk
    rw [if_pos hk]
    obtain ⟨T',h1,h2,h3⟩:=k
    exact ⟨T',loop_next (dd_of tab W 56 e1) h1,h2,h3⟩
   ·rename_i hk
    rw [if_neg hk]
    obtain ⟨T',h1,h2⟩:=k
    exact ⟨T',loop_next (dd_of tab W 56 e1) h1,h2⟩
  ·have hall:¬(c::s.drop (i+1)).all isDig=true:=by simp [hdig]
   rw [if_neg hall]
   simp only [isDig,Bool.and_eq_true,decide_eq_true_eq] at hdig
   have key:∃T',denK tab W 56 c78b kOc T σ= .ok (.ret T' σ)∧T' 2=intV .u64 0∧T' 3=boolV false∧T' 4=intV .i64 3:=by
    by_cases l1:((c.toNat:Int)<48)
    ·simp only [h0,h5,h6,h7,condT,g1_eq,mv_eq,puts_cons,puts_nil,bindR_val,lenV_str u9,indexV_str u9 _ _ _ hc,binOp_int,binOp_goI,binOp_goI_l,intOp_lss,condR_boolV,hlt,l1,decide_true,condF,isBoolV_f,Bool.not_true,pickV_boolV,kOc_ret] at e
     refine ⟨_,e,?_,?_,?_⟩<;>simp (decide:=true) only [putE_same,putE_ne]
    ·have l2:((c.toNat:Int)>57):=by omega
     simp only [h0,h5,h6,h7,condT,g1_eq,mv_eq,puts_cons,puts_nil,bindR_val,lenV_str u9,indexV_str u9 _ _ _ hc,binOp_int,binOp_goI,binOp_goI_l,intOp_lss,intOp_gtr,condR_boolV,hlt,l1,l2,decide_true,decide_false,condF,isBoolV_f,Bool.not_false,pickV_boolV,kOc_ret] at e
     refine ⟨_,e,?_,?_,?_⟩<;>simp (decide:=true) only [putE_same,putE_ne]
   obtain ⟨T1,e1,h⟩:=key
   exact ⟨T1,loop_ret (dd_of tab W 56 e1),h⟩
def natR:Option Nat→AV
 | none=> .tuple [intV .u64 0,boolV false,intV .i64 3]
 | some v=> .tuple [intV .u64 ((v%18446744073709551616:Nat):Int),boolV (isBig v),intV .i64 0]
theorem W78(s:List UInt8)(hs:s.length<1099511627776)(σ:St):W 78 [str s] σ= .ok (.ret (natR (numS s)),σ):=by
 refine w78 (by simp) ?_
 rw [ec78]
 simp only [g1_eq,mv_eq,puts_cons,puts_nil,bindR_val,binOp_str,strOp_eql,isBoolV_f]
 cases s with
 | nil=>simp (decide:=true) only [condT,condF,bindR_val,beq_self_eq_true,Bool.not_true,pickV_boolV,condR_boolV,r78,putE_same,putE_ne,numS];rfl
 | cons c s=>
  have e0:(c::s==[])=false:=rfl
  have hi:indexV tab 9 (str (c::s)) (intV .i64 0)= .ok (intV .u8 c.toNat):=indexV_str u9 (c::s) 0 c rfl
  have hc255:c.toNat<256:=c.toNat_lt
  have fin:∀T:Rg,T 0=str (c::s)→numS (c::s)=(if (c::s).all isDig then some (numV (c::s)) else none)→
    denK tab W 56 c78a (kRet tab [.tmp 2,.tmp 3,.tmp 4]) T σ= .ok (.ret (natR (numS (c::s))),σ):=by
   intro T h0 hn
   rw [ec78a,hn]
   simp only [mv_eq,puts_cons,puts_nil,bindR_val]
   have k:=loop78 (c::s) hs σ (c::s).length 0 (by omega) (putE 56 (putE 56 (putE 56 T (some 5) (intV .u64 0)) (some 6) (boolV false)) (some 7) (intV .i64 0)) 0
    (by simp (decide:=true) only [putE_ne,h0]) (by simp (decide:=true) only [putE_same,putE_ne];rfl) (by simp (decide:=true) only [putE_same,putE_ne];rfl) (by simp (decide:=true) only [putE_same];rfl)
   rw [List.drop_zero] at k
   split at k
   ·rename_i hk
    obtain ⟨T',h1,h2,h3⟩:=k
    rw [if_pos hk,h1]
    simp (decide:=true) only [bindR_val,app_exit,kblk_exit,if_true,kseq_nxt,ec78c,mv_eq,puts_cons,puts_nil,h2,h3,r78,putE_same,putE_ne]
    rfl
   ·rename_i hk
    obtain ⟨T',h1,h2,h3,h4⟩:=k
    rw [if_neg hk,h1]
    simp (decide:=true) only [bindR_val,app_ret,kblk_ret,kseq_ret,r78,h2,h3,h4]
    rfl
  by_cases hl:1<(c::s).length
  ·have hl':(((c::s).length:Nat):Int)>1:=by omega
   by_cases h48:c.toNat=48
   ·have e1:(((c.toNat:Nat):Int)==48)=true:=by simp [h48]
    have hc48:c=48:=UInt8.toNat_inj.1 h48
    simp (decide:=true) only [e0,condT,condF,bindR_val,isBoolV_t,Bool.not_false,lenV_str u9,binOp_goI_l,intOp_gtr,hl',decide_true,hi,binOp_int,intOp_eql,e1,pickV_boolV,condR_boolV,r78,putE_same,putE_ne]
    have:numS (c::s)=none:=by simp only [numS];rw [if_pos];right;left;exact ⟨hl,by simp [hc48]⟩
    rw [this];rfl
   ·have e1:(((c.toNat:Nat):Int)==48)=false:=by simp;omega
    simp only [e0,condT,condF,bindR_val,isBoolV_t,Bool.not_false,lenV_str u9,binOp_goI_l,intOp_gtr,hl',decide_true,hi,binOp_int,intOp_eql,e1,pickV_boolV,condR_boolV]
    refine fin _ (by simp (decide:=true) only [putE_ne];rfl) ?_
    have hc48:c≠48:=fun h=>h48 (by rw [h];rfl)
    simp only [numS]
    by_cases ha:(c::s).all isDig=true
    ·rw [if_pos ha,if_neg];simp [hc48];simpa using ha
    ·rw [if_neg ha,if_pos];right;right;exact ha
  ·have hl':¬((((c::s).length:Nat):Int)>1):=by omega
   simp only [e0,condT,condF,bindR_val,isBoolV_t,Bool.not_false,lenV_str u9,binOp_goI_l,intOp_gtr,hl',decide_false,pickV_boolV,condR_boolV]
   refine fin _ (by simp (decide:=true) only [putE_ne];rfl) ?_
   simp only [numS]
   by_cases ha:(c::s).all isDig=true
   ·rw [if_pos ha,if_neg]
    rintro (h | h | h)
    ·cases h
    ·exact hl h.1
    ·exact h ha
   ·rw [if_neg ha,if_pos];right;right;exact ha
def natLim(s:List UInt8)(lim:Nat):AV:=
 match numS s with
 | none=> .tuple [intV .u64 0,intV .i64 3]
 | some v=>if lim<v then .tuple [intV .u64 0,intV .i64 2] else .tuple [intV .u64 v,intV .i64 0]
theorem W52(s:List UInt8)(hs:s.length<1099511627776)(lim:Nat)(hlim:lim<18446744073709551616)(σ:St):W 52 [str s,intV .u64 lim] σ= .ok (.ret (natLim s lim),σ):=by
 refine w52 (by simp) ?_
 rw [ec52]
 simp only [g1_eq,mv_eq,g2_eq,puts_cons,puts_nil,bindR_val,W78 s hs,retK_ret]
 unfold natLim
 cases numS s with
 | none=>
  simp (decide:=true) only [natR,extractV_0,extractV_1,extractV_2,bindR_val,binOp_int,intOp_neq,condR_boolV,r52,putE_same,putE_ne]
  rfl
 | some v=>
  simp only [natR,extractV_0,extractV_1,extractV_2,bindR_val,binOp_int,intOp_neq,condR_boolV]
  have e0:((0:Int) !=0)=false:=rfl
  simp only [e0,condF,isBoolV_f]
  cases hb:isBig v with
  | true=>
   rw [isBig_eq,decide_eq_true_eq] at hb
   rw [if_pos (by omega)]
   simp (decide:=true) only [Bool.not_true,condF,bindR_val,pickV_boolV,condT,condR_boolV,r52,putE_same,putE_ne]
  | false=>
   rw [isBig_eq,decide_eq_false_iff_not] at hb
   have hv:v%18446744073709551616=v:=Nat.mod_eq_of_lt (by omega)
   simp only [Bool.not_false,condT,condF,bindR_val,binOp_int,intOp_gtr,pickV_boolV,condR_boolV,hv]
   by_cases h:lim<v
   ·have h':((v:Nat):Int)>(lim:Int):=by omega
    rw [if_pos h]
    simp (decide:=true) only [h',decide_true,condT,r52,putE_same,putE_ne]
   ·have h':¬((v:Nat):Int)>(lim:Int):=by omega
    rw [if_neg h]
    simp (decide:=true) only [h',decide_false,condF,r52,putE_same,putE_ne]
end Go.Proofs.YtahgmmbmmcaejaaGreatDoor
namespace Go.Proofs.YtahgmmbmmcaejaaGreatDoor
open Go Go.Dt
set_option maxRecDepth 100000
theorem and32(a:Nat)(ha:a<18446744073709551616):intOp .and .u64 .u64 (a:Int) 4294967295= .ok (intV .u64 ((a%4294967296:Nat):Int)):=by
 have h1:(BitVec.ofInt 64 (a:Int)).toNat=a:=by simp;omega
 have h3:a &&& 4294967295=a%4294967296:=Nat.and_two_pow_sub_one_eq_mod a 32
 have e:(BitVec.ofInt 64 (a:Int) &&& BitVec.ofInt 64 4294967295).toNat=a%4294967296:=by
  rw [BitVec.toNat_and,h1]
  exact h3
 have e2:intOp .and .u64 .u64 (a:Int) 4294967295= .ok (intV .u64 (IntKind.u64.wrap (((BitVec.ofInt 64 (a:Int) &&& BitVec.ofInt 64 4294967295).toNat:Nat):Int))):=rfl
 rw [e2,e,wrap64]
 congr 3
 omega
theorem shr32(a:Nat):intOp .shr .u64 .u64 (a:Int) 32= .ok (intV .u64 ((a / 4294967296:Nat):Int)):=by
 show (if (32:Int)<0 then (Except.error "shift" :R AV) else .ok (intV .u64 (Int.fdiv (a:Int) (2^(min 32 64)))))=_
 rw [if_neg (by decide)]
 congr 2
 have:(2:Int)^(min 32 64)=4294967296:=by decide
 rw [this,Int.fdiv_eq_ediv_of_nonneg _ (by decide)]
 omega
theorem mulN(a b:Nat)(h:a*b<18446744073709551616):intOp .mul .u64 .u64 (a:Int) (b:Int)= .ok (intV .u64 ((a*b:Nat):Int)):=by
 rw [intOp_mul,← Int.natCast_mul,wrap64,Nat.mod_eq_of_lt h]
theorem addN(a b:Nat)(h:a+b<18446744073709551616):intOp .add .u64 .u64 (a:Int) (b:Int)= .ok (intV .u64 ((a+b:Nat):Int)):=by
 rw [intOp_add,← Int.natCast_add,wrap64,Nat.mod_eq_of_lt h]
theorem W111(x:Nat)(hx:x<18446744073709551616)(σ:St):W 111 [intV .u64 x,intV .u64 10] σ=
  .ok (.ret (.tuple [intV .u64 ((10*x / 18446744073709551616:Nat):Int),intV .u64 ((10*x%18446744073709551616:Nat):Int)]),σ):=by
 refine w111 (by simp) ?_
 rw [ec111]
 have y0:intOp .and .u64 .u64 10 4294967295= .ok (intV .u64 ((10:Nat):Int)):=and32 10 (by omega)
 have y1:intOp .shr .u64 .u64 10 32= .ok (intV .u64 ((0:Nat):Int)):=shr32 10
 have m1:=mulN (x%4294967296) 10 (by omega)
 have m2:=mulN (x / 4294967296) 10 (by omega)
 have s1:=shr32 (x%4294967296*10)
 have a1:=addN (x / 4294967296*10) (x%4294967296*10 / 4294967296) (by omega)
 have n1:=and32 (x / 4294967296*10+x%4294967296*10 / 4294967296) (by omega)
 have s2:=shr32 (x / 4294967296*10+x%4294967296*10 / 4294967296)
 have m3:=mulN (x%4294967296) 0 (by omega)
 have a2:=addN ((x / 4294967296*10+x%4294967296*10 / 4294967296)%4294967296) (x%4294967296*0) (by omega)
 have m4:=mulN (x / 4294967296) 0 (by omega)
 have a3:=addN (x / 4294967296*0) ((x / 4294967296*10+x%4294967296*10 / 4294967296) / 4294967296) (by omega)
 have s3:=shr32 ((x / 4294967296*10+x%4294967296*10 / 4294967296)%4294967296+x%4294967296*0)
 have a4:=addN (x / 4294967296*0+(x / 4294967296*10+x%4294967296*10 / 4294967296) / 4294967296)
  (((x / 4294967296*10+x%4294967296*10 / 4294967296)%4294967296+x%4294967296*0) / 4294967296) (by omega)
 have m5:intOp .mul .u64 .u64 (x:Int) 10= .ok (intV .u64 ((10*x%18446744073709551616:Nat):Int)):=by
  have e:(x:Int)*10=((10*x:Nat):Int):=by omega
  rw [intOp_mul,e,wrap64]
 simp (decide:=true) only [g1_eq,mv_eq,puts_cons,puts_nil,bindR_val,binOp_int,and32 x hx,shr32 x,y0,y1,m1,m2,s1,a1,n1,s2,m3,a2,m4,a3,s3,a4,m5,r111,putE_same,putE_ne]
 have e1:x / 4294967296*0+(x / 4294967296*10+x%4294967296*10 / 4294967296) / 4294967296+((x / 4294967296*10+x%4294967296*10 / 4294967296)%4294967296+x%4294967296*0) / 4294967296=10*x / 18446744073709551616:=by omega
 rw [e1]
end Go.Proofs.YtahgmmbmmcaejaaGreatDoor
namespace Go.Proofs.YtahgmmbmmcaejaaGreatDoor
open Go Go.Dt
set_option maxRecDepth 100000
theorem add64_call(x d:Nat)(σ:St):callG tab W (AV.func (.func 112) [] []) [intV .u64 (x:Int),intV .u64 (d:Int),intV .u64 0] σ=
  .ok (.ret (.tuple [intV .u64 (((x+d)%18446744073709551616:Nat):Int),intV .u64 (((x+d) / 18446744073709551616:Nat):Int)]),σ):=by kernel_rfl
theorem loop104(s:List UInt8)(hs:s.length<1099511627776)(σ:St):∀(m i:Nat),i+m=s.length→∀(T:Rg) (v:Nat),T 0=str s→T 2=intV .u64 ((v%18446744073709551616:Nat):Int)→T 3=boolV (isBig v)→T 24=goI i→T 23=goI s.length→
  if (s.drop i).all isDig then
   ∃T',loopLim (dd tab W 65 c104b) T σ= .ok (.exit 0 T' σ)∧T' 2=intV .u64 (((s.drop i).foldl numF v%18446744073709551616:Nat):Int)∧T' 3=boolV (isBig ((s.drop i).foldl numF v))
  else ∃T',loopLim (dd tab W 65 c104b) T σ= .ok (.ret T' σ)∧T' 2=intV .u64 0∧T' 3=boolV false∧T' 4=boolV false:=by
 intro m
 induction m with
 | zero=>
  intro i hi T v h0 h2 h3 h24 h23
  have hd:s.drop i=[]:=List.drop_eq_nil_of_le (by omega)
  rw [hd]
  simp only [List.all_nil,if_true,List.foldl_nil]
  have e:=ec104b kOc T σ
  have hlt:¬((i:Int)<(s.length:Int)):=by omega
  simp only [h0,h24,h23,g1_eq,mv_eq,g2_eq,puts_cons,puts_nil,bindR_val,binOp_goI,intOp_lss,condR_boolV,hlt,decide_false,condF,kOc_exit] at e
  refine ⟨_,loop_exit (dd_of tab W 65 e),?_,?_⟩
  ·simp (decide:=true) only [putE_ne,h2]
  ·simp (decide:=true) only [putE_ne,h3]
 | succ m ih=>
  intro i hi T v h0 h2 h3 h24 h23
  have hil:i<s.length:=by omega
  obtain ⟨c,hc⟩:∃c,s[i]? =some c:=⟨s[i],List.getElem?_eq_getElem hil⟩
  have hd:s.drop i=c::s.drop (i+1):=by
   rw [List.drop_eq_getElem_cons hil]
   rw [List.getElem?_eq_getElem hil] at hc
   rw [Option.some.inj hc]
  rw [hd]
  have e:=ec104b kOc T σ
  have hlt:((i:Int)<(s.length:Int)):=by omega
  have hc255:c.toNat<256:=c.toNat_lt
  by_cases hdig:isDig c=true
  ·simp only [isDig,Bool.and_eq_true,decide_eq_true_eq] at hdig
   have l1:¬((c.toNat:Int)<48):=by omega
   have l2:¬((c.toNat:Int)>57):=by omega
   have w1:IntKind.u8.wrap ((c.toNat:Int) - 48)=((c.toNat - 48:Nat):Int):=by
    simp [IntKind.wrap,IntKind.bits,IntKind.signed];omega
   have w2:IntKind.u64.wrap ((c.toNat - 48:Nat):Int)=((c.toNat - 48:Nat):Int):=by rw [wrap64];omega
   have w3:IntKind.i64.wrap ((i:Int)+1)=((i+1:Nat):Int):=by
    simp [IntKind.wrap,IntKind.bits,IntKind.signed];omega
   have hm:=W111 (v%18446744073709551616) (by omega) σ
   simp only [h0,h2,h3,h24,h23,condT,g1_eq,mv_eq,g2_eq,puts_cons,puts_nil,bindR_val,indexV_str u9 _ _ _ hc,binOp_int,binOp_goI,binOp_goI_l,intOp_lss,intOp_gtr,intOp_sub,intOp_add,condR_boolV,hlt,l1,l2,decide_true,decide_false,condF,isBoolV_f,Bool.not_false,pickV_boolV,convR_int u5 u72,w1,w2,w3,hm,retK_ret,extractV_0,extractV_1,add64_call,kOc_nxt] at e
   have key:∃T',denK tab W 65 c104b kOc T σ= .ok (.nxt T' σ)∧T' 0=str s∧T' 2=intV .u64 ((numF v c%18446744073709551616:Nat):Int)∧T' 3=boolV (isBig (numF v c))∧T' 24=goI (i+1)∧T' 23=goI s.length:=by
    have w4:(10*(v%18446744073709551616)%18446744073709551616+(c.toNat - 48))%18446744073709551616=numF v c%18446744073709551616:=by rw [numF];omega
    cases hb:isBig v with
    | true=>
     simp only [hb,Bool.not_true,condF,condT,bindR_val,isBoolV_f,pickV_boolV] at e
     refine ⟨_,e,?_,?_,?_,?_,?_⟩
     ·simp (decide:=true) only [putE_ne,h0]
     ·simp (decide:=true) only [putE_same,putE_ne,w4]
     ·rw [isBig_eq,decide_eq_true_eq] at hb
      have:isBig (numF v c)=true:=by rw [isBig_eq,decide_eq_true_eq,numF];omega
      simp (decide:=true) only [putE_same,putE_ne,this]
     ·simp (decide:=true) only [putE_same];rfl
     ·simp (decide:=true) only [putE_ne,h23]
    | false=>
     have hb':=hb
     rw [isBig_eq,decide_eq_false_iff_not] at hb
     have hv:v%18446744073709551616=v:=Nat.mod_eq_of_lt (by omega)
     simp only [hb',Bool.not_false,condF,condT,bindR_val,binOp_int,intOp_neq,isBoolV_f,pickV_boolV] at e
     by_cases hh:10*v / 18446744073709551616=0
     ·have e1:((((10*(v%18446744073709551616) / 18446744073709551616:Nat):Int)) !=0)=false:=by rw [hv,hh];rfl
      simp only [e1,Bool.not_false,condF,condT,bindR_val,binOp_int,intOp_neq] at e
      refine ⟨_,e,?_,?_,?_,?_,?_⟩
      ·simp (decide:=true) only [putE_ne,h0]
      ·simp (decide:=true) only [putE_same,putE_ne,w4]
      ·have:isBig (numF v c)=((((10*(v%18446744073709551616)%18446744073709551616+(c.toNat - 48)) / 18446744073709551616:Nat):Int) !=0):=by
        rw [isBig_eq,numF,hv]
        by_cases hq:18446744073709551616≤10*v+(c.toNat - 48)
        ·have:((10*v%18446744073709551616+(c.toNat - 48)) / 18446744073709551616)=1:=by omega
         rw [this,decide_eq_true hq];rfl
        ·have:((10*v%18446744073709551616+(c.toNat - 48)) / 18446744073709551616)=0:=by omega
         rw [this,decide_eq_false hq];rfl
       simp (decide:=true) only [putE_same,putE_ne,this]
      ·simp (decide:=true) only [putE_same];rfl
      ·simp (decide:=true) only [putE_ne,h23]
     ·have e1:((((10*(v%18446744073709551616) / 18446744073709551616:Nat):Int)) !=0)=true:=by rw [hv];simp;omega
      simp only [e1,Bool.not_true,condF,condT,bindR_val] at e
      refine ⟨_,e,?_,?_,?_,?_,?_⟩
      ·simp (decide:=true) only [putE_ne,h0]
      ·simp (decide:=true) only [putE_same,putE_ne,w4]
      ·have:isBig (numF v c)=true:=by rw [isBig_eq,decide_eq_true_eq,numF];omega
       simp (decide:=true) only [putE_same,putE_ne,this]
      ·simp (decide:=true) only [putE_same];rfl
      ·simp (decide:=true) only [putE_ne,h23]
   obtain ⟨T1,e1,k0,k2,k3,k24,k23⟩:=key
   have k:=ih (i+1) (by omega) T1 (numF v c) k0 k2 k3 k24 k23
   have hall:(c::s.drop (i+1)).all isDig=(s.drop (i+1)).all isDig:=by
    have:isDig c=true:=by simp only [isDig,Bool.and_eq_true,decide_eq_true_eq];exact hdig
    simp [this]
   rw [hall]
   split at k
   ·rename_i hk
    rw [if_pos hk]
    obtain ⟨T',h1,h2,h3⟩:=k
    exact ⟨T',loop_next (dd_of tab W 65 e1) h1,h2,h3⟩
   ·rename_i hk
    rw [if_neg hk]
    obtain ⟨T',h1,h2⟩:=k
    exact ⟨T',loop_next (dd_of tab W 65 e1) h1,h2⟩
  ·have hall:¬(c::s.drop (i+1)).all isDig=true:=by simp [hdig]
   rw [if_neg hall]
   simp only [isDig,Bool.and_eq_true,decide_eq_true_eq] at hdig
   have key:∃T',denK tab W 65 c104b kOc T σ= .ok (.ret T' σ)∧T' 2=intV .u64 0∧T' 3=boolV false∧T' 4=boolV false:=by
    by_cases l1:((c.toNat:Int)<48)
    ·simp only [h0,h2,h3,h24,h23,condT,g1_eq,mv_eq,g2_eq,puts_cons,puts_nil,bindR_val,indexV_str u9 _ _ _ hc,binOp_int,binOp_goI,binOp_goI_l,intOp_lss,condR_boolV,hlt,l1,decide_true,condF,isBoolV_f,Bool.not_true,pickV_boolV,kOc_ret] at e
     refine ⟨_,e,?_,?_,?_⟩<;>simp (decide:=true) only [putE_same,putE_ne]
    ·have l2:((c.toNat:Int)>57):=by omega
     simp only [h0,h2,h3,h24,h23,condT,g1_eq,mv_eq,g2_eq,puts_cons,puts_nil,bindR_val,indexV_str u9 _ _ _ hc,binOp_int,binOp_goI,binOp_goI_l,intOp_lss,intOp_gtr,condR_boolV,hlt,l1,l2,decide_true,decide_false,condF,isBoolV_f,Bool.not_false,pickV_boolV,kOc_ret] at e
     refine ⟨_,e,?_,?_,?_⟩<;>simp (decide:=true) only [putE_same,putE_ne]
   obtain ⟨T1,e1,h⟩:=key
   exact ⟨T1,loop_ret (dd_of tab W 65 e1),h⟩
end Go.Proofs.YtahgmmbmmcaejaaGreatDoor
namespace Go.Proofs.YtahgmmbmmcaejaaGreatDoor
open Go Go.Dt
set_option maxRecDepth 100000
def digR:Option Nat→AV
 | none=> .tuple [intV .u64 0,boolV false,boolV false]
 | some v=> .tuple [intV .u64 ((v%18446744073709551616:Nat):Int),boolV (isBig v),boolV true]
theorem W104(s:List UInt8)(hs:s.length<1099511627776)(σ:St):W 104 [str s] σ= .ok (.ret (digR (numS s)),σ):=by
 refine w104 (by simp) ?_
 rw [ec104]
 simp only [g1_eq,mv_eq,puts_cons,puts_nil,bindR_val,binOp_str,strOp_eql,isBoolV_f]
 cases s with
 | nil=>simp (decide:=true) only [condT,condF,bindR_val,beq_self_eq_true,Bool.not_true,pickV_boolV,condR_boolV,r104,putE_same,putE_ne,numS];rfl
 | cons c s=>
  have e0:(c::s==[])=false:=rfl
  have hi:indexV tab 9 (str (c::s)) (intV .i64 0)= .ok (intV .u8 c.toNat):=indexV_str u9 (c::s) 0 c rfl
  have hc255:c.toNat<256:=c.toNat_lt
  have fin:∀T:Rg,T 0=str (c::s)→T 2=intV .u64 0→T 3=boolV false→numS (c::s)=(if (c::s).all isDig then some (numV (c::s)) else none)→
    denK tab W 65 c104a (kRet tab [.tmp 2,.tmp 3,.tmp 4]) T σ= .ok (.ret (digR (numS (c::s))),σ):=by
   intro T h0 h2 h3 hn
   rw [ec104a,hn]
   simp only [g1_eq,mv_eq,puts_cons,puts_nil,bindR_val,h0,lenV_str u9]
   have k:=loop104 (c::s) hs σ (c::s).length 0 (by omega) (putE 65 (putE 65 (putE 65 T (some 22) (str (c::s))) (some 23) (goI (c::s).length)) (some 24) (intV .i64 0)) 0
    (by simp (decide:=true) only [putE_ne,h0]) (by simp (decide:=true) only [putE_ne,h2];rfl) (by simp (decide:=true) only [putE_ne,h3];rfl) (by simp (decide:=true) only [putE_same];rfl) (by simp (decide:=true) only [putE_same,putE_ne])
   rw [List.drop_zero] at k
   split at k
   ·rename_i hk
    obtain ⟨T',h1,h2,h3⟩:=k
    rw [if_pos hk,h1]
    simp (decide:=true) only [bindR_val,app_exit,kblk_exit,if_true,kseq_nxt,ec104c,mv_eq,puts_cons,puts_nil,h2,h3,r104,putE_same,putE_ne]
    rfl
   ·rename_i hk
    obtain ⟨T',h1,h2,h3,h4⟩:=k
    rw [if_neg hk,h1]
    simp (decide:=true) only [bindR_val,app_ret,kblk_ret,kseq_ret,r104,h2,h3,h4]
    rfl
  by_cases hl:1<(c::s).length
  ·have hl':(((c::s).length:Nat):Int)>1:=by omega
   by_cases h48:c.toNat=48
   ·have e1:(((c.toNat:Nat):Int)==48)=true:=by simp [h48]
    have hc48:c=48:=UInt8.toNat_inj.1 h48
    simp (decide:=true) only [e0,condT,condF,bindR_val,isBoolV_t,Bool.not_false,lenV_str u9,binOp_goI_l,intOp_gtr,hl',decide_true,hi,binOp_int,intOp_eql,e1,pickV_boolV,condR_boolV,r104,putE_same,putE_ne]
    have:numS (c::s)=none:=by simp only [numS];rw [if_pos];right;left;exact ⟨hl,by simp [hc48]⟩
    rw [this];rfl
   ·have e1:(((c.toNat:Nat):Int)==48)=false:=by simp;omega
    simp only [e0,condT,condF,bindR_val,isBoolV_t,Bool.not_false,lenV_str u9,binOp_goI_l,intOp_gtr,hl',decide_true,hi,binOp_int,intOp_eql,e1,pickV_boolV,condR_boolV]
    refine fin _ (by simp (decide:=true) only [putE_ne];rfl) (by simp (decide:=true) only [putE_same,putE_ne]) (by simp (decide:=true) only [putE_same,putE_ne]) ?_
    have hc48:c≠48:=fun h=>h48 (by rw [h];rfl)
    simp only [numS]
    by_cases ha:(c::s).all isDig=true
    ·rw [if_pos ha,if_neg];simp [hc48];simpa using ha
    ·rw [if_neg ha,if_pos];right;right;exact ha
  ·have hl':¬((((c::s).length:Nat):Int)>1):=by omega
   simp only [e0,condT,condF,bindR_val,isBoolV_t,Bool.not_false,lenV_str u9,binOp_goI_l,intOp_gtr,hl',decide_false,pickV_boolV,condR_boolV]
   refine fin _ (by simp (decide:=true) only [putE_ne];rfl) (by simp (decide:=true) only [putE_same,putE_ne]) (by simp (decide:=true) only [putE_same,putE_ne]) ?_
   simp only [numS]
   by_cases ha:(c::s).all isDig=true
   ·rw [if_pos ha,if_neg]
    rintro (h | h | h)
    ·cases h
    ·exact hl h.1
    ·exact h ha
   ·rw [if_neg ha,if_pos];right;right;exact ha
theorem W91(s:List UInt8)(hs:s.length<1099511627776)(lim:Nat)(hlim:lim<18446744073709551616)(σ:St):W 91 [str s,intV .u64 lim] σ= .ok (.ret (natLim s lim),σ):=by
 refine w91 (by simp) ?_
 rw [ec91]
 simp only [g1_eq,mv_eq,g2_eq,puts_cons,puts_nil,bindR_val,W104 s hs,retK_ret]
 unfold natLim
 cases numS s with
 | none=>
  simp (decide:=true) only [digR,extractV_0,extractV_1,extractV_2,bindR_val,unOp_not,condR_boolV,condT,Bool.not_false,r91,putE_same,putE_ne]
 | some v=>
  simp only [digR,extractV_0,extractV_1,extractV_2,bindR_val,unOp_not,Bool.not_true,condR_boolV,condF,isBoolV_f]
  cases hb:isBig v with
  | true=>
   rw [isBig_eq,decide_eq_true_eq] at hb
   rw [if_pos (by omega)]
   simp (decide:=true) only [Bool.not_true,condF,bindR_val,pickV_boolV,condT,condR_boolV,r91,putE_same,putE_ne]
  | false=>
   rw [isBig_eq,decide_eq_false_iff_not] at hb
   have hv:v%18446744073709551616=v:=Nat.mod_eq_of_lt (by omega)
   simp only [Bool.not_false,condT,condF,bindR_val,binOp_int,intOp_gtr,pickV_boolV,condR_boolV,hv]
   by_cases h:lim<v
   ·have h':((v:Nat):Int)>(lim:Int):=by omega
    rw [if_pos h]
    simp (decide:=true) only [h',decide_true,condT,r91,putE_same,putE_ne]
   ·have h':¬((v:Nat):Int)>(lim:Int):=by omega
    rw [if_neg h]
    simp (decide:=true) only [h',decide_false,condF,r91,putE_same,putE_ne]
end Go.Proofs.YtahgmmbmmcaejaaGreatDoor
namespace Go.Proofs.YtahgmmbmmcaejaaGreatDoor
open Go Go.Dt
set_option maxRecDepth 100000
theorem lenS(l:List UInt8):lenV tab 9 (str l)= .ok (intV .i64 (l.length:Int)):=lenV_str u9 l
theorem indexS(l:List UInt8)(i:Nat)(b:UInt8)(hb:l[i]? =some b):indexV tab 9 (str l) (intV .i64 (i:Int))= .ok (intV .u8 b.toNat):=indexV_str u9 l i b hb
theorem index0(b:UInt8)(l:List UInt8):indexV tab 9 (str (b::l)) (intV .i64 0)= .ok (intV .u8 b.toNat):=indexV_str u9 (b::l) 0 b rfl
theorem bound_ok(n y:Nat)(h:n≤y):bound (intV .i64 (n:Int)) y= .ok n:=by
 simp [bound,asI,intV,bindR_eq,h]
theorem sliceS_hi(l:List UInt8)(n:Nat)(h:n≤l.length):sliceV tab 9 (str l) none (some (intV .i64 (n:Int))) none= .ok (str (l.take n)):=by
 simp [sliceV,u9,str,boundO,bound_ok n _ h,Functor.map,Except.map]
theorem sliceS_lo(l:List UInt8)(n:Nat)(h:n≤l.length):sliceV tab 9 (str l) (some (intV .i64 (n:Int))) none none= .ok (str (l.drop n)):=by
 have e:(l.drop n).take (l.length - n)=l.drop n:=List.take_of_length_le (by simp)
 simp [sliceV,u9,str,boundO,bound_ok n _ h,Functor.map,Except.map,e]
theorem sliceS(l:List UInt8)(a b:Nat)(hab:a≤b)(hb:b≤l.length):sliceV tab 9 (str l) (some (intV .i64 (a:Int))) (some (intV .i64 (b:Int))) none= .ok (str ((l.drop a).take (b - a))):=by
 simp [sliceV,u9,str,boundO,bound_ok b _ hb,bound_ok a _ hab,Functor.map,Except.map]
def ixB(l:List UInt8)(c:UInt8):Option Nat:=l.findIdx? (· ==c)
def ixR:Option Nat→Int
 | some i=>i
 | none=> -1
theorem find_ix(c:UInt8):∀(l:List UInt8),(List.range l.length).find? (fun i=>l.getD i 0==c)=ixB l c
 | []=>rfl
 | b::l=>by
  rw [List.length_cons,Go.Lib.find_range_succ]
  have:=find_ix c l
  simp only [ixB,List.findIdx?_cons] at this ⊢
  by_cases h:b==c
  ·simp [h]
  ·simp only [List.getD_cons_zero,h,List.getD_cons_succ,this]
theorem ixB_lt{l:List UInt8}{c:UInt8}{i:Nat}(h:ixB l c=some i):i<l.length:=by
 unfold ixB at h
 rw [List.findIdx?_eq_some_iff_getElem] at h
 exact h.1
theorem ix_call(l:List UInt8)(c:UInt8)(σ:St):callG tab W (AV.func (.func 88) [] []) [str l,intV .u8 (c.toNat:Int)] σ= .ok (.ret (intV .i64 (ixR (ixB l c))),σ):=by
 have hb:((c.toNat:Nat):Int).toNat.toUInt8=c:=by simp
 have key:Extern.BytealgIndexByte.indexByte #[.string ⟨⟨l⟩⟩,.int .u8 (c.toNat:Int)]= .pure (.int .i64 (ixR (ixB l c))):=by
  have e1:Extern.BytealgIndexByte.indexByte #[.string ⟨⟨l⟩⟩,.int .u8 (c.toNat:Int)]=
    (match (List.range l.length).find? (fun i=>(ByteArray.mk l.toArray)[i]! ==((c.toNat:Nat):Int).toNat.toUInt8) with
     | some i=>Sem.pure (goInt i)
     | none=>Sem.pure (goInt (-1))):=rfl
  rw [e1,hb]
  have e2:(fun i=>(ByteArray.mk l.toArray)[i]! ==c)=fun i=>l.getD i 0==c:=by
   funext i
   rw [Go.Lib.get!_eq]
  rw [e2,find_ix]
  cases ixB l c<;>rfl
 have e3:callG tab W (AV.func (.func 88) [] []) [str l,intV .u8 (c.toNat:Int)] σ=
   bindR (match Extern.BytealgIndexByte.indexByte #[.string ⟨⟨l⟩⟩,.int .u8 (c.toNat:Int)] with
    | .pure v=>(.ok (ofConst v,σ):R (AV×St))
    | _=> .error "plain row") fun p=> .ok (.ret p.1,p.2):=by kernel_rfl
 rw [e3,key]
 rfl
theorem W63(l:List UInt8)(c:UInt8)(σ:St):W 63 [str l,intV .u8 (c.toNat:Int)] σ= .ok (.ret (intV .i64 (ixR (ixB l c))),σ):=by
 refine w63 (by simp) ?_
 rw [ec63]
 simp (decide:=true) only [mv_eq,g2_eq,bindR_val,ix_call,retK_ret,puts_cons,puts_nil,r63,putE_same]
theorem W43(l:List UInt8)(c:UInt8)(σ:St):W 43 [str l,str [c]] σ= .ok (.ret (intV .i64 (ixR (ixB l c))),σ):=by
 refine w43 (by simp) ?_
 rw [ec43]
 have e0:((([c].length:Nat):Int)==0)=false:=rfl
 have e1:((([c].length:Nat):Int)==1)=true:=rfl
 simp only [mv_eq,g1_eq,bindR_val,lenS,binOp_int,intOp_eql,e0,isBoolV_f,Bool.not_false,condT,binOp_str,strOp_eql,pickV_boolV,condF,condR_boolV]
 by_cases h:[c]=l
 ·subst h
  have:([c]==[c])=true:=by simp
  simp (decide:=true) only [this,condT,puts_cons,puts_nil,r43,putE_same]
  have:ixB [c] c=some 0:=by simp [ixB,List.findIdx?_cons]
  rw [this];rfl
 ·have:([c]==l)=false:=by simpa using h
  simp (decide:=true) only [this,condF,bindR_val,e1,condT,g2_eq,index0,W63,retK_ret,puts_cons,puts_nil,r43,putE_same]
def cutB(l:List UInt8)(c:UInt8):List UInt8×List UInt8×Bool:=
 match ixB l c with
 | some i=>(l.take i,l.drop (i+1),true)
 | none=>(l,[],false)
def cutR(p:List UInt8×List UInt8×Bool):AV:= .tuple [str p.1,str p.2.1,boolV p.2.2]
theorem i64_add1(i:Nat)(h:i<4611686018427387904):IntKind.i64.wrap ((i:Int)+1)=((i+1:Nat):Int):=by
 simp [IntKind.wrap,IntKind.bits,IntKind.signed];omega
theorem W21(l:List UInt8)(hl:l.length<1099511627776)(c:UInt8)(σ:St):W 21 [str l,str [c]] σ= .ok (.ret (cutR (cutB l c)),σ):=by
 refine w21 (by simp) ?_
 rw [ec21]
 simp only [mv_eq,g1_eq,g2_eq,bindR_val,W43,retK_ret,binOp_int,intOp_geq,condR_boolV]
 unfold cutB
 cases hi:ixB l c with
 | none=>
  have e:decide (ixR none≥0)=false:=rfl
  simp (decide:=true) only [puts_cons,puts_nil,r21,putE_same,putE_ne]
  rfl
 | some i=>
  have hlt:=ixB_lt hi
  have e:decide (ixR (some i)≥0)=true:=by simp [ixR]
  have e2:ixR (some i)=(i:Int):=rfl
  have w:IntKind.i64.wrap ((i:Int)+(([c].length:Nat):Int))=((i+1:Nat):Int):=i64_add1 i (by omega)
  simp (decide:=true) only [e2,bindR_val,sliceS_hi l i (by omega),lenS,binOp_int,intOp_add,w,sliceS_lo l (i+1) (by omega),puts_cons,puts_nil,r21,putE_same,putE_ne]
  rfl
theorem W11(l:List UInt8)(hl:l.length<1099511627776)(c:UInt8)(σ:St):W 11 [str l,str [c]] σ= .ok (.ret (cutR (cutB l c)),σ):=by
 refine w11 (by simp) ?_
 rw [ec11]
 simp (decide:=true) only [mv_eq,g1_eq,g2_eq,bindR_val,W21 l hl c,retK_ret,cutR,extractV_0,extractV_1,extractV_2,puts_cons,puts_nil,r11,putE_same,putE_ne]
def hasPre(l p:List UInt8):Bool:=p.isPrefixOf l
theorem W92(l p:List UInt8)(σ:St):W 92 [str l,str p] σ= .ok (.ret (boolV (hasPre l p)),σ):=by
 refine w92 (by simp) ?_
 rw [ec92]
 simp only [mv_eq,g1_eq,bindR_val,lenS,binOp_int,intOp_geq,isBoolV_t]
 by_cases h:p.length≤l.length
 ·have e:decide ((l.length:Int)≥(p.length:Int))=true:=by simp;omega
  simp (decide:=true) only [e,condT,bindR_val,lenS,sliceS_hi l p.length h,binOp_str,strOp_eql,pickV_boolV,puts_cons,puts_nil,r92,putE_same]
  have:(l.take p.length==p)=hasPre l p:=by
   unfold hasPre
   rw [Bool.eq_iff_iff,List.isPrefixOf_iff_prefix,beq_iff_eq,List.prefix_iff_eq_take]
   exact eq_comm
  rw [this]
 ·have e:decide ((l.length:Int)≥(p.length:Int))=false:=by simp;omega
  simp (decide:=true) only [e,condF,bindR_val,pickV_boolV,puts_cons,puts_nil,r92,putE_same]
  have:hasPre l p=false:=by
   unfold hasPre
   rw [Bool.eq_false_iff,Ne,List.isPrefixOf_iff_prefix]
   intro hp
   exact h hp.length_le
  rw [this]
theorem W71(l p:List UInt8)(σ:St):W 71 [str l,str p] σ= .ok (.ret (boolV (hasPre l p)),σ):=by
 refine w71 (by simp) ?_
 rw [ec71]
 simp (decide:=true) only [mv_eq,g2_eq,bindR_val,W92,retK_ret,puts_cons,puts_nil,r71,putE_same]
def cutPre(l p:List UInt8):List UInt8×Bool:=if hasPre l p then (l.drop p.length,true) else (l,false)
theorem W70(l p:List UInt8)(σ:St):W 70 [str l,str p] σ= .ok (.ret (.tuple [str (cutPre l p).1,boolV (cutPre l p).2]),σ):=by
 refine w70 (by simp) ?_
 rw [ec70]
 simp only [mv_eq,g1_eq,g2_eq,bindR_val,W92,retK_ret,unOp_not,condR_boolV]
 unfold cutPre
 cases hp:hasPre l p with
 | false=>simp (decide:=true) only [Bool.not_false,condT,puts_cons,puts_nil,r70,putE_same,putE_ne];rfl
 | true=>
  have hle:p.length≤l.length:=by
   unfold hasPre at hp
   exact (List.isPrefixOf_iff_prefix.1 hp).length_le
  simp (decide:=true) only [Bool.not_true,condF,bindR_val,lenS,sliceS_lo l p.length hle,puts_cons,puts_nil,r70,putE_same,putE_ne];rfl
theorem W45(l p:List UInt8)(σ:St):W 45 [str l,str p] σ= .ok (.ret (.tuple [str (cutPre l p).1,boolV (cutPre l p).2]),σ):=by
 refine w45 (by simp) ?_
 rw [ec45]
 simp (decide:=true) only [mv_eq,g1_eq,g2_eq,bindR_val,W70,retK_ret,extractV_0,extractV_1,puts_cons,puts_nil,r45,putE_same,putE_ne]
end Go.Proofs.YtahgmmbmmcaejaaGreatDoor
namespace Go.Proofs.YtahgmmbmmcaejaaGreatDoor
open Go Go.Dt
set_option maxRecDepth 100000
def namesB:List UInt8:=[111,107,32,32,32,32,32,32,32,32,110,105,108,32,32,32,32,32,32,32,114,97,110,103,101,32,32,32,32,32,102,111,114,109,32,32,32,32,32,32,108,111,110,103,32,32,32,32,32,32,115,104,111,114,116,32,32,32,32,32,102,117,108,108,32,32,32,32,32,32,109,105,115,115,105,110,103,32,32,32,101,120,105,115,116,115,32,32,32,32,111,114,100,101,114,32,32,32,32,32,115,116,97,116,101,32,32,32,32,32,107,105,110,100,32,32,32,32,32,32,110,97,109,101,32,32,32,32,32,32,108,97,98,101,108,32,32,32,32,32,99,108,97,115,115,32,32,32,32,32,113,117,111,116,97,32,32,32,32,32,115,117,109,32,32,32,32,32,32,32,99,97,112,32,32,32,32,32,32,32,108,111,115,116,32,32,32,32,32,32,111,117,116,32,32,32,32,32,32,32,114,117,108,101,32,32,32,32,32,32,97,117,100,105,116,32,32,32,32,32,100,101,112,116,104,32,32,32,32,32,108,105,110,101,115,32,32,32,32,32]
def errNm(n:Nat):List UInt8:=((namesB.drop (10*n)).take 10).takeWhile (fun c=>c !=32)
def errOk(n:Nat):Bool:=((namesB.drop (10*n)).take (10*n+10 - 10*n)==errNm n++List.replicate (10 - (errNm n).length) 32) && decide ((errNm n).length≤10) && decide (0<(errNm n).length) && !((errNm n).getLast? ==some 32)
theorem errAll:(List.range 24).all errOk=true:=by kernel_rfl
theorem errOk_of{n:Nat}(h:n<24):errOk n=true:=List.all_eq_true.1 errAll n (List.mem_range.2 h)
theorem namesLen:namesB.length=240:=by kernel_rfl
theorem loop51(s:List UInt8)(hs:s≠[])(hlast:s.getLast? ≠some 32)(σ:St):∀(j:Nat),s.length+j<1099511627776→∀(T:Rg),T 3=str (s++List.replicate j 32)→
  ∃T',loopLim (dd tab W 28 c51a) T σ= .ok (.exit 0 T' σ)∧T' 3=str s:=by
 intro j
 induction j with
 | zero=>
  intro hj T h3
  rw [List.replicate_zero,List.append_nil] at h3
  have e:=ec51a kOc T σ
  have hpos:0<s.length:=List.length_pos_iff.2 hs
  have w:IntKind.i64.wrap ((s.length:Int) - 1)=((s.length - 1:Nat):Int):=by
   simp [IntKind.wrap,IntKind.bits,IntKind.signed];omega
  obtain ⟨c,hc⟩:∃c,s[s.length - 1]? =some c:=⟨s[s.length - 1]'(by omega),List.getElem?_eq_getElem (by omega)⟩
  have hne:c≠32:=by
   intro h
   apply hlast
   rw [List.getLast?_eq_getElem?,hc,h]
  have hne':(((c.toNat:Nat):Int)==32)=false:=by
   rw [beq_eq_false_iff_ne]
   intro h
   apply hne
   have:c.toNat=32:=by omega
   exact UInt8.toNat_inj.1 this
  simp only [mv_eq,g1_eq,bindR_val,h3,lenS,binOp_int,intOp_sub,w,indexS s _ c hc,intOp_eql,hne',condR_boolV,condF,kOc_exit] at e
  refine ⟨_,loop_exit (dd_of tab W 28 e),?_⟩
  simp (decide:=true) only [puts_cons,puts_nil,putE_ne,h3]
 | succ j ih=>
  intro hj T h3
  have e:=ec51a kOc T σ
  have hlen:(s++List.replicate (j+1) (32:UInt8)).length=s.length+j+1:=by simp;omega
  have w:IntKind.i64.wrap (((s++List.replicate (j+1) (32:UInt8)).length:Int) - 1)=((s.length+j:Nat):Int):=by
   rw [hlen];simp [IntKind.wrap,IntKind.bits,IntKind.signed];omega
  have hc:(s++List.replicate (j+1) (32:UInt8))[s.length+j]? =some 32:=by
   rw [List.getElem?_append_right (by omega)]
   simp []
  have ht:(s++List.replicate (j+1) (32:UInt8)).take (s.length+j)=s++List.replicate j 32:=by
   rw [List.take_append]
   simp
   exact List.take_of_length_le (by omega)
  have e32:((((32:UInt8).toNat:Nat):Int)==32)=true:=rfl
  simp only [mv_eq,g1_eq,bindR_val,h3,lenS,binOp_int,intOp_sub,w,indexS _ _ _ hc,intOp_eql,e32,condR_boolV,condT,sliceS_hi (s++List.replicate (j+1) 32) (s.length+j) (by omega),ht,kOc_nxt] at e
  have key:∃T1,denK tab W 28 c51a kOc T σ= .ok (.nxt T1 σ)∧T1 3=str (s++List.replicate j 32):=
   ⟨_,e,by simp (decide:=true) only [puts_cons,puts_nil,putE_same]⟩
  obtain ⟨T1,e1,k3⟩:=key
  obtain ⟨T',h1,h2⟩:=ih (by omega) T1 k3
  exact ⟨T',loop_next (dd_of tab W 28 e1) h1,h2⟩
theorem W51(n:Nat)(h:n<24)(σ:St):W 51 [intV .i64 (n:Int)] σ= .ok (.ret (str (errNm n)),σ):=by
 refine w51 (by simp) ?_
 rw [ec51]
 have hok:=errOk_of h
 simp only [errOk,Bool.and_eq_true,beq_iff_eq,decide_eq_true_eq,Bool.not_eq_true'] at hok
 obtain ⟨⟨⟨h1,h2⟩,h3⟩,h4⟩:=hok
 have l1:decide ((n:Int)<0)=false:=by simp
 have l2:decide ((n:Int)≥24)=false:=by simp;omega
 have w1:IntKind.i64.wrap (10*(n:Int))=((10*n:Nat):Int):=by
  simp [IntKind.wrap,IntKind.bits,IntKind.signed];omega
 have w2:IntKind.i64.wrap (((10*n:Nat):Int)+10)=((10*n+10:Nat):Int):=by
  simp [IntKind.wrap,IntKind.bits,IntKind.signed];omega
 have hn:namesB.length=240:=namesLen
 have hsl:=sliceS namesB (10*n) (10*n+10) (by omega) (by omega)
 rw [h1] at hsl
 unfold namesB at hsl
 simp only [mv_eq,g1_eq,bindR_val,binOp_int,intOp_lss,l1,isBoolV_f,Bool.not_false,condT,condF,intOp_geq,l2,pickV_boolV,condR_boolV,intOp_mul,w1,intOp_add,w2,hsl]
 have key:∀T:Rg,T 3=str (errNm n++List.replicate (10 - (errNm n).length) 32)→
   bindR (loopLim (dd tab W 28 c51a) T σ) (K.app (kblk 0 (kseq (denK tab W 28 c51b (kRet tab [.tmp 2])) (kRet tab [.tmp 2]))))= .ok (.ret (str (errNm n)),σ):=by
  intro T hT
  obtain ⟨T',k1,k2⟩:=loop51 (errNm n) (by intro e;rw [e] at h3;simp at h3) (by intro e;rw [e] at h4;simp at h4) σ (10 - (errNm n).length) (by omega) T hT
  rw [k1]
  simp (decide:=true) only [bindR_val,app_exit,kblk_exit,if_true,kseq_nxt,ec51b,mv_eq,k2,puts_cons,puts_nil,r51,putE_same]
 exact key _ (by simp (decide:=true) only [puts_cons,puts_nil,putE_same])
def errIx(name:List UInt8):Option Nat:=(List.range' 0 24).find? (fun n=>errNm n==name)
def errR:Option Nat→AV
 | some n=> .tuple [intV .i64 (n:Int),boolV true]
 | none=> .tuple [intV .i64 0,boolV false]
theorem loop69(name:List UInt8)(σ:St):∀(m i:Nat),i+m=24→∀(T:Rg),T 0=str name→T 4=intV .i64 (i:Int)→
  match (List.range' i m).find? (fun n=>errNm n==name) with
  | some n=>∃T',loopLim (dd tab W 14 c69a) T σ= .ok (.ret T' σ)∧T' 2=intV .i64 (n:Int)∧T' 3=boolV true
  | none=>∃T',loopLim (dd tab W 14 c69a) T σ= .ok (.exit 0 T' σ):=by
 intro m
 induction m with
 | zero=>
  intro i hi T h0 h4
  have e:=ec69a kOc T σ
  have l:decide ((i:Int)≤23)=false:=by simp;omega
  simp only [mv_eq,g1_eq,bindR_val,h4,binOp_int,intOp_leq,l,condR_boolV,condF,kOc_exit] at e
  exact ⟨_,loop_exit (dd_of tab W 14 e)⟩
 | succ m ih=>
  intro i hi T h0 h4
  have e:=ec69a kOc T σ
  have l:decide ((i:Int)≤23)=true:=by simp;omega
  have w:IntKind.i64.wrap ((i:Int)+1)=((i+1:Nat):Int):=i64_add1 i (by omega)
  rw [List.range'_succ,List.find?_cons]
  simp only [mv_eq,g1_eq,g2_eq,bindR_val,h4,h0,binOp_int,intOp_leq,l,condR_boolV,condT,W51 i (by omega),retK_ret,binOp_str,strOp_eql] at e
  cases hb:errNm i==name with
  | true=>
   simp only [hb,condT,kOc_ret] at e
   refine ⟨_,loop_ret (dd_of tab W 14 e),?_,?_⟩<;>simp (decide:=true) only [puts_cons,puts_nil,putE_same,putE_ne]
  | false=>
   simp only [hb,condF,bindR_val,intOp_add,w,kOc_nxt] at e
   have key:∃T1,denK tab W 14 c69a kOc T σ= .ok (.nxt T1 σ)∧T1 0=str name∧T1 4=intV .i64 ((i+1:Nat):Int):=
    ⟨_,e,by simp (decide:=true) only [puts_cons,puts_nil,putE_ne,h0],by simp (decide:=true) only [puts_cons,puts_nil,putE_same]⟩
   obtain ⟨T1,e1,k0,k4⟩:=key
   have k:=ih (i+1) (by omega) T1 k0 k4
   simp only
   split at k
   ·obtain ⟨T',k1,k2⟩:=k
    exact ⟨T',loop_next (dd_of tab W 14 e1) k1,k2⟩
   ·obtain ⟨T',k1⟩:=k
    exact ⟨T',loop_next (dd_of tab W 14 e1) k1⟩
theorem W69(name:List UInt8)(σ:St):W 69 [str name] σ= .ok (.ret (errR (errIx name)),σ):=by
 refine w69 (by simp) ?_
 rw [ec69]
 simp only [mv_eq,bindR_val]
 have k:=loop69 name σ 24 0 rfl (puts 14 (argE [str name]) [(2,intV .i64 0),(3,boolV false),(4,intV .i64 0)])
  (by simp (decide:=true) only [puts_cons,puts_nil,putE_ne];rfl) (by simp (decide:=true) only [puts_cons,puts_nil,putE_same];rfl)
 unfold errIx
 split at k
 ·rename_i n hn
  obtain ⟨T',k1,k2,k3⟩:=k
  rw [hn,k1]
  simp only [bindR_val,app_ret,kblk_ret,kseq_ret,r69,k2,k3]
  rfl
 ·rename_i hn
  obtain ⟨T',k1⟩:=k
  rw [hn,k1]
  simp (decide:=true) only [bindR_val,app_exit,kblk_exit,if_true,kseq_nxt,ec69b,mv_eq,puts_cons,puts_nil,r69,putE_same,putE_ne]
  rfl
end Go.Proofs.YtahgmmbmmcaejaaGreatDoor
namespace Go.Proofs.YtahgmmbmmcaejaaGreatDoor
open Go Go.Dt
set_option maxRecDepth 100000
structure Grow(σ σ':St):Prop where
 n:σ.n≤σ'.n
 old:∀b,b<σ.n→σ'.getO b=σ.getO b
 len:σ.l.length=σ.n→σ'.l.length=σ'.n
 M:σ'.M=σ.M
theorem Grow.refl(σ:St):Grow σ σ:=⟨Nat.le_refl _,fun _ _=>rfl,id,rfl⟩
theorem Grow.trans{a b c:St}(h:Grow a b)(k:Grow b c):Grow a c:=
 ⟨Nat.le_trans h.n k.n,fun x hx=>(k.old x (Nat.lt_of_lt_of_le hx h.n)).trans (h.old x hx),fun hl=>k.len (h.len hl),k.M.trans h.M⟩
theorem Grow.push(σ:St)(o:AO):Grow σ (σ.push o):=
 ⟨Nat.le_succ _,fun _ hb=>getO_push_old hb,fun h=>by simp [St.push,h],rfl⟩
theorem push_n(σ:St)(o:AO):(σ.push o).n=σ.n+1:=rfl
theorem loadV_cell{σ:St}{t b o:Nat}{ty:TypeDesc}{cs:List AV}{e sz:Nat}{ow:Bool}{v:AV}(hu:und tab t= .ok ty)(hna:isAggD ty=false)(hb:b<σ.n)(ho:σ.getO b= .cells cs e ow sz)
  (hv:cs[o]? =some v):loadV tab σ t (.ptr b o)= .ok v:=by
 simp [loadV,cellsOf,hb,ho,hu,hna,hv,bindR_eq]
theorem loadV_new{σ:St}{t o:Nat}{ty:TypeDesc}{cs:List AV}{e sz:Nat}{ow:Bool}{v:AV}(hu:und tab t= .ok ty)(hna:isAggD ty=false)
  (hv:cs[o]? =some v):loadV tab (σ.push (.cells cs e ow sz)) t (.ptr σ.n o)= .ok v:=
 loadV_cell hu hna (by rw [push_n];omega) getO_push_new hv
theorem u3:und tab 3= .ok (.int .i64):=by kernel_rfl
theorem u2:und tab 2= .ok (.int .i64):=by kernel_rfl
theorem u4:und tab 4= .ok .bool:=by kernel_rfl
theorem u24:und tab 24= .ok (.int .i64):=by kernel_rfl
theorem box164(x y z:AV)(b:Nat):boxA tab 164 (.agg [x,y,z]) b= .ok (.ptr b 0,.cells [x,y,z] 164 true 3):=by kernel_rfl
theorem fa164_0(b:Nat):fieldAddr tab 164 (.ptr b 0) 0= .ok (.ptr b 0):=by kernel_rfl
theorem fa164_1(b:Nat):fieldAddr tab 164 (.ptr b 0) 1= .ok (.ptr b 1):=by kernel_rfl
theorem fa164_2(b:Nat):fieldAddr tab 164 (.ptr b 0) 2= .ok (.ptr b 2):=by kernel_rfl
theorem build164(n:Bool)(x:Int):Dt.build tab 164 [(0,boolV n),(2,intV .u64 x)]= .ok (.agg [boolV n,intV .u64 0,intV .u64 x]):=by kernel_rfl
theorem unOp_neg(k:IntKind)(n:Int):Dt.unOp .neg (intV k n)= .ok (intV k (k.wrap (0 - n))):=eqBy rfl
def narrowS(neg:Bool)(n:Nat):Option Int:=
 if 9223372036854775808<n∨(n=9223372036854775808∧neg=false) then none else some (if neg then -(n:Int) else n)
def narrowR(e:Int):Option Int→AV
 | none=> .tuple [intV .i64 0,intV .i64 e]
 | some x=> .tuple [intV .i64 x,intV .i64 0]
theorem W107(neg:Bool)(n:Nat)(hn:n<18446744073709551616)(σ:St):∃σ',W 107 [.agg [boolV neg,intV .u64 0,intV .u64 n]] σ= .ok (.ret (narrowR 16 (narrowS neg n)),σ')∧Grow σ σ':=by
 refine ⟨_,w107 (by simp) ?_,Grow.push σ (.cells [boolV neg,intV .u64 0,intV .u64 n] 164 true 3)⟩
 rw [ec107]
 have l0:loadV tab (σ.push (.cells [boolV neg,intV .u64 0,intV .u64 n] 164 true 3)) 4 (.ptr σ.n 0)= .ok (boolV neg):=loadV_new u4 rfl rfl
 have l1:loadV tab (σ.push (.cells [boolV neg,intV .u64 0,intV .u64 n] 164 true 3)) 72 (.ptr σ.n 1)= .ok (intV .u64 0):=loadV_new u72 rfl rfl
 have l2:loadV tab (σ.push (.cells [boolV neg,intV .u64 0,intV .u64 n] 164 true 3)) 72 (.ptr σ.n 2)= .ok (intV .u64 n):=loadV_new u72 rfl rfl
 have e0:decide ((0:Int)>0)=false:=rfl
 simp only [box164,bindR_val,mv_eq,g1_eq,fa164_0,fa164_1,fa164_2,l0,l1,l2,binOp_int,intOp_gtr,e0,isBoolV_f,Bool.not_false,condT,pickV_boolV,condF]
 by_cases h1:9223372036854775808<n
 ·have d1:decide ((n:Int)>9223372036854775808)=true:=by simp;omega
  have:narrowS neg n=none:=by simp [narrowS,h1]
  simp (decide:=true) only [condT,condF,bindR_val,Bool.not_true,condR_boolV,isBoolV_t,d1,convR_int u72 u2,unOp_neg,puts_cons,puts_nil,r107,putE_same,putE_ne,this]
  rfl
 ·have d1:decide ((n:Int)>9223372036854775808)=false:=by simp;omega
  simp only [d1,Bool.not_false,condT,bindR_val,isBoolV_t]
  by_cases h2:n=9223372036854775808
  ·subst h2
   have d2:(((9223372036854775808:Nat):Int)==9223372036854775808)=true:=rfl
   cases neg with
   | false=>
    simp (decide:=true) only [condT,condF,bindR_val,unOp_not,Bool.not_false,pickV_boolV,condR_boolV,isBoolV_t,l0,l2,binOp_int,intOp_eql,d2,convR_int u72 u2,unOp_neg,puts_cons,puts_nil,r107,putE_same,putE_ne]
    rfl
   | true=>
    simp (decide:=true) only [condT,condF,bindR_val,unOp_not,Bool.not_true,pickV_boolV,condR_boolV,isBoolV_t,l0,l2,binOp_int,intOp_eql,d2,convR_int u72 u2,unOp_neg,puts_cons,puts_nil,r107,putE_same,putE_ne]
    rfl
  ·have d2:(((n:Nat):Int)==9223372036854775808)=false:=by rw [beq_eq_false_iff_ne];omega
   cases neg with
   | false=>
    have w:IntKind.i64.wrap (n:Int)=(n:Int):=by simp [IntKind.wrap,IntKind.bits,IntKind.signed];omega
    have:narrowS false n=some (n:Int):=by simp [narrowS,h1,h2]
    simp (decide:=true) only [condF,bindR_val,pickV_boolV,condR_boolV,isBoolV_t,l2,binOp_int,intOp_eql,d2,convR_int u72 u2,unOp_neg,puts_cons,puts_nil,r107,putE_same,putE_ne,w,this]
    rfl
   | true=>
    have w:IntKind.i64.wrap (n:Int)=(n:Int):=by simp [IntKind.wrap,IntKind.bits,IntKind.signed];omega
    have w2:IntKind.i64.wrap (0 - (n:Int))= -(n:Int):=by simp [IntKind.wrap,IntKind.bits,IntKind.signed];omega
    have:narrowS true n=some (-(n:Int)):=by simp [narrowS,h1]
    simp (decide:=true) only [condT,condF,bindR_val,pickV_boolV,condR_boolV,isBoolV_t,l2,binOp_int,intOp_eql,d2,convR_int u72 u2,unOp_neg,puts_cons,puts_nil,r107,putE_same,putE_ne,w2,w,this]
    rfl
end Go.Proofs.YtahgmmbmmcaejaaGreatDoor
