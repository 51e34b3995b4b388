/-
  A part of the proof. No statement of this seat stands here.
-/
import Derived.Test.YtahgmmbmmcaejaaGreatDoorP15
namespace Go.Proofs.YtahgmmbmmcaejaaGreatDoor
open Go Go.Dt
set_option maxRecDepth 100000
theorem len_sl{t b o n:Nat}{cap:Option Nat}{sz:Nat}(ht:sliceB t=true):lenV tab t (.slice b o n cap sz)= .ok (intV .i64 (n:Int)):=by
 unfold sliceB at ht
 split at ht
 ·rename_i el hu
  simp [Dt.lenV,hu,bindR_eq];rfl
 ·cases ht
def tailS(x:ItemD):Int:=
 bif x.err !=0 && x.err !=7 && x.err !=16 then 11 else bif x.err !=0 && decide ((x.values.length:Int)>0) then 3 else
 bif decide ((x.values.length:Int)>4) then 6 else bif x.count !=0 then 3 else 0
theorem tail75{σ:St}{b:Nat}{x:ItemD}{iv av vv:AV}{f1 f2 f3:List Nat}{T:Rg}(hI:InItem σ b x iv av vv f1 f2 f3)(h1:T 1= .ptr b 0):
  denK tab W 94 c75b (kRet tab [.tmp 2]) T σ= .ok (.ret (intV .i64 (tailS x)),σ):=by
 rw [ec75b]
 have hA:=hI.at'
 simp only [mv_eq,g1_eq,bindR_val,h1,fa41_5,fa41_4,fa41_6,Nat.zero_add,ld l24 hA (o:=5) rfl,ld l39 hA (o:=4) rfl,ld l3 hA (o:=6) rfl,binOp_int,intOp_neq,intOp_gtr,isBoolV_t,bindR_cond,cond_loadV,cond_binl,cond_len,hI.values.lenV sl39,pick_and,condR_boolV]
 unfold tailS
 cases (x.err !=0 && x.err !=7 && x.err !=16)<;>cases (x.err !=0 && decide ((x.values.length:Int)>0))<;>cases (decide ((x.values.length:Int)>4))<;>cases (x.count !=0)<;>
  simp (decide:=true) only [condT,condF,r75,puts_cons,puts_nil,putE_same]
theorem foundS_eq(x:ItemD):foundS x=bif idBad x.query then 2 else bif (x.ids.length:Int)==0 then 5 else bif decide ((x.ids.length:Int)>12) then 6 else bif (x.atoms.length:Int) !=(x.ids.length:Int) then 3 else
 bif (x.ids.zip x.atoms).any pairBad then 2 else tailS x:=rfl
theorem W75(σ:St)(hw:WF σ)(cs:List AV)(x:ItemD)(fp:List Nat)(hx:ItemR σ cs x fp):∃σ',W 75 [.agg cs] σ= .ok (.ret (intV .i64 (foundS x)),σ')∧Grow σ σ':=by
 obtain ⟨iv,av,vv,f1,f2,f3,rfl,hi,ha,hv,_⟩:=hx.is
 have e:=ec75 (kRet tab [.tmp 2]) (.agg [intV .i64 x.kind,intV .i64 x.query,iv,av,vv,intV .i64 x.err,intV .i64 x.count]) σ
 obtain ⟨σ1,hσ1⟩:∃σ1,σ1=σ.push (.cells [intV .i64 x.kind,intV .i64 x.query,iv,av,vv,intV .i64 x.err,intV .i64 x.count] 41 true 7):=⟨_,rfl⟩
 have hg:Grow σ σ1:=by rw [hσ1];exact Grow.push _ _
 have hA:At σ1 σ.n (.cells [intV .i64 x.kind,intV .i64 x.query,iv,av,vv,intV .i64 x.err,intV .i64 x.count] 41 true 7):=by rw [hσ1];exact At.new _ _
 have hI:InItem σ1 σ.n x iv av vv f1 f2 f3:=⟨hA,hi.grow hg,ha.grow hg,hv.grow hg⟩
 simp only [mv_eq,g1_eq,g2_eq,bindR_val,box41,← hσ1,fa41_1,fa41_2,fa41_3,Nat.zero_add,ld l3 hA (o:=1) rfl,W94,retK_ret,unOp_not,Bool.not_not,condR_boolV,ld l37 hA (o:=2) rfl,ld l38 hA (o:=3) rfl,hI.ids.lenV sl37,hI.atoms.lenV sl38,binOp_int,intOp_eql,intOp_gtr,intOp_neq] at e
 rw [foundS_eq]
 cases hq:idBad x.query with
 | true=>
  simp (decide:=true) only [hq,condT,r75,puts_cons,puts_nil,putE_same] at e ⊢
  exact ⟨_,w75 (by simp) e,hg⟩
 | false=>
 simp only [hq,condF] at e ⊢
 cases h0:(x.ids.length:Int)==0 with
 | true=>
  simp (decide:=true) only [h0,condT,r75,puts_cons,puts_nil,putE_same] at e ⊢
  exact ⟨_,w75 (by simp) e,hg⟩
 | false=>
 simp only [h0,condF] at e ⊢
 cases h12:decide ((x.ids.length:Int)>12) with
 | true=>
  simp (decide:=true) only [h12,condT,r75,puts_cons,puts_nil,putE_same] at e ⊢
  exact ⟨_,w75 (by simp) e,hg⟩
 | false=>
 simp only [h12,condF] at e ⊢
 cases hn:(x.atoms.length:Int) !=(x.ids.length:Int) with
 | true=>
  simp (decide:=true) only [hn,condT,r75,puts_cons,puts_nil,putE_same] at e ⊢
  exact ⟨_,w75 (by simp) e,hg⟩
 | false=>
 have hal:x.atoms.length=x.ids.length:=by
  have:(x.atoms.length:Int)=(x.ids.length:Int):=by simpa using hn
  omega
 have h12':x.ids.length≤12:=by
  have:¬((x.ids.length:Int)>12):=of_decide_eq_false h12
  omega
 simp (decide:=true) only [hn,condF,ec75c,mv_eq,g1_eq,bindR_val,puts_cons,puts_nil,putE_ne,putE_same,fa41_2,Nat.zero_add,ld l37 hA (o:=2) rfl,hI.ids.lenV sl37] at e ⊢
 have tail:∀T0:Rg,T0 1= .ptr σ.n 0→T0 29=iv→T0 30=intV .i64 (x.ids.length:Int)→T0 31=intV .i64 ((0:Nat):Int)→
   denK tab W 94 c75 (kRet tab [.tmp 2]) (argE [.agg [intV .i64 x.kind,intV .i64 x.query,iv,av,vv,intV .i64 x.err,intV .i64 x.count]]) σ=
    bindR (loopLim (dd tab W 94 c75a) T0 σ1) (K.app (kblk 1 (kseq (denK tab W 94 c75b (kRet tab [.tmp 2])) (kRet tab [.tmp 2]))))→
   ∃σ',W 75 [.agg [intV .i64 x.kind,intV .i64 x.query,iv,av,vv,intV .i64 x.err,intV .i64 x.count]] σ= .ok (.ret (intV .i64 (bif (x.ids.zip x.atoms).any pairBad then 2 else tailS x)),σ')∧Grow σ σ':=by
  intro T0 k1 k29 k30 k31 e
  obtain ⟨T',σ',hg2,hr⟩:=loop75 σ.n x iv av vv f1 f2 f3 hal h12' x.ids.length 0 (by omega) T0 σ1 (hg.wf hw) hI k1 k29 k30 k31
  simp only [List.drop_zero] at hr
  rcases hr with ⟨p1,p2,p3⟩ | ⟨p1,p2,p3⟩
  ·rw [p2] at e
   simp only [bindR_val,app_ret,kblk_ret,kseq_ret,r75,p3] at e
   rw [p1]
   exact ⟨σ',w75 (by simp) e,hg.trans hg2⟩
  ·rw [p2] at e
   simp (decide:=true) only [bindR_val,app_exit,kblk_exit,if_true,kseq_nxt,tail75 (hI.grow hg2) p3] at e
   rw [p1]
   exact ⟨σ',w75 (by simp) e,hg.trans hg2⟩
 refine tail _ ?_ ?_ ?_ ?_ e<;>simp (decide:=true) only [putE_same,putE_ne]<;>rfl
theorem loop79(b:Nat)(x:ItemD)(iv av vv:AV)(f1 f2 f3:List Nat)(hal:x.atoms.length=x.ids.length)(h12:x.ids.length≤12)(σ:St)(hI:InItem σ b x iv av vv f1 f2 f3):∀(m i:Nat),i+m=x.ids.length→∀(T:Rg),
  T 1= .ptr b 0→T 3=intV .i64 (i:Int)→
  ∃T',((((x.ids.drop i).zip (x.atoms.drop i)).any pairBad=true∧loopLim (dd tab W 99 c79a) T σ= .ok (.ret T' σ)∧T' 2=intV .i64 2)∨
   (((x.ids.drop i).zip (x.atoms.drop i)).any pairBad=false∧loopLim (dd tab W 99 c79a) T σ= .ok (.exit 1 T' σ)∧T' 1= .ptr b 0)):=by
 have hA:=hI.at'
 intro m
 induction m with
 | zero=>
  intro i hi T h1 h3
  have e:=ec79a kOc T σ
  have d1:decide ((i:Int)<(x.ids.length:Int))=false:=by simp;omega
  simp only [mv_eq,g1_eq,bindR_val,h1,h3,fa41_2,Nat.zero_add,ld l37 hA (o:=2) rfl,hI.ids.lenV sl37,binOp_int,intOp_lss,d1,condR_boolV,condF,kOc_exit] at e
  refine ⟨_,.inr ⟨?_,loop_exit (dd_of tab W 99 e),?_⟩⟩
  ·rw [List.drop_eq_nil_of_le (by omega:x.ids.length≤i)];rfl
  ·simp (decide:=true) only [puts_cons,puts_nil,putE_ne,h1]
 | succ m ih=>
  intro i hi T h1 h3
  have hil:i<x.ids.length:=by omega
  have hia:i<x.atoms.length:=by omega
  have hp:x.ids[i]? =some x.ids[i]:=List.getElem?_eq_getElem hil
  have ha:x.atoms[i]? =some x.atoms[i]:=List.getElem?_eq_getElem hia
  have hzip:(x.ids.drop i).zip (x.atoms.drop i)=(x.ids[i],x.atoms[i])::(x.ids.drop (i+1)).zip (x.atoms.drop (i+1)):=by
   rw [List.drop_eq_getElem_cons hil,List.drop_eq_getElem_cons hia];rfl
  rw [hzip]
  obtain ⟨⟨l,n⟩,hln⟩:∃p,x.ids[i]=p:=⟨_,rfl⟩
  obtain ⟨a,haa⟩:∃a,x.atoms[i]=a:=⟨_,rfl⟩
  rw [hln] at hp ⊢
  rw [haa] at ha ⊢
  obtain ⟨bi,hiv,hbi,_⟩:=hI.ids.at hil
  obtain ⟨ba,hav,hba,_⟩:=hI.atoms.at hia
  have e:=ec79a kOc T σ
  have d1:decide ((i:Int)<(x.ids.length:Int))=true:=by simp;omega
  have w1:IntKind.i64.wrap ((i:Int)+1)=((i+1:Nat):Int):=i64_add1 i (by omega)
  have ld1:loadV tab σ 72 (.ptr bi (i*2+1))= .ok (intV .u64 n):=ld l72 hbi (by exact flat_get idC 2 idC_len _ i 1 (l,n) _ hp (by omega) rfl)
  have ld2:loadV tab σ 3 (.ptr ba (i*1))= .ok (intV .i64 a):=ld l3 hba (by exact flat_get i1C 1 i1C_len _ i 0 a _ ha (by omega) rfl)
  simp only [mv_eq,g1_eq,bindR_val,h1,h3,fa41_2,Nat.zero_add,ld l37 hA (o:=2) rfl,len_sl sl37,binOp_int,intOp_lss,d1,condR_boolV,condT,hiv,ixA0 el37 hil,ld1,fa74_1,isBoolV_f,bindR_cond,cond_loadV,cond_binl,intOp_gtr,pick_or,
   fa41_3,cond_field,ld l38 hA (o:=3) rfl,hav,cond_ixa,ixA0 el38 hia,ld2,intOp_geq,intOp_add,w1,kOc_nxt,kOc_ret] at e
  have hid:(decide (n<1) || decide (n>1099511627776) || decide (a<0) || decide (a≥12))=pairBad ((l,n),a):=rfl
  rw [hid] at e
  cases hb:pairBad ((l,n),a) with
  | true=>
   rw [hb] at e
   simp only [condT] at e
   refine ⟨_,.inl ⟨by simp [hb],loop_ret (dd_of tab W 99 e),?_⟩⟩
   simp (decide:=true) only [puts_cons,puts_nil,putE_same]
  | false=>
   rw [hb] at e
   simp only [condF] at e
   have key:∃T1,denK tab W 99 c79a kOc T σ= .ok (.nxt T1 σ)∧T1 1= .ptr b 0∧T1 3=intV .i64 ((i+1:Nat):Int):=by
    refine ⟨_,e,?_,?_⟩<;>simp (decide:=true) only [puts_cons,puts_nil,putE_same,putE_ne,h1]
   obtain ⟨T1,e1,k1,k3⟩:=key
   obtain ⟨T',q2⟩:=ih (i+1) (by omega) T1 k1 k3
   refine ⟨T',?_⟩
   rcases q2 with ⟨p1,p2,p3⟩ | ⟨p1,p2,p3⟩
   ·exact .inl ⟨by simp only [List.any_cons,hb,p1,Bool.or_true],loop_next (dd_of tab W 99 e1) p2,p3⟩
   ·exact .inr ⟨by simp only [List.any_cons,hb,p1,Bool.or_false],loop_next (dd_of tab W 99 e1) p2,p3⟩
theorem tail79{σ:St}{b:Nat}{x:ItemD}{iv av vv:AV}{f1 f2 f3:List Nat}{T:Rg}(hI:InItem σ b x iv av vv f1 f2 f3)(h1:T 1= .ptr b 0):
  denK tab W 99 c79b (kRet tab [.tmp 2]) T σ= .ok (.ret (intV .i64 (tailS x)),σ):=by
 rw [ec79b]
 have hA:=hI.at'
 simp only [mv_eq,g1_eq,bindR_val,h1,fa41_5,fa41_4,fa41_6,Nat.zero_add,ld l24 hA (o:=5) rfl,ld l39 hA (o:=4) rfl,ld l3 hA (o:=6) rfl,binOp_int,intOp_neq,intOp_gtr,isBoolV_t,bindR_cond,cond_loadV,cond_binl,cond_len,hI.values.lenV sl39,pick_and,condR_boolV]
 unfold tailS
 cases (x.err !=0 && x.err !=7 && x.err !=16)<;>cases (x.err !=0 && decide ((x.values.length:Int)>0))<;>cases (decide ((x.values.length:Int)>4))<;>cases (x.count !=0)<;>
  simp (decide:=true) only [condT,condF,r79,puts_cons,puts_nil,putE_same]
theorem W79(σ:St)(_:WF σ)(cs:List AV)(x:ItemD)(fp:List Nat)(hx:ItemR σ cs x fp):∃σ',W 79 [.agg cs] σ= .ok (.ret (intV .i64 (foundS x)),σ')∧Grow σ σ':=by
 obtain ⟨iv,av,vv,f1,f2,f3,rfl,hi,ha,hv,_⟩:=hx.is
 have e:=ec79 (kRet tab [.tmp 2]) (.agg [intV .i64 x.kind,intV .i64 x.query,iv,av,vv,intV .i64 x.err,intV .i64 x.count]) σ
 obtain ⟨σ1,hσ1⟩:∃σ1,σ1=σ.push (.cells [intV .i64 x.kind,intV .i64 x.query,iv,av,vv,intV .i64 x.err,intV .i64 x.count] 41 true 7):=⟨_,rfl⟩
 have hg:Grow σ σ1:=by rw [hσ1];exact Grow.push _ _
 have hA:At σ1 σ.n (.cells [intV .i64 x.kind,intV .i64 x.query,iv,av,vv,intV .i64 x.err,intV .i64 x.count] 41 true 7):=by rw [hσ1];exact At.new _ _
 have hI:InItem σ1 σ.n x iv av vv f1 f2 f3:=⟨hA,hi.grow hg,ha.grow hg,hv.grow hg⟩
 simp only [mv_eq,g1_eq,g2_eq,bindR_val,box41,← hσ1,fa41_1,fa41_2,fa41_3,Nat.zero_add,ld l3 hA (o:=1) rfl,W95,retK_ret,unOp_not,Bool.not_not,condR_boolV,ld l37 hA (o:=2) rfl,ld l38 hA (o:=3) rfl,hI.ids.lenV sl37,hI.atoms.lenV sl38,binOp_int,intOp_eql,intOp_gtr,intOp_neq] at e
 rw [foundS_eq]
 cases hq:idBad x.query with
 | true=>
  simp (decide:=true) only [hq,condT,r79,puts_cons,puts_nil,putE_same] at e ⊢
  exact ⟨_,w79 (by simp) e,hg⟩
 | false=>
 simp only [hq,condF] at e ⊢
 cases h0:(x.ids.length:Int)==0 with
 | true=>
  simp (decide:=true) only [h0,condT,r79,puts_cons,puts_nil,putE_same] at e ⊢
  exact ⟨_,w79 (by simp) e,hg⟩
 | false=>
 simp only [h0,condF] at e ⊢
 cases h12:decide ((x.ids.length:Int)>12) with
 | true=>
  simp (decide:=true) only [h12,condT,r79,puts_cons,puts_nil,putE_same] at e ⊢
  exact ⟨_,w79 (by simp) e,hg⟩
 | false=>
 simp only [h12,condF] at e ⊢
 cases hn:(x.atoms.length:Int) !=(x.ids.length:Int) with
 | true=>
  simp (decide:=true) only [hn,condT,r79,puts_cons,puts_nil,putE_same] at e ⊢
  exact ⟨_,w79 (by simp) e,hg⟩
 | false=>
 have hal:x.atoms.length=x.ids.length:=by
  have:(x.atoms.length:Int)=(x.ids.length:Int):=by simpa using hn
  omega
 have h12':x.ids.length≤12:=by
  have:¬((x.ids.length:Int)>12):=of_decide_eq_false h12
  omega
 simp (decide:=true) only [hn,condF,ec79c,mv_eq,bindR_val,puts_cons,puts_nil] at e ⊢
 have tail:∀T0:Rg,T0 1= .ptr σ.n 0→T0 3=intV .i64 ((0:Nat):Int)→
   denK tab W 99 c79 (kRet tab [.tmp 2]) (argE [.agg [intV .i64 x.kind,intV .i64 x.query,iv,av,vv,intV .i64 x.err,intV .i64 x.count]]) σ=
    bindR (loopLim (dd tab W 99 c79a) T0 σ1) (K.app (kblk 1 (kseq (denK tab W 99 c79b (kRet tab [.tmp 2])) (kRet tab [.tmp 2]))))→
   ∃σ',W 79 [.agg [intV .i64 x.kind,intV .i64 x.query,iv,av,vv,intV .i64 x.err,intV .i64 x.count]] σ= .ok (.ret (intV .i64 (bif (x.ids.zip x.atoms).any pairBad then 2 else tailS x)),σ')∧Grow σ σ':=by
  intro T0 k1 k3 e
  obtain ⟨T',hr⟩:=loop79 σ.n x iv av vv f1 f2 f3 hal h12' σ1 hI x.ids.length 0 (by omega) T0 k1 k3
  simp only [List.drop_zero] at hr
  rcases hr with ⟨p1,p2,p3⟩ | ⟨p1,p2,p3⟩
  ·rw [p2] at e
   simp only [bindR_val,app_ret,kblk_ret,kseq_ret,r79,p3] at e
   rw [p1]
   exact ⟨σ1,w79 (by simp) e,hg⟩
  ·rw [p2] at e
   simp (decide:=true) only [bindR_val,app_exit,kblk_exit,if_true,kseq_nxt,tail79 hI p3] at e
   rw [p1]
   exact ⟨σ1,w79 (by simp) e,hg⟩
 refine tail _ ?_ ?_ e<;>simp (decide:=true) only [putE_same,putE_ne]<;>rfl
end Go.Proofs.YtahgmmbmmcaejaaGreatDoor
namespace Go.Proofs.YtahgmmbmmcaejaaGreatDoor
open Go Go.Dt
set_option maxRecDepth 100000
theorem cond_cond{α:Type}(c:Bool)(x y z:α):(bif c then (bif c then x else y) else z)=bif c then x else z:=by cases c<;>rfl
theorem cond_isBu(c d:Bool):isBoolV (bif c then boolV d else AV.undef) true=(c && d):=by cases c<;>cases d<;>rfl
theorem cond_W(c:Bool)(n:Nat)(x y:AV)(σ:St)(z:R (AEnd×St)):(bif c then W n [bif c then x else y] σ else z)=bif c then W n [x] σ else z:=by cases c<;>rfl
theorem retK_cond{ρ:Type}(c:Bool)(x y:AV)(σ:St)(k:AV→St→R ρ)(kp:AV→St→R ρ):retK (bif c then (.ret x,σ) else (.ret y,σ)) k kp=k (bif c then x else y) σ:=by cases c<;>rfl
theorem cond_not(c:Bool)(x y:AV)(z:R AV):(bif c then Dt.unOp .not (bif c then x else y) else z)=bif c then Dt.unOp .not x else z:=by cases c<;>rfl
theorem pick_in(c d e:Bool)(y y':AV)(z:R AV):(bif c then pickV (bif c then boolV d else y) (bif (c && d) then boolV e else y') (boolV false) else z)=bif c then .ok (boolV (d && e)) else z:=by cases c<;>cases d<;>rfl
def ItemD.small(x:ItemD):Prop:=x.ids.length+x.atoms.length+x.values.length<4294967296
theorem W76(σ:St)(cs:List AV)(x:ItemD)(hs:x.small)(fp:List Nat)(hx:ItemR σ cs x fp):∃σ',W 76 [.agg cs] σ= .ok (.ret (intV .i64 (noticeS x)),σ')∧Grow σ σ':=by
 obtain ⟨iv,av,vv,f1,f2,f3,rfl,hi,ha,hv,_⟩:=hx.is
 have e:=ec76 (kRet tab [.tmp 2]) (.agg [intV .i64 x.kind,intV .i64 x.query,iv,av,vv,intV .i64 x.err,intV .i64 x.count]) σ
 obtain ⟨σ1,hσ1⟩:∃σ1,σ1=σ.push (.cells [intV .i64 x.kind,intV .i64 x.query,iv,av,vv,intV .i64 x.err,intV .i64 x.count] 41 true 7):=⟨_,rfl⟩
 have hg:Grow σ σ1:=by rw [hσ1];exact Grow.push _ _
 have hA:At σ1 σ.n (.cells [intV .i64 x.kind,intV .i64 x.query,iv,av,vv,intV .i64 x.err,intV .i64 x.count] 41 true 7):=by rw [hσ1];exact At.new _ _
 have hI:InItem σ1 σ.n x iv av vv f1 f2 f3:=⟨hA,hi.grow hg,ha.grow hg,hv.grow hg⟩
 refine ⟨σ1,w76 (by simp) (e.trans ?_),hg⟩
 unfold ItemD.small at hs
 have w1:IntKind.i64.wrap ((x.ids.length:Int)+(x.atoms.length:Int))=((x.ids.length+x.atoms.length:Nat):Int):=by
  simp [IntKind.wrap,IntKind.bits,IntKind.signed];omega
 have w2:IntKind.i64.wrap (((x.ids.length+x.atoms.length:Nat):Int)+(x.values.length:Int))=((x.ids.length+x.atoms.length+x.values.length:Nat):Int):=by
  simp [IntKind.wrap,IntKind.bits,IntKind.signed];omega
 have hlen:decide (((x.ids.length+x.atoms.length+x.values.length:Nat):Int)>0)=(decide ((x.ids.length:Int)>0) || decide ((x.atoms.length:Int)>0) || decide ((x.values.length:Int)>0)):=by
  rw [Bool.eq_iff_iff];simp;omega
 simp (decide:=true) only [mv_eq,g1_eq,bindR_val,box41,← hσ1,fa41_5,Nat.zero_add,ld l24 hA (o:=5) rfl,binOp_int,intOp_neq,isBoolV_t,bindR_cond,cond_loadV,cond_binl,pick_and,ec76a,puts_cons,puts_nil,putE_same,putE_ne,condR_boolV]
 unfold noticeS
 cases (x.err !=17 && x.err !=18 && x.err !=19) with
 | true=>
  simp (decide:=true) only [condT,kblk_ret,kseq_ret,r76,putE_same]
 | false=>
 simp only [condF,intOp_eql,fa41_1,Nat.zero_add,ld l24 hA (o:=5) rfl,ld l3 hA (o:=1) rfl,bindR_val,binOp_int,isBoolV_t,isBoolV_f,bindR_cond,cond_loadV,cond_binl,intOp_neq,pick_and,cond_cond,cond_isBu,cond_W,W94,retK_cond,cond_not,unOp_not,Bool.not_not,pick_in,pick_or,condR_boolV]
 cases (x.err==19 && x.query !=0 || x.err !=19 && idBad x.query) with
 | true=>
  simp (decide:=true) only [condT,kblk_ret,kseq_ret,r76,putE_same]
 | false=>
 simp only [condF,fa41_6,Nat.zero_add,ld l3 hA (o:=6) rfl,bindR_val,binOp_int,isBoolV_f,bindR_cond,cond_loadV,cond_binl,intOp_neq,pick_and,cond_W,W94,retK_cond,cond_not,unOp_not,Bool.not_not,pick_in,pick_or,condR_boolV]
 cases (x.err==17 && x.count !=0 || x.err !=17 && idBad x.count) with
 | true=>
  simp (decide:=true) only [condT,kblk_ret,kseq_ret,r76,putE_same]
 | false=>
 simp (decide:=true) only [condF,fa41_2,fa41_3,fa41_4,Nat.zero_add,ld l37 hA (o:=2) rfl,ld l38 hA (o:=3) rfl,ld l39 hA (o:=4) rfl,hI.ids.lenV sl37,hI.atoms.lenV sl38,hI.values.lenV sl39,bindR_val,binOp_int,intOp_add,w1,w2,intOp_gtr,hlen,condR_boolV]
 cases (decide ((x.ids.length:Int)>0) || decide ((x.atoms.length:Int)>0) || decide ((x.values.length:Int)>0))<;>
  simp (decide:=true) only [condT,condF,kblk_ret,kseq_ret,kblk_nxt,kseq_nxt,ec76b,mv_eq,bindR_val,puts_cons,puts_nil,r76,putE_same]
theorem W80(σ:St)(cs:List AV)(x:ItemD)(fp:List Nat)(hx:ItemR σ cs x fp):∃σ',W 80 [.agg cs] σ= .ok (.ret (intV .i64 (noticeS x)),σ')∧Grow σ σ':=by
 obtain ⟨iv,av,vv,f1,f2,f3,rfl,hi,ha,hv,_⟩:=hx.is
 have e:=ec80 (kRet tab [.tmp 2]) (.agg [intV .i64 x.kind,intV .i64 x.query,iv,av,vv,intV .i64 x.err,intV .i64 x.count]) σ
 obtain ⟨σ1,hσ1⟩:∃σ1,σ1=σ.push (.cells [intV .i64 x.kind,intV .i64 x.query,iv,av,vv,intV .i64 x.err,intV .i64 x.count] 41 true 7):=⟨_,rfl⟩
 have hg:Grow σ σ1:=by rw [hσ1];exact Grow.push _ _
 have hA:At σ1 σ.n (.cells [intV .i64 x.kind,intV .i64 x.query,iv,av,vv,intV .i64 x.err,intV .i64 x.count] 41 true 7):=by rw [hσ1];exact At.new _ _
 have hI:InItem σ1 σ.n x iv av vv f1 f2 f3:=⟨hA,hi.grow hg,ha.grow hg,hv.grow hg⟩
 refine ⟨σ1,w80 (by simp) (e.trans ?_),hg⟩
 simp (decide:=true) only [mv_eq,g1_eq,bindR_val,box41,← hσ1,fa41_5,Nat.zero_add,ld l24 hA (o:=5) rfl,binOp_int,intOp_neq,isBoolV_t,bindR_cond,cond_loadV,cond_binl,pick_and,ec80a,puts_cons,puts_nil,putE_same,putE_ne,condR_boolV]
 unfold noticeS
 cases (x.err !=17 && x.err !=18 && x.err !=19) with
 | true=>
  simp (decide:=true) only [condT,kblk_ret,kseq_ret,r80,putE_same]
 | false=>
 simp only [condF,intOp_eql,fa41_1,Nat.zero_add,ld l24 hA (o:=5) rfl,ld l3 hA (o:=1) rfl,bindR_val,binOp_int,isBoolV_t,isBoolV_f,bindR_cond,cond_loadV,cond_binl,intOp_neq,pick_and,cond_cond,cond_isBu,cond_W,W95,retK_cond,cond_not,unOp_not,Bool.not_not,pick_in,pick_or,condR_boolV]
 cases (x.err==19 && x.query !=0 || x.err !=19 && idBad x.query) with
 | true=>
  simp (decide:=true) only [condT,kblk_ret,kseq_ret,r80,putE_same]
 | false=>
 simp only [condF,fa41_6,Nat.zero_add,ld l3 hA (o:=6) rfl,bindR_val,binOp_int,isBoolV_f,bindR_cond,cond_loadV,cond_binl,intOp_neq,pick_and,cond_W,W95,retK_cond,cond_not,unOp_not,Bool.not_not,pick_in,pick_or,condR_boolV]
 cases (x.err==17 && x.count !=0 || x.err !=17 && idBad x.count) with
 | true=>
  simp (decide:=true) only [condT,kblk_ret,kseq_ret,r80,putE_same]
 | false=>
 simp (decide:=true) only [condF,fa41_2,fa41_3,fa41_4,Nat.zero_add,ld l37 hA (o:=2) rfl,ld l38 hA (o:=3) rfl,ld l39 hA (o:=4) rfl,hI.ids.lenV sl37,hI.atoms.lenV sl38,hI.values.lenV sl39,bindR_val,binOp_int,intOp_gtr,isBoolV_f,bindR_cond,cond_loadV,cond_len,cond_binl,pick_or,condR_boolV]
 cases (decide ((x.ids.length:Int)>0) || decide ((x.atoms.length:Int)>0) || decide ((x.values.length:Int)>0))<;>
  simp (decide:=true) only [condT,condF,kblk_ret,kseq_ret,kblk_nxt,kseq_nxt,ec80b,mv_eq,bindR_val,puts_cons,puts_nil,r80,putE_same]
theorem W48(σ:St)(hw:WF σ)(cs:List AV)(x:ItemD)(hs:x.small)(fp:List Nat)(hx:ItemR σ cs x fp):∃σ',W 48 [.agg cs] σ= .ok (.ret (intV .i64 (itemRight x)),σ')∧Grow σ σ':=by
 obtain ⟨iv,av,vv,f1,f2,f3,hcs,hi,ha,hv,hfp⟩:=hx.is
 have e:=ec48 (kRet tab [.tmp 2]) (.agg cs) σ
 obtain ⟨σ1,hσ1⟩:∃σ1,σ1=σ.push (.cells cs 41 true 7):=⟨_,rfl⟩
 have hg:Grow σ σ1:=by rw [hσ1];exact Grow.push _ _
 have hA:At σ1 σ.n (.cells cs 41 true 7):=by rw [hσ1];exact At.new _ _
 have hx1:=hx.grow hg
 have hld:loadV tab σ1 41 (.ptr σ.n 0)= .ok (.agg cs):=lda a41 hA (by rw [hcs];rfl) (by rw [hcs];rfl)
 have hl0:loadV tab σ1 3 (.ptr σ.n 0)= .ok (intV .i64 x.kind):=ld l3 hA (by rw [hcs];rfl)
 have hbox:boxA tab 41 (.agg cs) σ.n= .ok (.ptr σ.n 0,.cells cs 41 true 7):=by rw [hcs];exact box41 _ _ _ _ _ _ _ _
 obtain ⟨σ2,k1,k2⟩:=W75 σ1 (hg.wf hw) cs x fp hx1
 obtain ⟨σ3,m1,m2⟩:=W76 σ1 cs x hs fp hx1
 simp only [mv_eq,g1_eq,g2_eq,bindR_val,hbox,← hσ1,fa41_0,hl0,binOp_int,intOp_eql,condR_boolV,hld,k1,m1,retK_ret] at e
 unfold itemRight
 cases hk:x.kind==1 with
 | true=>
  simp (decide:=true) only [hk,condT,r48,puts_cons,puts_nil,putE_same] at e ⊢
  exact ⟨σ2,w48 (by simp) e,hg.trans k2⟩
 | false=>
  simp only [hk,condF] at e ⊢
  cases hk2:x.kind==2 with
  | true=>
   simp (decide:=true) only [hk2,condT,r48,puts_cons,puts_nil,putE_same] at e ⊢
   exact ⟨σ3,w48 (by simp) e,hg.trans m2⟩
  | false=>
   simp (decide:=true) only [hk2,condF,r48,puts_cons,puts_nil,putE_same] at e ⊢
   exact ⟨σ1,w48 (by simp) e,hg⟩
theorem W53(σ:St)(hw:WF σ)(cs:List AV)(x:ItemD)(fp:List Nat)(hx:ItemR σ cs x fp):∃σ',W 53 [.agg cs] σ= .ok (.ret (intV .i64 (itemRight x)),σ')∧Grow σ σ':=by
 obtain ⟨iv,av,vv,f1,f2,f3,hcs,hi,ha,hv,hfp⟩:=hx.is
 have e:=ec53 (kRet tab [.tmp 2]) (.agg cs) σ
 obtain ⟨σ1,hσ1⟩:∃σ1,σ1=σ.push (.cells cs 41 true 7):=⟨_,rfl⟩
 have hg:Grow σ σ1:=by rw [hσ1];exact Grow.push _ _
 have hA:At σ1 σ.n (.cells cs 41 true 7):=by rw [hσ1];exact At.new _ _
 have hx1:=hx.grow hg
 have hld:loadV tab σ1 41 (.ptr σ.n 0)= .ok (.agg cs):=lda a41 hA (by rw [hcs];rfl) (by rw [hcs];rfl)
 have hl0:loadV tab σ1 3 (.ptr σ.n 0)= .ok (intV .i64 x.kind):=ld l3 hA (by rw [hcs];rfl)
 have hbox:boxA tab 41 (.agg cs) σ.n= .ok (.ptr σ.n 0,.cells cs 41 true 7):=by rw [hcs];exact box41 _ _ _ _ _ _ _ _
 obtain ⟨σ2,k1,k2⟩:=W79 σ1 (hg.wf hw) cs x fp hx1
 obtain ⟨σ3,m1,m2⟩:=W80 σ1 cs x fp hx1
 simp only [mv_eq,g1_eq,g2_eq,bindR_val,hbox,← hσ1,fa41_0,hl0,binOp_int,intOp_eql,condR_boolV,hld,k1,m1,retK_ret] at e
 unfold itemRight
 cases hk:x.kind==1 with
 | true=>
  simp (decide:=true) only [hk,condT,r53,puts_cons,puts_nil,putE_same] at e ⊢
  exact ⟨σ2,w53 (by simp) e,hg.trans k2⟩
 | false=>
  simp only [hk,condF] at e ⊢
  cases hk2:x.kind==2 with
  | true=>
   simp (decide:=true) only [hk2,condT,r53,puts_cons,puts_nil,putE_same] at e ⊢
   exact ⟨σ3,w53 (by simp) e,hg.trans m2⟩
  | false=>
   simp (decide:=true) only [hk2,condF,r53,puts_cons,puts_nil,putE_same] at e ⊢
   exact ⟨σ1,w53 (by simp) e,hg⟩
end Go.Proofs.YtahgmmbmmcaejaaGreatDoor
namespace Go.Proofs.YtahgmmbmmcaejaaGreatDoor
open Go Go.Dt
set_option maxRecDepth 100000
theorem rows_at(sz:Nat):∀(rows:List (List AV)) (_:∀r∈rows,r.length=sz) (i:Nat) (r:List AV),rows[i]? =some r→(rows.flatten.drop (i*sz)).take sz=r
 | [],_,i,r,h=>by simp at h
 | a::l,hl,0,r,h=>by
  have:a=r:=by simpa using h
  subst this
  have:=hl a (by simp)
  subst this
  simp
 | a::l,hl,i+1,r,h=>by
  have ha:=hl a (by simp)
  have h1:(a++l.flatten).drop sz=l.flatten:=by subst ha;simp
  rw [List.flatten_cons,Nat.add_mul,Nat.one_mul,Nat.add_comm,← List.drop_drop,h1]
  exact rows_at sz l (fun x hx=>hl x (by simp [hx])) i r (by simpa using h)
theorem rows_len(sz:Nat):∀(rows:List (List AV)) (_:∀r∈rows,r.length=sz),rows.flatten.length=rows.length*sz
 | [],_=>by simp
 | a::l,hl=>by rw [List.flatten_cons,List.length_append,hl a (by simp),rows_len sz l (fun x hx=>hl x (by simp [hx])),List.length_cons,Nat.add_mul,Nat.one_mul,Nat.add_comm]
inductive RowsR(σ:St):List (List AV)→List ItemD→List Nat→Prop
 | nil:RowsR σ [] [] []
 | cons {cs:List AV} {x:ItemD} {f:List Nat} {rows:List (List AV)} {xs:List ItemD} {fp:List Nat} (h:ItemR σ cs x f) (t:RowsR σ rows xs fp):RowsR σ (cs::rows) (x::xs) (f++fp)
theorem RowsR.mod{σ σ':St}{P:List Nat}(hm:Mod P σ σ'):∀ {rows:List (List AV)} {xs:List ItemD} {fp:List Nat},RowsR σ rows xs fp→(∀y∈fp,y∉P)→RowsR σ' rows xs fp
 | _,_,_,.nil,_=> .nil
 | _,_,_,.cons h t,hp=> .cons (h.mod hm fun y hy=>hp y (by simp [hy])) (RowsR.mod hm t fun y hy=>hp y (by simp [hy]))
theorem RowsR.grow{σ σ':St}{rows:List (List AV)}{xs:List ItemD}{fp:List Nat}(h:RowsR σ rows xs fp)(hg:Grow σ σ'):RowsR σ' rows xs fp:=h.mod (hg.mod []) (by simp)
theorem RowsR.snoc{σ:St}{cs:List AV}{x:ItemD}{f:List Nat}(hx:ItemR σ cs x f):∀ {rows:List (List AV)} {xs:List ItemD} {fp:List Nat},RowsR σ rows xs fp→RowsR σ (rows++[cs]) (xs++[x]) (fp++f)
 | _,_,_,.nil=>by have:=RowsR.cons hx .nil;simpa using this
 | _,_,_,.cons h t=>by rw [List.append_assoc];exact .cons h (RowsR.snoc hx t)
theorem ItemR.len{σ:St}{cs:List AV}{x:ItemD}{fp:List Nat}(h:ItemR σ cs x fp):cs.length=7:=by
 obtain ⟨iv,av,vv,f1,f2,f3,h1,_⟩:=h.is
 rw [h1];rfl
theorem Vec.one{σ:St}{e sz n:Nat}{v:AV}{cs:List AV}{fp:List Nat}(h:Vec σ e sz n v cs fp):AV.oneCell v=true:=by
 rcases h.is with ⟨rfl,_⟩ | ⟨b,rfl,_⟩<;>rfl
theorem ItemR.one{σ:St}{cs:List AV}{x:ItemD}{fp:List Nat}(h:ItemR σ cs x fp):cs.all AV.oneCell=true:=by
 obtain ⟨iv,av,vv,f1,f2,f3,h1,h2,h3,h4,_⟩:=h.is
 rw [h1]
 simp only [List.all_cons,List.all_nil,h2.one,h3.one,h4.one]
 rfl
theorem RowsR.lens{σ:St}:∀ {rows:List (List AV)} {xs:List ItemD} {fp:List Nat},RowsR σ rows xs fp→(∀r∈rows,r.length=7)∧rows.length=xs.length
 | _,_,_,.nil=>by simp
 | _,_,_,.cons h t=>by
  have:=RowsR.lens t
  refine ⟨fun r hr=> ?_,by simp [this.2]⟩
  rcases List.mem_cons.1 hr with rfl | hr
  ·exact h.len
  ·exact this.1 r hr
theorem RowsR.get{σ:St}:∀ {rows:List (List AV)} {xs:List ItemD} {fp:List Nat},RowsR σ rows xs fp→∀(i:Nat) (x:ItemD),xs[i]? =some x→∃cs f,rows[i]? =some cs∧ItemR σ cs x f
 | _,_,_,.nil,i,x,h=>by simp at h
 | _,_,_,.cons h t,0,x,hx=>by
  have:=Option.some.inj hx
  subst this
  exact ⟨_,_,rfl,h⟩
 | _,_,_,.cons h t,i+1,x,hx=>RowsR.get t i x (by simpa using hx)
structure RepD where
 to:Int
 err:Int
 at':Int
 num:Int
 items:List ItemD
 recs:List RecD
structure RepR(σ:St)(cs:List AV)(r:RepD)(fp:List Nat):Prop where
 is:∃iv rv rows f1 f2 f3,cs=[intV .i64 r.to,intV .i64 r.err,intV .i64 r.at',intV .i64 r.num,iv,rv]∧Vec σ 41 7 r.items.length iv rows.flatten f1∧RowsR σ rows r.items f2∧
  Vec σ 77 6 r.recs.length rv (flat recC r.recs) f3∧fp=f1++f2++f3
theorem RepR.mod{σ σ':St}{cs:List AV}{r:RepD}{fp P:List Nat}(h:RepR σ cs r fp)(hm:Mod P σ σ')(hp:∀y∈fp,y∉P):RepR σ' cs r fp:=by
 obtain ⟨iv,rv,rows,f1,f2,f3,h1,h2,h3,h4,rfl⟩:=h.is
 exact ⟨iv,rv,rows,f1,f2,f3,h1,h2.mod hm fun y hy=>hp y (by simp [hy]),h3.mod hm fun y hy=>hp y (by simp [hy]),h4.mod hm fun y hy=>hp y (by simp [hy]),rfl⟩
theorem RepR.grow{σ σ':St}{cs:List AV}{r:RepD}{fp:List Nat}(h:RepR σ cs r fp)(hm:Grow σ σ'):RepR σ' cs r fp:=h.mod (hm.mod []) (by simp)
theorem RepR.len{σ:St}{cs:List AV}{r:RepD}{fp:List Nat}(h:RepR σ cs r fp):cs.length=6:=by
 obtain ⟨_,_,_,_,_,_,h1,_⟩:=h.is
 rw [h1];rfl
theorem RepR.one{σ:St}{cs:List AV}{r:RepD}{fp:List Nat}(h:RepR σ cs r fp):cs.all AV.oneCell=true:=by
 obtain ⟨iv,rv,rows,f1,f2,f3,h1,h2,_,h4,_⟩:=h.is
 rw [h1]
 simp only [List.all_cons,List.all_nil,h2.one,h4.one]
 rfl
structure InRep(σ:St)(b:Nat)(r:RepD)(iv rv:AV)(rows:List (List AV))(f1 f2 f3:List Nat):Prop where
 at':At σ b (.cells [intV .i64 r.to,intV .i64 r.err,intV .i64 r.at',intV .i64 r.num,iv,rv] 36 true 6)
 items:Vec σ 41 7 r.items.length iv rows.flatten f1
 rows:RowsR σ rows r.items f2
 recs:Vec σ 77 6 r.recs.length rv (flat recC r.recs) f3
theorem InRep.grow{σ σ':St}{b:Nat}{r:RepD}{iv rv:AV}{rows:List (List AV)}{f1 f2 f3:List Nat}(h:InRep σ b r iv rv rows f1 f2 f3)(hg:Grow σ σ'):InRep σ' b r iv rv rows f1 f2 f3:=
 ⟨h.at'.grow hg,h.items.grow hg,h.rows.grow hg,h.recs.grow hg⟩
def firstE:List Int→Int→Int
 | [],d=>d
 | e::l,d=>bif e !=0 then e else firstE l d
theorem firstE_d(d:Int):∀l,firstE l d=bif firstE l 0 !=0 then firstE l 0 else d
 | []=>by simp [firstE]
 | e::l=>by
  simp only [firstE]
  cases h:e !=0 with
  | true=>simp only [condT,h]
  | false=>simp only [condF];exact firstE_d d l
def headBad(r:RepD):Bool:=
 decide (r.to<0) || decide (r.to>6) || decide (r.err<0) || decide (r.err>23) || decide (r.at'<0) || decide (r.at'>20000) || decide (r.num<0) || decide (r.num>1099511627776)
def oneS(r:RepD):Int:=
 bif headBad r then 2 else bif decide ((r.items.length:Int)>65) || decide ((r.recs.length:Int)>64) then 6 else firstE (r.items.map itemRight) (firstE (r.recs.map recRight) 0)
theorem el33:elemB 33 41 7=true:=by kernel_rfl
theorem el34:elemB 34 77 6=true:=by kernel_rfl
theorem sl33:sliceB 33=true:=by kernel_rfl
theorem sl34:sliceB 34=true:=by kernel_rfl
theorem l33:leafB 33=true:=by kernel_rfl
theorem l34:leafB 34=true:=by kernel_rfl
theorem a36:aggB 36 6=true:=by kernel_rfl
theorem a77:aggB 77 6=true:=by kernel_rfl
theorem sz41:sizeB 41 7=true:=by kernel_rfl
theorem sz77:sizeB 77 6=true:=by kernel_rfl
theorem box36(x0 x1 x2 x3 x4 x5:AV)(b:Nat):boxA tab 36 (.agg [x0,x1,x2,x3,x4,x5]) b= .ok (.ptr b 0,.cells [x0,x1,x2,x3,x4,x5] 36 true 6):=by kernel_rfl
theorem fa36_0(b o:Nat):fieldAddr tab 36 (.ptr b o) 0= .ok (.ptr b o):=by kernel_rfl
theorem fa36_1(b o:Nat):fieldAddr tab 36 (.ptr b o) 1= .ok (.ptr b (o+1)):=by kernel_rfl
theorem fa36_2(b o:Nat):fieldAddr tab 36 (.ptr b o) 2= .ok (.ptr b (o+2)):=by kernel_rfl
theorem fa36_3(b o:Nat):fieldAddr tab 36 (.ptr b o) 3= .ok (.ptr b (o+3)):=by kernel_rfl
theorem fa36_4(b o:Nat):fieldAddr tab 36 (.ptr b o) 4= .ok (.ptr b (o+4)):=by kernel_rfl
theorem fa36_5(b o:Nat):fieldAddr tab 36 (.ptr b o) 5= .ok (.ptr b (o+5)):=by kernel_rfl
theorem alloc41(b:Nat):allocA tab 41 b= .ok (.ptr b 0,.cells [intV .i64 0,intV .i64 0,nilS,nilS,nilS,intV .i64 0,intV .i64 0] 41 true 7):=by kernel_rfl
theorem alloc77(b:Nat):allocA tab 77 b= .ok (.ptr b 0,.cells [intV .i64 0,intV .u64 0,intV .u64 0,intV .u64 0,intV .u64 0,intV .u64 0] 77 true 6):=by kernel_rfl
theorem recC_len(r:RecD):(recC r).length=6:=rfl
theorem loop23a(b:Nat)(r:RepD)(iv rv:AV)(rows:List (List AV))(f1 f2 f3:List Nat)(hsm:∀x∈r.items,x.small)(h65:r.items.length<1000000):∀(m i:Nat),i+m=r.items.length→∀(T:Rg) (σ:St),WF σ→InRep σ b r iv rv rows f1 f2 f3→
  T 1= .ptr b 0→T 60=iv→T 61=intV .i64 (r.items.length:Int)→T 62=intV .i64 (i:Int)→
  ∃T' σ' e,Grow σ σ'∧e=firstE ((r.items.drop i).map itemRight) 0∧(((e !=0)=true∧loopLim (dd tab W 85 c23a) T σ= .ok (.ret T' σ')∧T' 2=intV .i64 e)∨
   ((e !=0)=false∧loopLim (dd tab W 85 c23a) T σ= .ok (.exit 1 T' σ')∧T' 1= .ptr b 0)):=by
 intro m
 induction m with
 | zero=>
  intro i hi T σ hw hI h1 h60 h61 h62
  have e:=ec23a kOc T σ
  have d1:decide ((i:Int)<(r.items.length:Int))=false:=by simp;omega
  simp only [g1_eq,bindR_val,h61,h62,binOp_int,intOp_lss,d1,condR_boolV,condF,kOc_exit] at e
  refine ⟨_,σ,0,Grow.refl _,?_,.inr ⟨rfl,loop_exit (dd_of tab W 85 e),?_⟩⟩
  ·rw [List.drop_eq_nil_of_le (by omega:r.items.length≤i)];rfl
  ·simp (decide:=true) only [puts_cons,puts_nil,putE_ne,h1]
 | succ m ih=>
  intro i hi T σ hw hI h1 h60 h61 h62
  have hil:i<r.items.length:=by omega
  have hp:r.items[i]? =some r.items[i]:=List.getElem?_eq_getElem hil
  have hd:r.items.drop i=r.items[i]::r.items.drop (i+1):=List.drop_eq_getElem_cons hil
  obtain ⟨x,hx⟩:∃x,r.items[i]=x:=⟨_,rfl⟩
  rw [hx] at hp hd
  have hxs:x.small:=hsm x (by rw [← hx];exact List.getElem_mem hil)
  obtain ⟨cs,f,hcs,hxr⟩:=hI.rows.get i x hp
  obtain ⟨bi,hiv,hbi,_⟩:=hI.items.at hil
  have e:=ec23a kOc T σ
  have d1:decide ((i:Int)<(r.items.length:Int))=true:=by simp;omega
  have w1:IntKind.i64.wrap ((i:Int)+1)=((i+1:Nat):Int):=i64_add1 i (by omega)
  have hl7:=hxr.len
  have ld1:loadV tab σ 41 (.ptr bi (i*7))= .ok (.agg cs):=lda a41 hbi (rows_at 7 rows hI.rows.lens.1 i cs hcs) hl7
  obtain ⟨iv',av',vv',g1',g2',g3',hcs',_⟩:=hxr.is
  have hC:=At.new σ (.cells [intV .i64 0,intV .i64 0,nilS,nilS,nilS,intV .i64 0,intV .i64 0] 41 true 7)
  have hst:storeV tab (σ.push (.cells [intV .i64 0,intV .i64 0,nilS,nilS,nilS,intV .i64 0,intV .i64 0] 41 true 7)) 41 (.ptr σ.n 0) (.agg cs)= .ok ((σ.push (.cells [intV .i64 0,intV .i64 0,nilS,nilS,nilS,intV .i64 0,intV .i64 0] 41 true 7)).set σ.n (.cells cs 41 true 7)):=by
   have:=stv (o:=0) (x:= .agg cs) sz41 hC hl7 (by omega) (by simp) hxr.one
   rw [this]
   rw [hcs'];rfl
  obtain ⟨σ2,hσ2⟩:∃σ2,σ2=(σ.push (.cells [intV .i64 0,intV .i64 0,nilS,nilS,nilS,intV .i64 0,intV .i64 0] 41 true 7)).set σ.n (.cells cs 41 true 7):=⟨_,rfl⟩
  rw [← hσ2] at hst
  have hD:At σ2 σ.n (.cells cs 41 true 7):=by rw [hσ2];exact hC.set_same (WF.push hw _) _
  have hg:Grow σ σ2:=by rw [hσ2];exact (Grow.push _ _).set (Nat.le_refl _) hC.1 _
  have ld2:loadV tab σ2 41 (.ptr σ.n 0)= .ok (.agg cs):=lda a41 hD (by rw [List.drop_zero];exact List.take_of_length_le (by omega)) hl7
  obtain ⟨σ3,k1,k2⟩:=W48 σ2 (hg.wf hw) cs x hxs f (hxr.grow hg)
  have hg3:=hg.trans k2
  simp only [mv_eq,g1_eq,g2_eq,g3_eq,bindR_val,h60,h61,h62,binOp_int,intOp_lss,d1,condR_boolV,condT,hiv,ixA0 el33 hil,ld1,alloc41,hst,ld2,k1,retK_ret,intOp_neq,intOp_add,w1,kOc_nxt,kOc_ret] at e
  cases hb:itemRight x !=0 with
  | true=>
   rw [hb] at e
   simp only [condT] at e
   refine ⟨_,σ3,itemRight x,hg3,?_,.inl ⟨hb,loop_ret (dd_of tab W 85 e),?_⟩⟩
   ·rw [hd,List.map_cons,firstE,hb];rfl
   ·simp (decide:=true) only [puts_cons,puts_nil,putE_same]
  | false=>
   rw [hb] at e
   simp only [condF] at e
   have key:∃T1,denK tab W 85 c23a kOc T σ= .ok (.nxt T1 σ3)∧T1 1= .ptr b 0∧T1 60=iv∧T1 61=intV .i64 (r.items.length:Int)∧T1 62=intV .i64 ((i+1:Nat):Int):=by
    refine ⟨_,e,?_,?_,?_,?_⟩<;>simp (decide:=true) only [puts_cons,puts_nil,putE_same,putE_ne,h1,h60,h61,hiv]
   obtain ⟨T1,e1,k1,k60,k61,k62⟩:=key
   obtain ⟨T',σ',ee,q1,q2,q3⟩:=ih (i+1) (by omega) T1 σ3 (hg3.wf hw) (hI.grow hg3) k1 k60 k61 k62
   refine ⟨T',σ',ee,hg3.trans q1,?_,?_⟩
   ·rw [hd,List.map_cons,firstE,hb];exact q2
   ·rcases q3 with ⟨p1,p2,p3⟩ | ⟨p1,p2,p3⟩
    ·exact .inl ⟨p1,loop_next (dd_of tab W 85 e1) p2,p3⟩
    ·exact .inr ⟨p1,loop_next (dd_of tab W 85 e1) p2,p3⟩
end Go.Proofs.YtahgmmbmmcaejaaGreatDoor
namespace Go.Proofs.YtahgmmbmmcaejaaGreatDoor
open Go Go.Dt
set_option maxRecDepth 100000
theorem loop23b(b:Nat)(r:RepD)(iv rv:AV)(rows:List (List AV))(f1 f2 f3:List Nat)(h65:r.recs.length<1000000):∀(m i:Nat),i+m=r.recs.length→∀(T:Rg) (σ:St),WF σ→InRep σ b r iv rv rows f1 f2 f3→
  T 1= .ptr b 0→T 73=rv→T 74=intV .i64 (r.recs.length:Int)→T 75=intV .i64 (i:Int)→
  ∃T' σ' e,Grow σ σ'∧e=firstE ((r.recs.drop i).map recRight) 0∧(((e !=0)=true∧loopLim (dd tab W 85 c23b) T σ= .ok (.ret T' σ')∧T' 2=intV .i64 e)∨
   ((e !=0)=false∧loopLim (dd tab W 85 c23b) T σ= .ok (.exit 3 T' σ')∧T' 1= .ptr b 0)):=by
 intro m
 induction m with
 | zero=>
  intro i hi T σ hw hI h1 h73 h74 h75
  have e:=ec23b kOc T σ
  have d1:decide ((i:Int)<(r.recs.length:Int))=false:=by simp;omega
  simp only [g1_eq,bindR_val,h74,h75,binOp_int,intOp_lss,d1,condR_boolV,condF,kOc_exit] at e
  refine ⟨_,σ,0,Grow.refl _,?_,.inr ⟨rfl,loop_exit (dd_of tab W 85 e),?_⟩⟩
  ·rw [List.drop_eq_nil_of_le (by omega:r.recs.length≤i)];rfl
  ·simp (decide:=true) only [puts_cons,puts_nil,putE_ne,h1]
 | succ m ih=>
  intro i hi T σ hw hI h1 h73 h74 h75
  have hil:i<r.recs.length:=by omega
  have hp:r.recs[i]? =some r.recs[i]:=List.getElem?_eq_getElem hil
  have hd:r.recs.drop i=r.recs[i]::r.recs.drop (i+1):=List.drop_eq_getElem_cons hil
  obtain ⟨x,hx⟩:∃x,r.recs[i]=x:=⟨_,rfl⟩
  rw [hx] at hp hd
  obtain ⟨bi,hiv,hbi,_⟩:=hI.recs.at hil
  have e:=ec23b kOc T σ
  have d1:decide ((i:Int)<(r.recs.length:Int))=true:=by simp;omega
  have w1:IntKind.i64.wrap ((i:Int)+1)=((i+1:Nat):Int):=i64_add1 i (by omega)
  have ld1:loadV tab σ 77 (.ptr bi (i*6))= .ok (.agg (recC x)):=lda a77 hbi (flat_at recC 6 recC_len _ i x hp) rfl
  have hC:=At.new σ (.cells [intV .i64 0,intV .u64 0,intV .u64 0,intV .u64 0,intV .u64 0,intV .u64 0] 77 true 6)
  have hst:storeV tab (σ.push (.cells [intV .i64 0,intV .u64 0,intV .u64 0,intV .u64 0,intV .u64 0,intV .u64 0] 77 true 6)) 77 (.ptr σ.n 0) (.agg (recC x))= .ok ((σ.push (.cells [intV .i64 0,intV .u64 0,intV .u64 0,intV .u64 0,intV .u64 0,intV .u64 0] 77 true 6)).set σ.n (.cells (recC x) 77 true 6)):=by
   exact stv (o:=0) (x:= .agg (recC x)) sz77 hC rfl (by omega) (by simp) rfl
  obtain ⟨σ2,hσ2⟩:∃σ2,σ2=(σ.push (.cells [intV .i64 0,intV .u64 0,intV .u64 0,intV .u64 0,intV .u64 0,intV .u64 0] 77 true 6)).set σ.n (.cells (recC x) 77 true 6):=⟨_,rfl⟩
  rw [← hσ2] at hst
  have hD:At σ2 σ.n (.cells (recC x) 77 true 6):=by rw [hσ2];exact hC.set_same (WF.push hw _) _
  have hg:Grow σ σ2:=by rw [hσ2];exact (Grow.push _ _).set (Nat.le_refl _) hC.1 _
  have ld2:loadV tab σ2 77 (.ptr σ.n 0)= .ok (.agg (recC x)):=lda a77 hD rfl rfl
  obtain ⟨σ3,k1,k2⟩:=W49 x σ2
  have hg3:=hg.trans k2
  simp only [mv_eq,g1_eq,g2_eq,g3_eq,bindR_val,h73,h74,h75,binOp_int,intOp_lss,d1,condR_boolV,condT,hiv,ixA0 el34 hil,ld1,alloc77,hst,ld2,k1,retK_ret,intOp_neq,intOp_add,w1,kOc_nxt,kOc_ret] at e
  cases hb:recRight x !=0 with
  | true=>
   rw [hb] at e
   simp only [condT] at e
   refine ⟨_,σ3,recRight x,hg3,?_,.inl ⟨hb,loop_ret (dd_of tab W 85 e),?_⟩⟩
   ·rw [hd,List.map_cons,firstE,hb];rfl
   ·simp (decide:=true) only [puts_cons,puts_nil,putE_same]
  | false=>
   rw [hb] at e
   simp only [condF] at e
   have key:∃T1,denK tab W 85 c23b kOc T σ= .ok (.nxt T1 σ3)∧T1 1= .ptr b 0∧T1 73=rv∧T1 74=intV .i64 (r.recs.length:Int)∧T1 75=intV .i64 ((i+1:Nat):Int):=by
    refine ⟨_,e,?_,?_,?_,?_⟩<;>simp (decide:=true) only [puts_cons,puts_nil,putE_same,putE_ne,h1,h73,h74,hiv]
   obtain ⟨T1,e1,k1,k73,k74,k75⟩:=key
   obtain ⟨T',σ',ee,q1,q2,q3⟩:=ih (i+1) (by omega) T1 σ3 (hg3.wf hw) (hI.grow hg3) k1 k73 k74 k75
   refine ⟨T',σ',ee,hg3.trans q1,?_,?_⟩
   ·rw [hd,List.map_cons,firstE,hb];exact q2
   ·rcases q3 with ⟨p1,p2,p3⟩ | ⟨p1,p2,p3⟩
    ·exact .inl ⟨p1,loop_next (dd_of tab W 85 e1) p2,p3⟩
    ·exact .inr ⟨p1,loop_next (dd_of tab W 85 e1) p2,p3⟩
theorem loop25a(b:Nat)(r:RepD)(iv rv:AV)(rows:List (List AV))(f1 f2 f3:List Nat)(h65:r.items.length<1000000):∀(m i:Nat),i+m=r.items.length→∀(T:Rg) (σ:St),WF σ→InRep σ b r iv rv rows f1 f2 f3→
  T 1= .ptr b 0→T 3=intV .i64 (i:Int)→
  ∃T' σ' e,Grow σ σ'∧e=firstE ((r.items.drop i).map itemRight) 0∧(((e !=0)=true∧loopLim (dd tab W 87 c25a) T σ= .ok (.ret T' σ')∧T' 2=intV .i64 e)∨
   ((e !=0)=false∧loopLim (dd tab W 87 c25a) T σ= .ok (.exit 0 T' σ')∧T' 1= .ptr b 0)):=by
 intro m
 induction m with
 | zero=>
  intro i hi T σ hw hI h1 h3
  have e:=ec25a kOc T σ
  have d1:decide ((i:Int)<(r.items.length:Int))=false:=by simp;omega
  have hA:=hI.at'
  simp only [mv_eq,g1_eq,bindR_val,h1,h3,fa36_4,Nat.zero_add,ld l33 hA (o:=4) rfl,hI.items.lenV sl33,binOp_int,intOp_lss,d1,condR_boolV,condF,kOc_exit] at e
  refine ⟨_,σ,0,Grow.refl _,?_,.inr ⟨rfl,loop_exit (dd_of tab W 87 e),?_⟩⟩
  ·rw [List.drop_eq_nil_of_le (by omega:r.items.length≤i)];rfl
  ·simp (decide:=true) only [puts_cons,puts_nil,putE_ne,h1]
 | succ m ih=>
  intro i hi T σ hw hI h1 h3
  have hil:i<r.items.length:=by omega
  have hp:r.items[i]? =some r.items[i]:=List.getElem?_eq_getElem hil
  have hd:r.items.drop i=r.items[i]::r.items.drop (i+1):=List.drop_eq_getElem_cons hil
  obtain ⟨x,hx⟩:∃x,r.items[i]=x:=⟨_,rfl⟩
  rw [hx] at hp hd
  obtain ⟨cs,f,hcs,hxr⟩:=hI.rows.get i x hp
  obtain ⟨bi,hiv,hbi,_⟩:=hI.items.at hil
  have e:=ec25a kOc T σ
  have d1:decide ((i:Int)<(r.items.length:Int))=true:=by simp;omega
  have w1:IntKind.i64.wrap ((i:Int)+1)=((i+1:Nat):Int):=i64_add1 i (by omega)
  have hl7:=hxr.len
  have ld1:loadV tab σ 41 (.ptr bi (i*7))= .ok (.agg cs):=lda a41 hbi (rows_at 7 rows hI.rows.lens.1 i cs hcs) hl7
  obtain ⟨σ3,k1,k2⟩:=W53 σ hw cs x f hxr
  have hg3:=k2
  have hA:=hI.at'
  simp only [mv_eq,g1_eq,g2_eq,bindR_val,h1,h3,fa36_4,Nat.zero_add,ld l33 hA (o:=4) rfl,hiv,len_sl sl33,binOp_int,intOp_lss,d1,condR_boolV,condT,ixA0 el33 hil,ld1,k1,retK_ret,intOp_neq,intOp_add,w1,kOc_nxt,kOc_ret] at e
  cases hb:itemRight x !=0 with
  | true=>
   rw [hb] at e
   simp only [condT] at e
   refine ⟨_,σ3,itemRight x,hg3,?_,.inl ⟨hb,loop_ret (dd_of tab W 87 e),?_⟩⟩
   ·rw [hd,List.map_cons,firstE,hb];rfl
   ·simp (decide:=true) only [puts_cons,puts_nil,putE_same]
  | false=>
   rw [hb] at e
   simp only [condF] at e
   have key:∃T1,denK tab W 87 c25a kOc T σ= .ok (.nxt T1 σ3)∧T1 1= .ptr b 0∧T1 3=intV .i64 ((i+1:Nat):Int):=by
    refine ⟨_,e,?_,?_⟩<;>simp (decide:=true) only [puts_cons,puts_nil,putE_same,putE_ne,h1]
   obtain ⟨T1,e1,k1,k3⟩:=key
   obtain ⟨T',σ',ee,q1,q2,q3⟩:=ih (i+1) (by omega) T1 σ3 (hg3.wf hw) (hI.grow hg3) k1 k3
   refine ⟨T',σ',ee,hg3.trans q1,?_,?_⟩
   ·rw [hd,List.map_cons,firstE,hb];exact q2
   ·rcases q3 with ⟨p1,p2,p3⟩ | ⟨p1,p2,p3⟩
    ·exact .inl ⟨p1,loop_next (dd_of tab W 87 e1) p2,p3⟩
    ·exact .inr ⟨p1,loop_next (dd_of tab W 87 e1) p2,p3⟩
theorem loop25b(b:Nat)(r:RepD)(iv rv:AV)(rows:List (List AV))(f1 f2 f3:List Nat)(h65:r.recs.length<1000000):∀(m i:Nat),i+m=r.recs.length→∀(T:Rg) (σ:St),WF σ→InRep σ b r iv rv rows f1 f2 f3→
  T 1= .ptr b 0→T 5=intV .i64 (i:Int)→
  ∃T' σ' e,Grow σ σ'∧e=firstE ((r.recs.drop i).map recRight) 0∧(((e !=0)=true∧loopLim (dd tab W 87 c25b) T σ= .ok (.ret T' σ')∧T' 2=intV .i64 e)∨
   ((e !=0)=false∧loopLim (dd tab W 87 c25b) T σ= .ok (.exit 2 T' σ')∧T' 1= .ptr b 0)):=by
 intro m
 induction m with
 | zero=>
  intro i hi T σ hw hI h1 h5
  have e:=ec25b kOc T σ
  have d1:decide ((i:Int)<(r.recs.length:Int))=false:=by simp;omega
  have hA:=hI.at'
  simp only [mv_eq,g1_eq,bindR_val,h1,h5,fa36_5,Nat.zero_add,ld l34 hA (o:=5) rfl,hI.recs.lenV sl34,binOp_int,intOp_lss,d1,condR_boolV,condF,kOc_exit] at e
  refine ⟨_,σ,0,Grow.refl _,?_,.inr ⟨rfl,loop_exit (dd_of tab W 87 e),?_⟩⟩
  ·rw [List.drop_eq_nil_of_le (by omega:r.recs.length≤i)];rfl
  ·simp (decide:=true) only [puts_cons,puts_nil,putE_ne,h1]
 | succ m ih=>
  intro i hi T σ hw hI h1 h5
  have hil:i<r.recs.length:=by omega
  have hp:r.recs[i]? =some r.recs[i]:=List.getElem?_eq_getElem hil
  have hd:r.recs.drop i=r.recs[i]::r.recs.drop (i+1):=List.drop_eq_getElem_cons hil
  obtain ⟨x,hx⟩:∃x,r.recs[i]=x:=⟨_,rfl⟩
  rw [hx] at hp hd
  obtain ⟨bi,hiv,hbi,_⟩:=hI.recs.at hil
  have e:=ec25b kOc T σ
  have d1:decide ((i:Int)<(r.recs.length:Int))=true:=by simp;omega
  have w1:IntKind.i64.wrap ((i:Int)+1)=((i+1:Nat):Int):=i64_add1 i (by omega)
  have ld1:loadV tab σ 77 (.ptr bi (i*6))= .ok (.agg (recC x)):=lda a77 hbi (flat_at recC 6 recC_len _ i x hp) rfl
  obtain ⟨σ3,k1,k2⟩:=W54 x σ
  have hg3:=k2
  have hA:=hI.at'
  simp only [mv_eq,g1_eq,g2_eq,bindR_val,h1,h5,fa36_5,Nat.zero_add,ld l34 hA (o:=5) rfl,hiv,len_sl sl34,binOp_int,intOp_lss,d1,condR_boolV,condT,ixA0 el34 hil,ld1,k1,retK_ret,intOp_neq,intOp_add,w1,kOc_nxt,kOc_ret] at e
  cases hb:recRight x !=0 with
  | true=>
   rw [hb] at e
   simp only [condT] at e
   refine ⟨_,σ3,recRight x,hg3,?_,.inl ⟨hb,loop_ret (dd_of tab W 87 e),?_⟩⟩
   ·rw [hd,List.map_cons,firstE,hb];rfl
   ·simp (decide:=true) only [puts_cons,puts_nil,putE_same]
  | false=>
   rw [hb] at e
   simp only [condF] at e
   have key:∃T1,denK tab W 87 c25b kOc T σ= .ok (.nxt T1 σ3)∧T1 1= .ptr b 0∧T1 5=intV .i64 ((i+1:Nat):Int):=by
    refine ⟨_,e,?_,?_⟩<;>simp (decide:=true) only [puts_cons,puts_nil,putE_same,putE_ne,h1]
   obtain ⟨T1,e1,k1,k5⟩:=key
   obtain ⟨T',σ',ee,q1,q2,q3⟩:=ih (i+1) (by omega) T1 σ3 (hg3.wf hw) (hI.grow hg3) k1 k5
   refine ⟨T',σ',ee,hg3.trans q1,?_,?_⟩
   ·rw [hd,List.map_cons,firstE,hb];exact q2
   ·rcases q3 with ⟨p1,p2,p3⟩ | ⟨p1,p2,p3⟩
    ·exact .inl ⟨p1,loop_next (dd_of tab W 87 e1) p2,p3⟩
    ·exact .inr ⟨p1,loop_next (dd_of tab W 87 e1) p2,p3⟩
theorem W23(σ:St)(hw:WF σ)(cs:List AV)(r:RepD)(hsm:∀x∈r.items,x.small)(hi65:r.items.length<1000000)(hr65:r.recs.length<1000000)(fp:List Nat)(hx:RepR σ cs r fp):∃σ',W 23 [.agg cs] σ= .ok (.ret (intV .i64 (oneS r)),σ')∧Grow σ σ':=by
 obtain ⟨iv,rv,rows,f1,f2,f3,rfl,hi,hrw,hrc,_⟩:=hx.is
 have e:=ec23 (kRet tab [.tmp 2]) (.agg [intV .i64 r.to,intV .i64 r.err,intV .i64 r.at',intV .i64 r.num,iv,rv]) σ
 obtain ⟨σ1,hσ1⟩:∃σ1,σ1=σ.push (.cells [intV .i64 r.to,intV .i64 r.err,intV .i64 r.at',intV .i64 r.num,iv,rv] 36 true 6):=⟨_,rfl⟩
 have hg:Grow σ σ1:=by rw [hσ1];exact Grow.push _ _
 have hA:At σ1 σ.n (.cells [intV .i64 r.to,intV .i64 r.err,intV .i64 r.at',intV .i64 r.num,iv,rv] 36 true 6):=by rw [hσ1];exact At.new _ _
 have hI:InRep σ1 σ.n r iv rv rows f1 f2 f3:=⟨hA,hi.grow hg,hrw.grow hg,hrc.grow hg⟩
 have hhb:(decide (r.to<0) || decide (r.to>6) || decide (r.err<0) || decide (r.err>23) || decide (r.at'<0) || decide (r.at'>20000) || decide (r.num<0) || decide (r.num>1099511627776))=headBad r:=rfl
 simp only [mv_eq,g1_eq,bindR_val,box36,← hσ1,fa36_0,fa36_1,fa36_2,fa36_3,fa36_4,fa36_5,Nat.zero_add,ld l3 hA (o:=0) rfl,ld l24 hA (o:=1) rfl,ld l3 hA (o:=2) rfl,ld l3 hA (o:=3) rfl,binOp_int,intOp_lss,intOp_gtr,isBoolV_f,bindR_cond,cond_loadV,cond_binl,pick_or,condR_boolV,hhb] at e
 unfold oneS
 cases hb:headBad r with
 | true=>
  simp (decide:=true) only [hb,condT,r23,puts_cons,puts_nil,putE_same] at e ⊢
  exact ⟨_,w23 (by simp) e,hg⟩
 | false=>
 simp (decide:=true) only [hb,condF,ld l33 hA (o:=4) rfl,ld l34 hA (o:=5) rfl,hI.items.lenV sl33,hI.recs.lenV sl34,bindR_val,binOp_int,intOp_gtr,isBoolV_f,bindR_cond,cond_len,cond_binl,pick_or,condR_boolV] at e ⊢
 cases hl:decide ((r.items.length:Int)>65) || decide ((r.recs.length:Int)>64) with
 | true=>
  simp (decide:=true) only [hl,condT,r23,puts_cons,puts_nil,putE_same] at e ⊢
  exact ⟨_,w23 (by simp) e,hg⟩
 | false=>
 simp only [hl,condF] at e ⊢
 have tail2:∀(T:Rg) (σ2:St),Grow σ1 σ2→T 1= .ptr σ.n 0→denK tab W 85 c23 (kRet tab [.tmp 2]) (argE [.agg [intV .i64 r.to,intV .i64 r.err,intV .i64 r.at',intV .i64 r.num,iv,rv]]) σ=denK tab W 85 c23c (kRet tab [.tmp 2]) T σ2→
   ∃σ',W 23 [.agg [intV .i64 r.to,intV .i64 r.err,intV .i64 r.at',intV .i64 r.num,iv,rv]] σ= .ok (.ret (intV .i64 (firstE (r.recs.map recRight) 0)),σ')∧Grow σ σ':=by
  intro T σ2 hg2 h1 e
  have hI2:=hI.grow hg2
  have hA2:=hI2.at'
  have e2:=ec23c (kRet tab [.tmp 2]) T σ2
  simp only [mv_eq,g1_eq,bindR_val,h1,fa36_5,Nat.zero_add,ld l34 hA2 (o:=5) rfl,hI.recs.lenV sl34] at e2
  obtain ⟨T',σ',ee,q1,q2,q3⟩:=loop23b σ.n r iv rv rows f1 f2 f3 hr65 r.recs.length 0 (by omega) (σ:=σ2) (hg2.wf (hg.wf hw)) hI2 (T:=puts 85 T [(72,.ptr σ.n 5),(73,rv),(74,intV .i64 (r.recs.length:Int)),(75,intV .i64 0)])
   (by simp (decide:=true) only [puts_cons,puts_nil,putE_ne,h1]) (by simp (decide:=true) only [puts_cons,puts_nil,putE_same,putE_ne]) (by simp (decide:=true) only [puts_cons,puts_nil,putE_same,putE_ne]) (by simp (decide:=true) only [puts_cons,puts_nil,putE_same];rfl)
  rw [List.drop_zero] at q2
  rcases q3 with ⟨p1,p2,p3⟩ | ⟨p1,p2,p3⟩
  ·rw [p2] at e2
   simp only [bindR_val,app_ret,kblk_ret,kseq_ret,r23,p3] at e2
   rw [← q2]
   exact ⟨σ',w23 (by simp) (e.trans e2),(hg.trans hg2).trans q1⟩
  ·rw [p2] at e2
   simp (decide:=true) only [bindR_val,app_exit,kblk_exit,if_true,kseq_nxt,ec23d,mv_eq,puts_cons,puts_nil,r23,putE_same] at e2
   have:ee=0:=by simpa using p1
   rw [← q2,this]
   exact ⟨σ',w23 (by simp) (e.trans e2),(hg.trans hg2).trans q1⟩
 have tail:∀T0:Rg,T0 1= .ptr σ.n 0→T0 60=iv→T0 61=intV .i64 (r.items.length:Int)→T0 62=intV .i64 ((0:Nat):Int)→
   denK tab W 85 c23 (kRet tab [.tmp 2]) (argE [.agg [intV .i64 r.to,intV .i64 r.err,intV .i64 r.at',intV .i64 r.num,iv,rv]]) σ=bindR (loopLim (dd tab W 85 c23a) T0 σ1) (K.app (kblk 1 (kseq (denK tab W 85 c23c (kRet tab [.tmp 2])) (kRet tab [.tmp 2]))))→
   ∃σ',W 23 [.agg [intV .i64 r.to,intV .i64 r.err,intV .i64 r.at',intV .i64 r.num,iv,rv]] σ= .ok (.ret (intV .i64 (firstE (r.items.map itemRight) (firstE (r.recs.map recRight) 0))),σ')∧Grow σ σ':=by
  intro T0 k1 k60 k61 k62 e
  obtain ⟨T',σ',ee,q1,q2,q3⟩:=loop23a σ.n r iv rv rows f1 f2 f3 hsm hi65 r.items.length 0 (by omega) T0 σ1 (hg.wf hw) hI k1 k60 k61 k62
  rw [List.drop_zero] at q2
  rw [firstE_d,← q2]
  rcases q3 with ⟨p1,p2,p3⟩ | ⟨p1,p2,p3⟩
  ·rw [p2] at e
   simp only [bindR_val,app_ret,kblk_ret,kseq_ret,r23,p3] at e
   rw [p1]
   exact ⟨σ',w23 (by simp) e,hg.trans q1⟩
  ·rw [p2] at e
   simp (decide:=true) only [bindR_val,app_exit,kblk_exit,if_true,kseq_nxt] at e
   rw [p1]
   exact tail2 T' σ' q1 p3 e
 refine tail _ ?_ ?_ ?_ ?_ e<;>simp (decide:=true) only [puts_cons,puts_nil,putE_same,putE_ne]<;>rfl
theorem W25(σ:St)(hw:WF σ)(cs:List AV)(r:RepD)(hi65:r.items.length<1000000)(hr65:r.recs.length<1000000)(fp:List Nat)(hx:RepR σ cs r fp):∃σ',W 25 [.agg cs] σ= .ok (.ret (intV .i64 (oneS r)),σ')∧Grow σ σ':=by
 obtain ⟨iv,rv,rows,f1,f2,f3,rfl,hi,hrw,hrc,_⟩:=hx.is
 have e:=ec25 (kRet tab [.tmp 2]) (.agg [intV .i64 r.to,intV .i64 r.err,intV .i64 r.at',intV .i64 r.num,iv,rv]) σ
 obtain ⟨σ1,hσ1⟩:∃σ1,σ1=σ.push (.cells [intV .i64 r.to,intV .i64 r.err,intV .i64 r.at',intV .i64 r.num,iv,rv] 36 true 6):=⟨_,rfl⟩
 have hg:Grow σ σ1:=by rw [hσ1];exact Grow.push _ _
 have hA:At σ1 σ.n (.cells [intV .i64 r.to,intV .i64 r.err,intV .i64 r.at',intV .i64 r.num,iv,rv] 36 true 6):=by rw [hσ1];exact At.new _ _
 have hI:InRep σ1 σ.n r iv rv rows f1 f2 f3:=⟨hA,hi.grow hg,hrw.grow hg,hrc.grow hg⟩
 have hhb:(decide (r.to<0) || decide (r.to>6) || decide (r.err<0) || decide (r.err>23) || decide (r.at'<0) || decide (r.at'>20000) || decide (r.num<0) || decide (r.num>1099511627776))=headBad r:=rfl
 simp only [mv_eq,g1_eq,bindR_val,box36,← hσ1,fa36_0,fa36_1,fa36_2,fa36_3,Nat.zero_add,ld l3 hA (o:=0) rfl,ld l24 hA (o:=1) rfl,ld l3 hA (o:=2) rfl,ld l3 hA (o:=3) rfl,binOp_int,intOp_lss,intOp_gtr,isBoolV_f,bindR_cond,cond_loadV,cond_binl,pick_or,condR_boolV,hhb] at e
 unfold oneS
 cases hb:headBad r with
 | true=>
  simp (decide:=true) only [hb,condT,r25,puts_cons,puts_nil,putE_same] at e ⊢
  exact ⟨_,w25 (by simp) e,hg⟩
 | false=>
 have tail2:∀(T:Rg) (σ2:St),Grow σ1 σ2→T 1= .ptr σ.n 0→denK tab W 87 c25 (kRet tab [.tmp 2]) (argE [.agg [intV .i64 r.to,intV .i64 r.err,intV .i64 r.at',intV .i64 r.num,iv,rv]]) σ=denK tab W 87 c25c (kRet tab [.tmp 2]) T σ2→
   ∃σ',W 25 [.agg [intV .i64 r.to,intV .i64 r.err,intV .i64 r.at',intV .i64 r.num,iv,rv]] σ= .ok (.ret (intV .i64 (firstE (r.recs.map recRight) 0)),σ')∧Grow σ σ':=by
  intro T σ2 hg2 h1 e
  have hI2:=hI.grow hg2
  have hA2:=hI2.at'
  have e2:=ec25c (kRet tab [.tmp 2]) T σ2
  simp only [mv_eq,bindR_val] at e2
  obtain ⟨T',σ',ee,q1,q2,q3⟩:=loop25b σ.n r iv rv rows f1 f2 f3 hr65 r.recs.length 0 (by omega) (T:=puts 87 T [(5,intV .i64 0)]) σ2 (hg2.wf (hg.wf hw)) hI2
   (by simp (decide:=true) only [puts_cons,puts_nil,putE_ne,h1]) (by simp (decide:=true) only [puts_cons,puts_nil,putE_same];rfl)
  rw [List.drop_zero] at q2
  rcases q3 with ⟨p1,p2,p3⟩ | ⟨p1,p2,p3⟩
  ·rw [p2] at e2
   simp only [bindR_val,app_ret,kblk_ret,kseq_ret,r25,p3] at e2
   rw [← q2]
   exact ⟨σ',w25 (by simp) (e.trans e2),(hg.trans hg2).trans q1⟩
  ·rw [p2] at e2
   simp (decide:=true) only [bindR_val,app_exit,kblk_exit,if_true,kseq_nxt,ec25d,mv_eq,puts_cons,puts_nil,r25,putE_same] at e2
   have:ee=0:=by simpa using p1
   rw [← q2,this]
   exact ⟨σ',w25 (by simp) (e.trans e2),(hg.trans hg2).trans q1⟩
 have tail:∀T0:Rg,T0 1= .ptr σ.n 0→
   denK tab W 87 c25 (kRet tab [.tmp 2]) (argE [.agg [intV .i64 r.to,intV .i64 r.err,intV .i64 r.at',intV .i64 r.num,iv,rv]]) σ=denK tab W 87 c25e (kRet tab [.tmp 2]) T0 σ1→
   ∃σ',W 25 [.agg [intV .i64 r.to,intV .i64 r.err,intV .i64 r.at',intV .i64 r.num,iv,rv]] σ= .ok (.ret (intV .i64 (bif decide ((r.items.length:Int)>65) || decide ((r.recs.length:Int)>64) then 6 else firstE (r.items.map itemRight) (firstE (r.recs.map recRight) 0))),σ')∧Grow σ σ':=by
  intro T0 k1 e
  have e2:=ec25e (kRet tab [.tmp 2]) T0 σ1
  simp (decide:=true) only [mv_eq,g1_eq,k1,fa36_4,fa36_5,Nat.zero_add,ld l33 hA (o:=4) rfl,ld l34 hA (o:=5) rfl,hI.items.lenV sl33,hI.recs.lenV sl34,bindR_val,binOp_int,intOp_gtr,isBoolV_f,bindR_cond,cond_loadV,cond_len,cond_binl,pick_or,condR_boolV] at e2
  cases hl:decide ((r.items.length:Int)>65) || decide ((r.recs.length:Int)>64) with
  | true=>
   simp (decide:=true) only [hl,condT,r25,puts_cons,puts_nil,putE_same] at e2 ⊢
   exact ⟨_,w25 (by simp) (e.trans e2),hg⟩
  | false=>
  simp (decide:=true) only [hl,condF,ec25f,mv_eq,bindR_val] at e2 ⊢
  obtain ⟨T1,hT1⟩:∃T1,T1=T0:=⟨_,rfl⟩
  have tail3:∀T2:Rg,T2 1= .ptr σ.n 0→T2 3=intV .i64 ((0:Nat):Int)→
    denK tab W 87 c25e (kRet tab [.tmp 2]) T0 σ1=bindR (loopLim (dd tab W 87 c25a) T2 σ1) (K.app (kblk 0 (kseq (denK tab W 87 c25c (kRet tab [.tmp 2])) (kRet tab [.tmp 2]))))→
    ∃σ',W 25 [.agg [intV .i64 r.to,intV .i64 r.err,intV .i64 r.at',intV .i64 r.num,iv,rv]] σ= .ok (.ret (intV .i64 (firstE (r.items.map itemRight) (firstE (r.recs.map recRight) 0))),σ')∧Grow σ σ':=by
   intro T2 k1 k3 e2
   obtain ⟨T',σ',ee,q1,q2,q3⟩:=loop25a σ.n r iv rv rows f1 f2 f3 hi65 r.items.length 0 (by omega) T2 σ1 (hg.wf hw) hI k1 k3
   rw [List.drop_zero] at q2
   rw [firstE_d,← q2]
   rcases q3 with ⟨p1,p2,p3⟩ | ⟨p1,p2,p3⟩
   ·rw [p2] at e2
    simp only [bindR_val,app_ret,kblk_ret,kseq_ret,r25,p3] at e2
    rw [p1]
    exact ⟨σ',w25 (by simp) (e.trans e2),hg.trans q1⟩
   ·rw [p2] at e2
    simp (decide:=true) only [bindR_val,app_exit,kblk_exit,if_true,kseq_nxt] at e2
    rw [p1]
    exact tail2 T' σ' q1 p3 (e.trans e2)
  refine tail3 _ ?_ ?_ e2<;>simp (decide:=true) only [puts_cons,puts_nil,putE_same,putE_ne,k1]<;>rfl
 simp only [hb,condF] at e ⊢
 refine tail _ ?_ e
 simp (decide:=true) only [puts_cons,puts_nil,putE_same,putE_ne]
end Go.Proofs.YtahgmmbmmcaejaaGreatDoor
namespace Go.Proofs.YtahgmmbmmcaejaaGreatDoor
open Go Go.Dt
theorem sN:(∀(x:AV),mv x=Except.ok x)∧(∀(x:R AV),g1 x=x)∧(∀(σ:St) (x:R (AEnd×St)),g2 σ x=x)∧(∀(σ:St) (x:R St),g3 σ x=x)∧(∀(σ:St) (x:R (AV×St)),g4 σ x=x)∧(∀ {α β:Type} (a:α) (f:α→R β),bindR (Except.ok a) f=f a)∧(∀ {ρ:Type} (v:AV) (σ:St) (k kp:AV→St→R ρ),retK (AEnd.ret v,σ) k kp=k v σ)∧(∀ {ρ:Type} (b:Bool) (x y:R ρ),condR (boolV b) x y=bif b then x else y)∧(∀ {α:Type} (a b:α),(bif true then a else b)=a)∧(∀ {α:Type} (a b:α),(bif false then a else b)=b)∧(∀(b:Bool),isBoolV (boolV b) false= !b)∧(∀(b:Bool),isBoolV (boolV b) true=b)∧(∀(w:Bool),isBoolV AV.undef w=false)∧(!true)=false∧(!false)=true∧(∀ {D:Tab} (op:BinOp) (t:Nat) (k k':IntKind) (a b:Int) (c:Bool),Dt.binOp D op t (intV k a) (intV k' b) c=intOp op k k' a b)∧(∀ {D:Tab} (op:BinOp) (t:Nat) (a b:List UInt8) (c:Bool),Dt.binOp D op t (str a) (str b) c=strOp op a b)∧(∀(a b:List UInt8),strOp BinOp.eql a b=Except.ok (boolV (a==b)))∧(∀(a b:List UInt8),strOp BinOp.neq a b=Except.ok (boolV !a==b))∧(∀(b:Bool),Dt.unOp UnOp.not (boolV b)=Except.ok (boolV !b))∧(∀(k:IntKind) (a b:Int),intOp BinOp.add k k a b=Except.ok (intV k (IntKind.wrap k (a+b))))∧(∀(k:IntKind) (a b:Int),intOp BinOp.sub k k a b=Except.ok (intV k (IntKind.wrap k (a - b))))∧(∀(k:IntKind) (a b:Int),intOp BinOp.mul k k a b=Except.ok (intV k (IntKind.wrap k (a*b))))∧(∀(k:IntKind) (a b:Int),intOp BinOp.eql k k a b=Except.ok (boolV (a==b)))∧(∀(k:IntKind) (a b:Int),intOp BinOp.neq k k a b=Except.ok (boolV (a !=b)))∧(∀(k:IntKind) (a b:Int),intOp BinOp.lss k k a b=Except.ok (boolV (decide (a<b))))∧(∀(k:IntKind) (a b:Int),intOp BinOp.leq k k a b=Except.ok (boolV (decide (a≤b))))∧(∀(k:IntKind) (a b:Int),intOp BinOp.gtr k k a b=Except.ok (boolV (decide (a>b))))∧(∀(k:IntKind) (a b:Int),intOp BinOp.geq k k a b=Except.ok (boolV (decide (a≥b))))∧(∀(T:Rg) (σ:St),K.nxt kOc T σ=Except.ok (Oc.nxt T σ))∧(∀(T:Rg) (σ:St),K.ret kOc T σ=Except.ok (Oc.ret T σ))∧(∀(id:Nat) (T:Rg) (σ:St),K.exit kOc id T σ=Except.ok (Oc.exit id T σ))∧(∀ {ρ:Type} (k:K ρ) (T:Rg) (σ:St),K.app k (Oc.nxt T σ)=K.nxt k T σ)∧(∀ {ρ:Type} (k:K ρ) (id:Nat) (T:Rg) (σ:St),K.app k (Oc.exit id T σ)=K.exit k id T σ)∧(∀ {ρ:Type} (k:K ρ) (T:Rg) (σ:St),K.app k (Oc.ret T σ)=K.ret k T σ)∧(∀ {ρ:Type} (id id':Nat) (k:K ρ) (T:Rg) (σ:St),K.exit (kblk id k) id' T σ=if id'=id then K.nxt k T σ else K.exit k id' T σ)∧(∀ {ρ:Type} (id:Nat) (k:K ρ),K.nxt (kblk id k)=K.nxt k)∧(∀ {ρ:Type} (id:Nat) (k:K ρ),K.ret (kblk id k)=K.ret k)∧(∀ {ρ:Type} (f:Rg→St→R ρ) (k:K ρ),K.nxt (kseq f k)=f)∧(∀ {ρ:Type} (f:Rg→St→R ρ) (k:K ρ),K.ret (kseq f k)=K.ret k)∧(∀ {ρ:Type} (f:Rg→St→R ρ) (k:K ρ),K.exit (kseq f k)=K.exit k)∧(∀(a:AV) (l:List AV),extractV (AV.tuple (a::l)) 0=Except.ok a)∧(∀(a b:AV) (l:List AV),extractV (AV.tuple (a::b::l)) 1=Except.ok b)∧(∀(a b c:AV) (l:List AV),extractV (AV.tuple (a::b::c::l)) 2=Except.ok c)∧(∀(a b c d:AV) (l:List AV),extractV (AV.tuple (a::b::c::d::l)) 3=Except.ok d)∧∀(l:List UInt8),lenV tab 9 (str l)=Except.ok (intV IntKind.i64 ↑(List.length l)):=And.intro @mv_eq (And.intro @g1_eq (And.intro @g2_eq (And.intro @g3_eq (And.intro @g4_eq (And.intro @bindR_val (And.intro @retK_ret (And.intro @condR_boolV (And.intro @condT (And.intro @condF (And.intro @isBoolV_f (And.intro @isBoolV_t (And.intro @isBoolV_u (And.intro @Bool.not_true (And.intro @Bool.not_false (And.intro @binOp_int (And.intro @binOp_str (And.intro @strOp_eql (And.intro @strOp_neq (And.intro @unOp_not (And.intro @intOp_add (And.intro @intOp_sub (And.intro @intOp_mul (And.intro @intOp_eql (And.intro @intOp_neq (And.intro @intOp_lss (And.intro @intOp_leq (And.intro @intOp_gtr (And.intro @intOp_geq (And.intro @kOc_nxt (And.intro @kOc_ret (And.intro @kOc_exit (And.intro @app_nxt (And.intro @app_exit (And.intro @app_ret (And.intro @kblk_exit (And.intro @kblk_nxt (And.intro @kblk_ret (And.intro @kseq_nxt (And.intro @kseq_ret (And.intro @kseq_exit (And.intro @extractV_0 (And.intro @extractV_1 (And.intro @extractV_2 (And.intro @extractV_3 (@lenS)))))))))))))))))))))))))))))))))))))))))))))
theorem sR:(∀(N:Nat) (T:Rg) (d:Nat) (v:AV) (l:List (Nat×AV)),puts N T ((d,v)::l)=puts N (putE N T (some d) v) l)∧(∀(N:Nat) (T:Rg),puts N T []=T)∧(∀ {N:Nat} {T:Rg} {d:Tmp} {v:AV},d<N→putE N T (some d) v d=v)∧∀ {N:Nat} {T:Rg} {d:Tmp} {v:AV} {i:Nat},i≠d→putE N T (some d) v i=T i:=And.intro @puts_cons (And.intro @puts_nil (And.intro @putE_same (@putE_ne)))
theorem sC:(∀ {α β:Type} (b:Bool) (x y:α) (F:α→R β),bindR (bif b then Except.ok x else Except.ok y) F=F (bif b then x else y))∧(∀(c:Bool) (σ:St) (t:Nat) (x y:AV) (z:R AV),(bif c then loadV tab σ t (bif c then x else y) else z)=bif c then loadV tab σ t x else z)∧(∀(c:Bool) (t f:Nat) (x y:AV) (z:R AV),(bif c then fieldAddr tab t (bif c then x else y) f else z)=bif c then fieldAddr tab t x f else z)∧(∀(c:Bool) (t:Nat) (x y:AV) (z:R AV),(bif c then lenV tab t (bif c then x else y) else z)=bif c then lenV tab t x else z)∧(∀(c:Bool) (op:BinOp) (t:Nat) (k:Bool) (x y w:AV) (z:R AV),(bif c then Dt.binOp tab op t (bif c then x else y) w k else z)=bif c then Dt.binOp tab op t x w k else z)∧(∀(c:Bool) (x y:AV) (z:R AV),(bif c then Except.ok (bif c then x else y) else z)=bif c then Except.ok x else z)∧(∀(c:Bool) (x y:AV) (z:R AV),(bif c then Dt.unOp UnOp.not (bif c then x else y) else z)=bif c then Dt.unOp UnOp.not x else z)∧(∀(b c:Bool) (y:AV),pickV (boolV b) (boolV true) (bif !b then boolV c else y)=Except.ok (boolV (b || c)))∧(∀(b c:Bool) (y:AV),pickV (boolV b) (bif b then boolV c else y) (boolV false)=Except.ok (boolV (b && c)))∧∀ {α:Type} (c:Bool) (x y z:α),(bif c then bif c then x else y else z)=bif c then x else z:=And.intro @bindR_cond (And.intro @cond_loadV (And.intro @cond_field (And.intro @cond_len (And.intro @cond_binl (And.intro @cond_ok (And.intro @cond_not (And.intro @pick_or (And.intro @pick_and (@cond_cond)))))))))
end Go.Proofs.YtahgmmbmmcaejaaGreatDoor
namespace Go.Proofs.YtahgmmbmmcaejaaGreatDoor
open Go Go.Dt
set_option maxRecDepth 100000
theorem splitB_ix(c:UInt8):∀(l:List UInt8),splitB c l=match ixB l c with
  | some i=>l.take i::splitB c (l.drop (i+1))
  | none=>[l]
 | []=>rfl
 | x::l=>by
  rw [splitB_cons]
  have ih:=splitB_ix c l
  unfold ixB at ih ⊢
  rw [List.findIdx?_cons]
  by_cases h:x=c
  ·subst h;simp
  ·have hb:(x==c)=false:=by simpa using h
   rw [if_neg h,ih,hb]
   simp only [Bool.false_eq_true,if_false]
   cases List.findIdx? (fun y=>y==c) l with
   | none=>simp [glue]
   | some i=>simp [glue]
def cntB(c:UInt8)(l:List UInt8):Nat:=l.countP (· ==c)
theorem splitB_len(c:UInt8):∀(l:List UInt8),(splitB c l).length=cntB c l+1
 | []=>rfl
 | x::l=>by
  rw [splitB_cons,cntB,List.countP_cons]
  have ih:=splitB_len c l
  unfold cntB at ih
  by_cases h:x=c
  ·subst h;simp [ih]
  ·have hb:(x==c)=false:=by simpa using h
   rw [if_neg h,hb]
   have hg:(glue [x] (splitB c l)).length=(splitB c l).length:=by
    have:=splitB_ne c l
    cases hs:splitB c l with
    | nil=>exact (this hs).elim
    | cons w ws=>simp [glue]
   rw [hg,ih];simp
theorem cnt_fold(c:UInt8):∀(l:List UInt8) (n:Int),l.foldl (fun n x=>if x==c then n+1 else n) n=n+(cntB c l:Nat)
 | [],n=>by simp [cntB]
 | x::l,n=>by
  rw [List.foldl_cons,cnt_fold c l,cntB,cntB,List.countP_cons]
  by_cases h:x==c<;>simp [h]<;>omega
theorem cnt_call(l:List UInt8)(c:UInt8)(σ:St):callG tab W (AV.func (.func 110) [] []) [str l,intV .u8 (c.toNat:Int)] σ= .ok (.ret (intV .i64 (cntB c l:Nat)),σ):=by
 have hb:((c.toNat:Nat):Int).toNat.toUInt8=c:=by simp
 have key:Extern.BytealgCount.count #[.string ⟨⟨l⟩⟩,.int .u8 (c.toNat:Int)]= .pure (.int .i64 (cntB c l:Nat)):=by
  have e1:Extern.BytealgCount.count #[.string ⟨⟨l⟩⟩,.int .u8 (c.toNat:Int)]=
    Sem.pure (goInt ((ByteArray.mk l.toArray).foldl (fun n x=>if x==((c.toNat:Nat):Int).toNat.toUInt8 then n+1 else n) (0:Nat):Int)):=rfl
  rw [e1,hb,Go.Lib.foldl_data]
  have:(ByteArray.mk l.toArray).data.toList=l:=by simp
  rw [this,cnt_fold]
  simp
  rfl
 have e3:callG tab W (AV.func (.func 110) [] []) [str l,intV .u8 (c.toNat:Int)] σ=
   bindR (match Extern.BytealgCount.count #[.string ⟨⟨l⟩⟩,.int .u8 (c.toNat:Int)] with
    | .pure v=>(.ok (ofConst v,σ):R (AV×St))
    | _=> .error "plain row") fun p=> .ok (.ret p.1,p.2):=by kernel_rfl
 rw [e3,key]
 rfl
theorem W102(l:List UInt8)(c:UInt8)(σ:St):W 102 [str l,str [c]] σ= .ok (.ret (intV .i64 (cntB c l:Nat)),σ):=by
 refine w102 (by simp) ?_
 rw [ec102]
 have e0:((([c].length:Nat):Int)==0)=false:=rfl
 have e1:((([c].length:Nat):Int)==1)=true:=rfl
 simp (decide:=true) only [sN,e0,e1,index0,cnt_call,sR,r102]
theorem W103(l:List UInt8)(c:UInt8)(σ:St):W 103 [str l,str [c]] σ= .ok (.ret (intV .i64 (ixR (ixB l c))),σ):=by
 refine w103 (by simp) ?_
 rw [ec103]
 simp (decide:=true) only [sN,W43,sR,r103]
theorem el105:elemB 105 9 1=true:=by kernel_rfl
theorem sz9:sizeB 9 1=true:=by kernel_rfl
theorem l9:leafB 9=true:=by kernel_rfl
theorem sl105:sliceB 105=true:=by kernel_rfl
theorem repL(z:AV):∀n,repeatL [z] n=List.replicate n z
 | 0=>rfl
 | n+1=>by rw [repeatL,repL z n];rfl
theorem mk105(n:Nat)(hn:n<1073741824)(b:Nat):makeSliceA tab 105 (intV .i64 (n:Int)) (intV .i64 (n:Int)) b= .ok (.slice b 0 n (some n) 1,.cells (List.replicate n (str [])) 9 true 1):=by
 have h1:sliceElem tab 105= .ok 9:=by kernel_rfl
 have h2:size tab 9= .ok 1:=by kernel_rfl
 have h3:zero tab 9= .ok (str []):=by kernel_rfl
 have h4:∃i,inf tab 9= .ok i∧i.bytes<2^16:=by
  have:(match inf tab 9 with | .ok i=>decide (i.bytes<2^16) | .error _=>false)=true:=by kernel_rfl
  cases h:inf tab 9 with
  | error e=>rw [h] at this;cases this
  | ok i=>rw [h] at this;exact ⟨i,rfl,by simpa using this⟩
 obtain ⟨i,h4,h5⟩:=h4
 have hz:zeroRow tab 9 n= .ok (List.replicate n (str [])):=by
  unfold zeroRow
  rw [h2]
  simp only [bindR_eq,bindR_val]
  cases n with
  | zero=>rfl
  | succ n=>
   rw [if_neg (by omega),h3]
   have:(str []).cells=[str []]:=rfl
   simp only [bindR_val,this]
   rw [if_pos (by rfl),repL]
   rfl
 have ha:∀k:IntKind,asI (intV k (n:Int))= .ok (k,(n:Int)):=fun k=>rfl
 unfold makeSliceA
 simp only [h1,h2,h4,ha,bindR_eq,bindR_val,Int.toNat_natCast,hz]
 rw [if_pos ⟨by omega,by omega,by omega,h5⟩]
 rfl
end Go.Proofs.YtahgmmbmmcaejaaGreatDoor
