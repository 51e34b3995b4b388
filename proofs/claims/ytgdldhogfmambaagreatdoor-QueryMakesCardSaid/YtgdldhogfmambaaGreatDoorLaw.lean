/- The law QueryMakes: whatever the store, the registered query and what is asked, the call returns true and leaves what it was given. Conditions: the row's own (the listed variable is tied by the given tie). -/
import Derived.Test.YtgdldhogfmambaaGreatDoorxG
import Derived.Test.YtgdldhogfmambaaGreatDoorxY
import Derived.Test.YtgdldhogfmambaaGreatDoorxX
import Derived.Test.YtgdldhogfmambaaGreatDoorxW
import Derived.Test.YtgdldhogfmambaaGreatDoorRows
import Derived.Test.YtgdldhogfmambaaGreatDoorTie
import Derived.Test.YtgdldhogfmambaaGreatDoorCards
import Derived.ProofKit
import Derived.LaidMore
import Derived.Lay
import Derived.LaidOnce
import Derived.OpenShut
import Derived.ChangeSlices
import Derived.ChangeStays
import Derived.ReadAgain
import Derived.Stop.Joined
import Derived.SevenTiedAt
namespace Go.Proofs.YtgdldhogfmambaaGreatDoor
open Go Go.ChangeShapes Go.WideShapes Go.RowKit Go.Dt
set_option maxRecDepth 100000
theorem own:ownKnob Tryz.prog.godebug=none:=by kernel_rfl
theorem names_at{W:World}(h:laidMetH Tryz.prog Rows.queryMakesRow.laid W):∃arr e fz,W.heap[0]?=some (.cells arr e fz)/\ ∀(i:Nat) (v:AV),D9[i]?=some v->arr[i]?=some (aQ UE v):=by
 rw[MakeChecks.laidMetH_plain _ _ _ (by kernel_rfl)]at h;obtain⟨ps,⟨g,t,cs,fuel,p,q,hg,ht,hv,hd,_,_⟩,_,_⟩:=h;have g0:Tryz.prog.globalNamed "partywall/ast.names"=some 0:=by kernel_rfl
 obtain rfl:=Option.some.inj (g0.symm.trans hg);obtain rfl:=Option.some.inj ((show(Tryz.prog.globals[0]?).map (·.type)=some 536 by kernel_rfl).symm.trans ht);obtain⟨xs,m,_,ex,_,hl,hel⟩:=DataW.trod_array (by kernel_rfl:Tryz.prog.underlying 536=some (.array 6 9)) hd;have hh:∃e fz,W.heap[0]?=some (.cells cs e fz):=by
  unfold World.var? at hv;rw[g0]at hv;simp only[Option.bind_some]at hv;split at hv
  ·rename_i c e fz hb;cases hv;exact⟨e,fz,hb⟩
  ·cases hv
 obtain⟨e,fz,hb⟩:=hh;refine⟨cs,e,fz,hb,λi v hi=>?_⟩;have hi6:i<6:=(List.getElem?_eq_some_iff.1 hi).1;have hE:=hel i hi6;rw[show Tryz.prog.cellsOf 9=1 by kernel_rfl,Nat.mul_one,List.getElem?_eq_getElem (by omega)]at hE;obtain⟨s,e1,e2,_⟩:=DataW.trod_string (by kernel_rfl:Tryz.prog.underlying 9=some .string) hE;have e3:xs.map (·.1)=yw.map λn=>(DataW.lit (.string n):DataW Unit):=(DataW.agg.inj (Prod.mk.inj ex).1).symm;have e4:(xs.map (·.1))[i]?=(yw.map λn=>(DataW.lit (.string n):DataW Unit))[i]?:=by rw[e3]
 have e5:(yw.map λs=>AV.aN (.string ⟨⟨s⟩⟩))[i]?=some v:=hi;rw[List.getElem?_map]at e5;rw[List.getElem?_map,List.getElem?_map,List.getElem?_eq_getElem (by omega:i<xs.length),e2]at e4
 cases ha:yw[i]? with
 |none=>rw[ha]at e5;cases e5
 |some a=>
  rw[ha]at e4 e5;cases e5;simp only[Option.map_some,Option.some.injEq,DataW.lit.injEq,Lit.string.injEq]at e4;have hs:s=⟨⟨a⟩⟩:=by rw[<-e4]
  have h0:((cs.toList.drop i).take 1)[0]?=some (.string s):=by rw[e1];rfl
  have:cs.toList[i]?=some (.string s):=by simpa using h0
  rw[hs]at this;simpa[aQ]using this
theorem sized:∀{t e:TypeId},t<Tryz.prog.types.size->Tryz.prog.underlying t=some (.slice e)->0<Tryz.prog.cellsOf e:=λ{t e}=>slices_full_of Tryz.prog (by kernel_rfl) t e
theorem stays{H:Type}{enc:TypeId×Value->H}{V V':World}{t:TypeId}{v:Value}{d:DataW H}{p:List MemPlace}(hf:@mY oi V V')(ht:t<Tryz.prog.types.size)(h:DataW.Trod enc Tryz.prog V 0 (λ_=>true) true t v d p):DataW.Trod enc Tryz.prog V' 0 (λb=>decide (b<V.heap.size)) true t v d p:=by
 obtain⟨n,h⟩:=h;have hlt:=DataW.trod_lt n _ _ _ h;refine⟨n,DataW.trod_stays (kids_rows fact1 fact2) sized (λh=>by cases h) ht h (λx hx=>?_) λx hx=>decide_eq_true (hlt x hx)⟩;have:=@mY.old oi _ _ hf x.block (hlt x hx)
 cases x with
 |cell b o=>show V'.cell? _=V.cell? _;unfold World.cell?;rw[show V'.heap[b]?=V.heap[b]? from this]
 |map b=>exact this
theorem aggs{V:World}{base:Nat}{t:TypeId}{v:Value}{fs:Array Field}(hu:Tryz.prog.underlying t=some (.struct fs))(h:Value.okWide Tryz.prog V .any base t v):∃cs:List Value,v=.agg cs.toArray:=by unfold Value.okWide at h;rw[hu]at h;obtain⟨cs,rfl,_⟩:=h;exact⟨cs.toList,by simp⟩
abbrev zzzr:Value:=.slice none 0 0
abbrev zzzi:Value:=.int .i64 0
abbrev zzzu:Value:=.int .u64 0
theorem lifted(os:Os)(started:os.Started)(H:Type)(enc:TypeId×Value->H):
 ReturnsInHanded {} Tryz.checked os 3 .any (λw args=>(Rows.queryMakesSpec.pre enc Tryz.prog Tryz.f3 [] false w args/\ laidMetH Tryz.prog Rows.queryMakesRow.laid w)/\ sizedMet enc Tryz.prog Tryz.f3 (OpenSpec.ofChange Rows.queryMakesSpec) false w args)
  (Rows.queryMakesSpec.post enc Tryz.prog Tryz.f3 false true false false):=by
 refine returnsInHanded_of_change_and (C:=Tryz.checked) (X:=λw _=>laidMetH Tryz.prog Rows.queryMakesRow.laid w) (λ_ _ _ hh h=>h.of_heap hh) own started (by kernel_rfl) Tryz.func3
  (ChangeSpec.witness_shaped (enc:=enc) (C:=Tryz.checked) (os:=os) (X:=λw _=>laidMetH Tryz.prog Rows.queryMakesRow.laid w) false (World.laidAll Tryz.prog os Rows.queryMakesRow.laid)
    #[.agg #[zzzr,zzzu,zzzu,zzzu],.agg #[zzzi,zzzi,zzzi,zzzi,zzzi,.bool false,zzzu,zzzr,.string ⟨⟨[]⟩⟩,zzzr,zzzu,zzzr,zzzr,zzzr,zzzr,zzzu,zzzi,zzzr,zzzi,zzzu,.bool false,zzzu,zzzr,zzzr],.agg #[zzzi,zzzi,zzzi,zzzi,zzzi,.bool false,zzzu,zzzr,.string ⟨⟨[]⟩⟩,zzzr,zzzu,zzzr,zzzr,zzzu,zzzi]] 20 (World.laidAll_os _ _ _)
    (World.shaped_of_ZipB (by kernel_rfl) (by kernel_rfl)) (by kernel_rfl) (by kernel_rfl) (by kernel_rfl)
    (by rw[MakeChecks.laidMetH_plain _ _ _ (by kernel_rfl)];exact laidMet_laidAll _ (by kernel_rfl) (by kernel_rfl))) ?_
 intro V base args ds gs before hval0 hW _ _ hx _;have hval:∀(j:Nat) t v,Tryz.f3.params[j]?=some t->args[j]?=some v->Value.okWide Tryz.prog V .any base t v:=hval0;have hW':=hW;obtain⟨p,q,hA0,hV0,rfl,_,_⟩:=hW;have hA:DataW.TrodAll enc Tryz.prog V 0 (λ_=>true) true Tryz.f3.params.toList args.toList ds p:=hA0;rw[Tryz.params3]at hA hval;obtain⟨v0,v1,v2,d0,d1,d2,p0,p1,p2,rfl,rfl,rfl,h0,h1,h2⟩:=trodAll_three hA;obtain⟨rfl,rfl⟩:=trodVars_none hV0;obtain⟨c0,rfl⟩:=aggs Tryz.underlying25 (hval 0 25 v0 rfl rfl);obtain⟨c1,rfl⟩:=aggs Tryz.underlying48 (hval 1 48 v1 rfl rfl);obtain⟨c2,rfl⟩:=aggs Tryz.underlying50 (hval 2 50 v2 rfl rfl);clear hA0 hV0 hval0;obtain⟨f0,k0⟩:=id h0;obtain⟨f1,k1⟩:=id h1;obtain⟨f2,k2⟩:=id h2;obtain⟨s,s1,a0⟩:=atM (show Rd enc V 0 true f0 25 c0 from⟨_,k0⟩);obtain⟨r,r1,a1⟩:=atK (show Rd enc V 0 true f1 48 c1 from⟨_,k1⟩);obtain⟨n,qq,c,cap,a2⟩:=atJ (show Rd enc V 0 true f2 50 c2 from⟨_,k2⟩);obtain⟨arr,e,fz,hb,hn⟩:=names_at hx;have e1:Rows.queryMakesSpec.fn H ([d0,d1,d2]++[])={results:=[.lit (.bool true)],args:=[d0,d1,d2]}:=rfl;refine(at0 hb hn (s:=s) (x:=r) (n:=n) (q:=qq) (c:=c) (cap:=cap) ⟨s1.1,s1.2,r1.1,r1.2.1,r1.2.2⟩ a0 a1 a2).mono λe V' h=>?_;obtain⟨he,hfr⟩:=h;refine⟨_,he,_,_,_,[],p0++p1++p2,[],hW',?_,?_,?_,@mY.nx oi _ _ hfr _,λh=>by cases h⟩
 ·rw[e1];exact trodAll_mk1 (shut_bool Tryz.underlying4 _)
 ·rw[e1];have:=trodAll_mk3 (stays hfr (by rw[Tryz.types_size];decide) h0) (stays hfr (by rw[Tryz.types_size];decide) h1) (stays hfr (by rw[Tryz.types_size];decide) h2);rw[List.append_assoc];exact this
 ·rw[e1];rfl
theorem queryMakes_row:Rows.QueryMakesSaid:=
 OpenClaim.holds_of_wide 3 Tryz.f3 rfl rfl rfl rfl rfl rfl rfl ⟨rfl,rfl,rfl,rfl,rfl⟩ rfl rfl rfl rfl rfl rowNamed Tryz.func3 rowFacts
  rowInst (by unfold Func.isWrapper;first|(rw[if_pos (by decide+kernel)];kernel_rfl)|(rw[if_neg (by decide+kernel)];exact⟨rfl,rfl⟩))
  (λos started H enc _=>lifted os started H enc)
theorem queryMakes_holds:Rows.QueryMakesCardSaid:=
 Claim7.holds_tied_plain_at .later [] [.widerDeep] true (true,"81103160817741a566b71d473f7f54956a45e20bffcea4ce791e7b82381306f7") false
  queryMakes_row (λ_ h=>by cases h) cardWf (λ_ h=>by cases h) queryMakes_row_tie rfl ⟨rfl,rfl⟩ cardMain rfl
  (λf fn hf hfn=>by
    obtain rfl:f=3:=Option.some.inj (cardFunc.symm.trans hf)|>.symm;obtain rfl:fn=Tryz.f3:=(Option.some.inj (Tryz.func3.symm.trans hfn)).symm
    exact⟨cardLooks,λj t ht=>by
     rw[Tryz.params3]at ht;have hm:t∈[25,48,50]:=by simpa using Array.mem_of_getElem? ht
     have hall:([25,48,50].all λu=>!Tryz.prog.wantsStandIn u)=true:=by kernel_rfl
     exact(show Tryz.prog.wantsStandIn t=false by simpa using List.all_eq_true.1 hall t hm)⟩)
  cardGoes
#print axioms queryMakes_holds
end Go.Proofs.YtgdldhogfmambaaGreatDoor
