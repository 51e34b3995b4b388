/-
  A part of the proof. No statement of this seat stands here.
-/
import Derived.Test.YtahgmmbmmcaejaaGreatDoorP17
namespace Go.Proofs.YtahgmmbmmcaejaaGreatDoor
open Go Go.Dt
set_option maxRecDepth 100000
theorem tail165(σ0:St)(r b b4:Nat)(x:ItemD)(iv av vv:AV)(ws:List (List UInt8))(hws:∀w∈ws,w.length<1099511627776)(hlen:ws.length<536870912)(hv:x.values=[])(err:Int)(herr:isE err)(T:Rg)(σ:St)(h:ItW σ0 σ r b b4 x iv av vv ws err)
  (t1:T 1= .ptr r 0) (t4:T 4= .ptr b4 0) (t5:T 5= .ptr b 0):Item165 σ0 r (denK tab W 106 c165d k165 T σ) (tailF x err ws):=by
 obtain ⟨v,g1',g2',g3',g4',g5'⟩:=h.rd.get
 have e:=ec165d k165 T σ
 cases ws with
 | nil=>
  have d:((([]:List (List UInt8)).length:Int)==0)=true:=rfl
  simp only [sN,t1,nilC,fa133_0,g1',g3',d,t4,t5] at e
  exact fin165 h (fun v=>by simp (decide:=true) only [sR,t4]) e
 | cons w rs=>
  have d:(((w::rs).length:Int)==0)=false:=by rw [beq_eq_false_iff_ne];simp;omega
  simp only [sN,t1,nilC,fa133_0,g1',g3',d] at e
  rw [ec165e] at e
  obtain ⟨σ1,k1,k2,k3⟩:=W73 r (w::rs) err herr σ h.rd
  have hcm:cmb err (wordE (w::rs))=err:=cmb_0 herr
  have kw:wordF (w::rs)=w:=rfl
  rw [hcm] at k3
  rw [kw] at k1
  have h1:=h.step k2 k3
  have hrs:(w::rs).tail=rs:=rfl
  rw [hrs] at k3 h1
  have hr1:r<σ1.n:=Nat.lt_of_lt_of_le g5' k2.n
  have hwf:(wordF rs).length<1099511627776:=by
   cases rs with
   | nil=>simp [wordF]
   | cons y ys=>exact hws y (by simp)
  simp (decide:=true) only [sN,sR,t1,k1] at e
  simp only [tailF]
  cases h33:w==[33] with
  | true=>
   obtain ⟨σ2,j1,j2,j3⟩:=W73 r rs err herr σ1 k3
   have h2:=h1.step j2 j3
   have w7:W 51 [intV .i64 7] σ2= .ok (.ret (str (errNm 7)),σ2):=W51 7 (by omega) σ2
   have w16:W 51 [intV .i64 16] σ2= .ok (.ret (str (errNm 16)),σ2):=W51 16 (by omega) σ2
   simp (decide:=true) only [sN,h33,j1,w7] at e
   simp only [condT]
   cases h7:wordF rs==errNm 7 with
   | true=>
    obtain ⟨σ3,s1,s2⟩:=h2.setErr 7
    rw [h7] at e
    simp (decide:=true) only [sN,sR,t5,fa41_5,Nat.zero_add,s1,ec165f,t4] at e
    simp only [condT]
    exact fin165 s2 (fun v=>by simp (decide:=true) only [sR,t4]) e
   | false=>
    rw [h7] at e
    simp (decide:=true) only [sN,w16] at e
    simp only [condF]
    cases h16:wordF rs==errNm 16 with
    | true=>
     obtain ⟨σ3,s1,s2⟩:=h2.setErr 16
     rw [h16] at e
     simp (decide:=true) only [sN,sR,t5,fa41_5,Nat.zero_add,s1,ec165f,t4] at e
     simp only [condT]
     exact fin165 s2 (fun v=>by simp (decide:=true) only [sR,t4]) e
    | false=>
     obtain ⟨σ3,s1,s2,s3⟩:=W74 r rs.tail _ 3 (cmb_isE err (wordE rs)) (.inr (.inr rfl)) σ2 j3
     have h3:=h2.step s2 s3
     rw [h16] at e
     simp (decide:=true) only [sN,sR,s1,ec165f,t4,t5] at e
     simp only [condF]
     exact fin165 h3 (fun v=>by simp (decide:=true) only [sR,t4]) e
  | false=>
   obtain ⟨f1,f2,f3,hI,hf⟩:=h1.it
   have ld0:loadV tab σ1 39 (.ptr b 4)= .ok vv:=ld l39 hI.at' rfl
   obtain ⟨σ2,j1,j2,j3⟩:=W164 r rs err herr hwf σ1 k3
   have h2:=h1.step j2 j3
   obtain ⟨q1,q2,q3,q4,τ1,v',τ2,u1,u2,u3',u4,u5,u6⟩:=h2.val (by rw [hv];simp) (intC (wordF rs)).1
   have bb:∀o,bndA (σ2.n+2) (.ptr b o)=true:=fun o=>bnd_pt o (by omega)
   have br:bndA σ1.n (.ptr r 0)=true:=bnd_pt 0 hr1
   have bf:∀n,bndA n (AV.func (.func 164) [] [])=true:=fun n=>rfl
   have ble1:Nat.ble σ1.n σ2.n=true:=ble_t j2.n
   simp (decide:=true) only [sN,h33,all2,bf,br,j1,ble1,t5,fa41_4,Nat.zero_add,ld0,q1,sameR,q2,bs39,bndO1,push_n,q3,bnd_sl,u1,u2,ble12,u3',bb,u4,u5,bleR,Bool.and_true] at e
   generalize hT:putE 106 _ (some 91) _=T2 at e
   obtain ⟨T',σ',vv',z1,z2,z3,z4,z5⟩:=loop165v σ0 r b b4 iv av rs.tail (fun y hy=>hws y (by
    cases rs with
    | nil=>simp at hy
    | cons a l=>simp at hy;simp [hy])) _ v' _ T2 τ2 (cmb_isE _ _) (by rw [hv];simp at hlen ⊢;omega) u6
    (by rw [← hT];simp (decide:=true) only [sR,t1]) (by rw [← hT];simp (decide:=true) only [sR,t4]) (by rw [← hT];simp (decide:=true) only [sR,t5])
   rw [z1] at e
   simp (decide:=true) only [sN,if_true,ec165i,z4,z3] at e
   simp only [condF]
   exact fin165 z5 (fun v=>by simp (decide:=true) only [sR,z3]) e
theorem bx137(b:Nat):boxA tab 137 (.agg []) b= .ok (.ptr b 0,.cells [] 137 true 0):=by kernel_rfl
theorem build41_2(q:Int):Dt.build tab 41 [(0,intV .i64 1),(1,intV .i64 q)]= .ok (.agg [intV .i64 1,intV .i64 q,nilS,nilS,nilS,intV .i64 0,intV .i64 0]):=by kernel_rfl
theorem st41{σ:St}{b:Nat}{iv av vv:AV}{k q e c:Int}(hA:At σ b (.cells zero41 41 true 7))(h:[iv,av,vv].all AV.oneCell=true):
  storeV tab σ 41 (.ptr b 0) (.agg [intV .i64 k,intV .i64 q,iv,av,vv,intV .i64 e,intV .i64 c])= .ok (σ.set b (.cells [intV .i64 k,intV .i64 q,iv,av,vv,intV .i64 e,intV .i64 c] 41 true 7)):=by
 simp only [List.all_cons,List.all_nil,Bool.and_true,Bool.and_eq_true] at h
 exact stv (o:=0) (x:= .agg [intV .i64 k,intV .i64 q,iv,av,vv,intV .i64 e,intV .i64 c]) sz41 hA rfl (by omega) (by simp [zero41]) (by simp only [AV.cells,List.all_cons,List.all_nil,h.1,h.2.1,h.2.2];rfl)
theorem alloc41'(b:Nat):allocA tab 41 b= .ok (.ptr b 0,.cells zero41 41 true 7):=alloc41 b
theorem W165(r:Nat)(ws:List (List UInt8))(hws:∀w∈ws,w.length<1099511627776)(hlen:ws.length<536870912)(err:Int)(herr:isE err)(σ:St)(h:Rd σ r ws err):Item165 σ r (W 165 [.agg [],.ptr r 0] σ) (foundF err ws):=by
 have hr:=h.get.choose_spec.2.2.2.2
 have hwf:(wordF ws).length<1099511627776:=by
  cases ws with
  | nil=>simp [wordF]
  | cons y ys=>exact hws y (by simp)
 have e:=ec165 k165 (.agg []) (.ptr r 0) σ
 obtain ⟨σ1,hσ1⟩:∃σ1,σ1=(σ.push (.cells [] 137 true 0)).push (.cells zero41 41 true 7):=⟨_,rfl⟩
 have hg1:Grow σ σ1:=by rw [hσ1];exact (Grow.push _ _).trans (Grow.push _ _)
 have hn1:σ1.n=σ.n+2:=by rw [hσ1];rfl
 have hA1:At σ1 (σ.n+1) (.cells zero41 41 true 7):=by rw [hσ1];exact At.new (σ.push _) _
 obtain ⟨σ2,k1,k2,k3⟩:=W73 r ws err herr σ1 (h.grow hg1)
 obtain ⟨σ3,j1,j2,j3⟩:=W166 r ws.tail _ (cmb_isE err (wordE ws)) (wordF ws) hwf σ2 k3
 simp only [sN,bx137,push_n,alloc41',← hσ1,k1,j1,build41_2] at e
 have hA3:=At.new σ3 (.cells zero41 41 true 7)
 rw [st41 hA3 rfl,bindR_val] at e
 obtain ⟨σ4,hσ4⟩:∃σ4,σ4=(σ3.push (.cells zero41 41 true 7)).set σ3.n (.cells [intV .i64 1,intV .i64 (numC (wordF ws)).1,nilS,nilS,nilS,intV .i64 0,intV .i64 0] 41 true 7):=⟨_,rfl⟩
 rw [← hσ4] at e
 have hA4:At σ4 σ3.n (.cells [intV .i64 1,intV .i64 (numC (wordF ws)).1,nilS,nilS,nilS,intV .i64 0,intV .i64 0] 41 true 7):=by rw [hσ4];exact hA3.set_same (WF.push j3.wf _) _
 have hg4:Grow σ3 σ4:=by rw [hσ4];exact (Grow.push _ _).set (Nat.le_refl _) hA3.1 _
 have hm3:Mod [r] σ1 σ3:=k2.trans j2
 have hA13:=hA1.mod hm3 (by simp;omega)
 have hn3:σ1.n≤σ3.n:=hm3.n
 have hW:ItW σ σ4 r σ3.n (σ.n+1) {kind:=1,query:=(numC (wordF ws)).1,ids:=[],atoms:=[],values:=[],err:=0,count:=0} nilS nilS nilS ws.tail (cmb (cmb err (wordE ws)) (numC (wordF ws)).2):=
  ⟨((hg1.mod _).trans hm3).trans (hg4.mod _),j3.grow hg4,by omega,by omega,by omega,⟨[],[],[],⟨hA4,Vec.nil _ _ _,Vec.nil _ _ _,Vec.nil _ _ _⟩,by simp⟩,hA13.grow hg4⟩
 have htl:∀w∈ws.tail,w.length<1099511627776:=fun w hw=>hws w (List.mem_of_mem_tail hw)
 have htn:ws.tail.length<536870912:=by simp;omega
 generalize hT:puts 106 _ _=T at e
 have a1:argE [.agg [],.ptr r 0] 1= .ptr r 0:=rfl
 rw [ec165a] at e
 obtain ⟨T',σ5,iv',av',z1,z2,z3,z4,z5⟩:=loop165 σ r σ3.n (σ.n+1) nilS ws.tail htl _ nilS nilS _ T σ4 (cmb_isE _ _) (by simp at htn ⊢;omega) (by simp at htn ⊢;omega) hW
  (by rw [← hT];simp (decide:=true) only [sR,a1]) (by rw [← hT];simp (decide:=true) only [sR]) (by rw [← hT];simp (decide:=true) only [sR])
 rw [z1] at e
 simp (decide:=true) only [sN,if_true,ec165c,z4,fa41_2,Nat.zero_add,z2] at e
 obtain ⟨f1,f2,f3,hI,hf⟩:=z5.it
 have hrl:∀w∈evR ws.tail,w.length<1099511627776:=fun w hw=>htl w ((List.dropWhile_sublist _).mem hw)
 have hrn:(evR ws.tail).length<536870912:=Nat.lt_of_le_of_lt (List.Sublist.length_le (List.dropWhile_sublist _)) htn
 have hids:(([]:List (Int×Int))++(evW ws.tail).map (fun w=>(evV w).1))=(evW ws.tail).map (fun w=>(evV w).1):=rfl
 simp only [ld l37 hI.at' (o:=2) rfl,bindR_val,hI.ids.lenV sl37] at e
 have pull:∀y:R (AEnd×St),denK tab W 106 c165 k165 (argE [.agg [],.ptr r 0]) σ=y→Item165 σ r y (foundF err ws)→Item165 σ r (W 165 [.agg [],.ptr r 0] σ) (foundF err ws):=by
  rintro y hy ⟨cs,σ',q1,q2⟩
  exact ⟨cs,σ',w165 (by simp) (hy.trans q1),q2⟩
 refine pull _ e ?_
 unfold foundF
 cases hem:(evW ws.tail).isEmpty with
 | true=>
  have hnil:evW ws.tail=[]:=by simpa using hem
  have hd:((((evW ws.tail).map (fun w=>(evV w).1)).length:Int)==0)=true:=by rw [hnil];rfl
  obtain ⟨σ6,y1,y2,y3⟩:=W74 r _ _ 3 (evFold_isE (evW ws.tail) (cmb_isE (cmb err (wordE ws)) (numC (wordF ws)).2)) (.inr (.inr rfl)) σ5 z5.rd
  have h6:=z5.step y2 y3
  simp only [sN,hids,hd,y1]
  exact tail165 σ r σ3.n (σ.n+1) _ iv' av' nilS _ hrl hrn rfl _ (cmb_isE _ _) _ σ6 h6 (by simp (decide:=true) only [sR,z2]) (by simp (decide:=true) only [sR,z3]) (by simp (decide:=true) only [sR,z4])
 | false=>
  have hnil:evW ws.tail≠[]:=by simpa using hem
  have hd:((((evW ws.tail).map (fun w=>(evV w).1)).length:Int)==0)=false:=by
   rw [beq_eq_false_iff_ne,List.length_map]
   intro hz
   exact hnil (List.length_eq_zero_iff.1 (by omega))
  simp only [sN,hids,hd]
  exact tail165 σ r σ3.n (σ.n+1) _ iv' av' nilS _ hrl hrn rfl _ (evFold_isE _ (cmb_isE _ _)) _ σ5 z5 (by simp (decide:=true) only [sR,z2]) (by simp (decide:=true) only [sR,z3]) (by simp (decide:=true) only [sR,z4])
end Go.Proofs.YtahgmmbmmcaejaaGreatDoor
namespace Go.Proofs.YtahgmmbmmcaejaaGreatDoor
open Go Go.Dt
set_option maxRecDepth 100000
def noticeN(e:Int)(w:List UInt8):Int×Int:=
 bif w==errNm 17 then (17,e) else bif w==errNm 18 then (18,e) else bif w==errNm 19 then (19,e) else (0,cmb e 3)
def noticeF(err:Int)(ws:List (List UInt8)):ItemD×List (List UInt8)×Int:=
 let n:=noticeN (cmb (cmb (cmb err (wordE ws)) (numC (wordF ws)).2) (wordE ws.tail)) (wordF ws.tail)
 ({kind:=2,query:=(numC (wordF ws)).1,ids:=[],atoms:=[],values:=[],err:=n.1,count:=(numC (wordF ws.tail.tail)).1},ws.tail.tail.tail,cmb (cmb n.2 (wordE ws.tail.tail)) (numC (wordF ws.tail.tail)).2)
theorem noticeN_isE(e:Int)(w:List UInt8)(h:isE e):isE (noticeN e w).2:=by
 unfold noticeN
 cases w==errNm 17
 ·cases w==errNm 18
  ·cases w==errNm 19
   ·exact cmb_isE _ _
   ·exact h
  ·exact h
 ·exact h
theorem wordF_len{ws:List (List UInt8)}(hws:∀w∈ws,w.length<1099511627776):(wordF ws).length<1099511627776:=by
 cases ws with
 | nil=>simp [wordF]
 | cons y ys=>exact hws y (by simp)
theorem tail_len{ws:List (List UInt8)}(hws:∀w∈ws,w.length<1099511627776):∀w∈ws.tail,w.length<1099511627776:=fun w hw=>hws w (List.mem_of_mem_tail hw)
theorem bx138(b:Nat):boxA tab 138 (.agg []) b= .ok (.ptr b 0,.cells [] 138 true 0):=by kernel_rfl
theorem build41_3(q:Int):Dt.build tab 41 [(0,intV .i64 2),(1,intV .i64 q)]= .ok (.agg [intV .i64 2,intV .i64 q,nilS,nilS,nilS,intV .i64 0,intV .i64 0]):=by kernel_rfl
theorem tail171(σ0:St)(r b b4:Nat)(x:ItemD)(iv av vv:AV)(ws:List (List UInt8))(hws:∀w∈ws,w.length<1099511627776)(err:Int)(herr:isE err)(T:Rg)(σ:St)(h:ItW σ0 σ r b b4 x iv av vv ws err)
  (t1:T 1= .ptr r 0) (t4:T 4= .ptr b4 0) (t5:T 5= .ptr b 0):Item165 σ0 r (denK tab W 33 c171a k165 T σ) ({x with count:=(numC (wordF ws)).1},ws.tail,cmb (cmb err (wordE ws)) (numC (wordF ws)).2):=by
 have e:=ec171a k165 T σ
 obtain ⟨σ1,k1,k2,k3⟩:=W73 r ws err herr σ h.rd
 obtain ⟨σ2,j1,j2,j3⟩:=W166 r ws.tail _ (cmb_isE err (wordE ws)) (wordF ws) (wordF_len hws) σ1 k3
 have h2:=(h.step k2 k3).step j2 j3
 obtain ⟨σ3,s1,s2⟩:=h2.setCount (numC (wordF ws)).1
 simp only [sN,t1,k1,j1,t5,fa41_6,Nat.zero_add,s1,t4] at e
 exact fin165 s2 (fun v=>by simp (decide:=true) only [sR,t4]) e
theorem W171(r:Nat)(ws:List (List UInt8))(hws:∀w∈ws,w.length<1099511627776)(err:Int)(herr:isE err)(σ:St)(h:Rd σ r ws err):Item165 σ r (W 171 [.agg [],.ptr r 0] σ) (noticeF err ws):=by
 have hr:=h.get.choose_spec.2.2.2.2
 have e:=ec171 k165 (.agg []) (.ptr r 0) σ
 obtain ⟨σ1,hσ1⟩:∃σ1,σ1=(σ.push (.cells [] 138 true 0)).push (.cells zero41 41 true 7):=⟨_,rfl⟩
 have hg1:Grow σ σ1:=by rw [hσ1];exact (Grow.push _ _).trans (Grow.push _ _)
 have hn1:σ1.n=σ.n+2:=by rw [hσ1];rfl
 have hA1:At σ1 (σ.n+1) (.cells zero41 41 true 7):=by rw [hσ1];exact At.new (σ.push _) _
 obtain ⟨σ2,k1,k2,k3⟩:=W73 r ws err herr σ1 (h.grow hg1)
 obtain ⟨σ3,j1,j2,j3⟩:=W166 r ws.tail _ (cmb_isE err (wordE ws)) (wordF ws) (wordF_len hws) σ2 k3
 simp only [sN,bx138,push_n,alloc41',← hσ1,k1,j1,build41_3] at e
 have hA3:=At.new σ3 (.cells zero41 41 true 7)
 rw [st41 hA3 rfl,bindR_val] at e
 obtain ⟨σ4,hσ4⟩:∃σ4,σ4=(σ3.push (.cells zero41 41 true 7)).set σ3.n (.cells [intV .i64 2,intV .i64 (numC (wordF ws)).1,nilS,nilS,nilS,intV .i64 0,intV .i64 0] 41 true 7):=⟨_,rfl⟩
 rw [← hσ4] at e
 have hA4:At σ4 σ3.n (.cells [intV .i64 2,intV .i64 (numC (wordF ws)).1,nilS,nilS,nilS,intV .i64 0,intV .i64 0] 41 true 7):=by rw [hσ4];exact hA3.set_same (WF.push j3.wf _) _
 have hg4:Grow σ3 σ4:=by rw [hσ4];exact (Grow.push _ _).set (Nat.le_refl _) hA3.1 _
 have hm3:Mod [r] σ1 σ3:=k2.trans j2
 have hA13:=hA1.mod hm3 (by simp;omega)
 have hn3:σ1.n≤σ3.n:=hm3.n
 have hW:ItW σ σ4 r σ3.n (σ.n+1) {kind:=2,query:=(numC (wordF ws)).1,ids:=[],atoms:=[],values:=[],err:=0,count:=0} nilS nilS nilS ws.tail (cmb (cmb err (wordE ws)) (numC (wordF ws)).2):=
  ⟨((hg1.mod _).trans hm3).trans (hg4.mod _),j3.grow hg4,by omega,by omega,by omega,⟨[],[],[],⟨hA4,Vec.nil _ _ _,Vec.nil _ _ _,Vec.nil _ _ _⟩,by simp⟩,hA13.grow hg4⟩
 obtain ⟨σ5,y1,y2,y3⟩:=W73 r ws.tail _ (cmb_isE (cmb err (wordE ws)) (numC (wordF ws)).2) σ4 hW.rd
 have h5:=hW.step y2 y3
 have w17:W 51 [intV .i64 17] σ5= .ok (.ret (str (errNm 17)),σ5):=W51 17 (by omega) σ5
 have w18:W 51 [intV .i64 18] σ5= .ok (.ret (str (errNm 18)),σ5):=W51 18 (by omega) σ5
 have w19:W 51 [intV .i64 19] σ5= .ok (.ret (str (errNm 19)),σ5):=W51 19 (by omega) σ5
 have a1:argE [.agg [],.ptr r 0] 1= .ptr r 0:=rfl
 have pull:∀y:R (AEnd×St),denK tab W 33 c171 k165 (argE [.agg [],.ptr r 0]) σ=y→Item165 σ r y (noticeF err ws)→Item165 σ r (W 171 [.agg [],.ptr r 0] σ) (noticeF err ws):=by
  rintro y hy ⟨cs,σ',q1,q2⟩
  exact ⟨cs,σ',w171 (by simp) (hy.trans q1),q2⟩
 simp only [sN,y1,w17] at e
 have htt:=tail_len (tail_len hws)
 cases h17:wordF ws.tail==errNm 17 with
 | true=>
  obtain ⟨σ6,s1,s2⟩:=h5.setErr 17
  rw [h17] at e
  simp only [sN,fa41_5,Nat.zero_add,s1] at e
  refine pull _ e ?_
  simp only [noticeF,noticeN,h17,condT]
  exact tail171 σ r σ3.n (σ.n+1) _ nilS nilS nilS _ htt _ (cmb_isE _ _) _ _ s2 (by simp (decide:=true) only [sR,a1]) (by simp (decide:=true) only [sR]) (by simp (decide:=true) only [sR])
 | false=>
  rw [h17] at e
  simp only [sN,w18] at e
  cases h18:wordF ws.tail==errNm 18 with
  | true=>
   obtain ⟨σ6,s1,s2⟩:=h5.setErr 18
   rw [h18] at e
   simp only [sN,fa41_5,Nat.zero_add,s1] at e
   refine pull _ e ?_
   simp only [noticeF,noticeN,h17,h18,condT,condF]
   exact tail171 σ r σ3.n (σ.n+1) _ nilS nilS nilS _ htt _ (cmb_isE _ _) _ _ s2 (by simp (decide:=true) only [sR,a1]) (by simp (decide:=true) only [sR]) (by simp (decide:=true) only [sR])
  | false=>
   rw [h18] at e
   simp only [sN,w19] at e
   cases h19:wordF ws.tail==errNm 19 with
   | true=>
    obtain ⟨σ6,s1,s2⟩:=h5.setErr 19
    rw [h19] at e
    simp only [sN,fa41_5,Nat.zero_add,s1] at e
    refine pull _ e ?_
    simp only [noticeF,noticeN,h17,h18,h19,condT,condF]
    exact tail171 σ r σ3.n (σ.n+1) _ nilS nilS nilS _ htt _ (cmb_isE _ _) _ _ s2 (by simp (decide:=true) only [sR,a1]) (by simp (decide:=true) only [sR]) (by simp (decide:=true) only [sR])
   | false=>
    obtain ⟨σ6,s1,s2,s3⟩:=W74 r ws.tail.tail _ 3 (cmb_isE (cmb (cmb err (wordE ws)) (numC (wordF ws)).2) (wordE ws.tail)) (.inr (.inr rfl)) σ5 y3
    have h6:=h5.step s2 s3
    rw [h19] at e
    simp only [sN,s1] at e
    refine pull _ e ?_
    simp only [noticeF,noticeN,h17,h18,h19,condF]
    exact tail171 σ r σ3.n (σ.n+1) _ nilS nilS nilS _ htt _ (cmb_isE _ _) _ _ h6 (by simp (decide:=true) only [sR,a1]) (by simp (decide:=true) only [sR]) (by simp (decide:=true) only [sR])
end Go.Proofs.YtahgmmbmmcaejaaGreatDoor
namespace Go.Proofs.YtahgmmbmmcaejaaGreatDoor
open Go Go.Dt
set_option maxRecDepth 100000
def zeroI:ItemD:= {kind:=0,query:=0,ids:=[],atoms:=[],values:=[],err:=0,count:=0}
def left3(p:ItemD×List (List UInt8)×Int):Int:=bif p.2.1.isEmpty then p.2.2 else cmb p.2.2 3
def itemFin(p:ItemD×List (List UInt8)×Int):Int:=bif left3 p==0 then itemRight p.1 else left3 p
def parseQ(ws:List (List UInt8)):Option (ItemD×List (List UInt8)×Int):=
 bif wordF ws==[102,111,117,110,100] then some (foundF 0 ws.tail) else bif wordF ws==[110,111,116,105,99,101] then some (noticeF 0 ws.tail) else none
def finE:Option (ItemD×List (List UInt8)×Int)→Int
 | none=>3
 | some p=>itemFin p
def finI:Option (ItemD×List (List UInt8)×Int)→ItemD
 | none=>zeroI
 | some p=>bif itemFin p==0 then p.1 else zeroI
theorem build41_0:Dt.build tab 41 []= .ok (.agg zero41):=by kernel_rfl
theorem build137_0:Dt.build tab 137 []= .ok (.agg []):=by kernel_rfl
theorem build138_0:Dt.build tab 138 []= .ok (.agg []):=by kernel_rfl
theorem build133(b o n m z:Nat):Dt.build tab 133 [(0,.slice b o n (some m) z)]= .ok (.agg [.slice b o n (some m) z,intV .i64 0]):=by kernel_rfl
theorem box133(b o n m z:Nat)(c:Nat):boxA tab 133 (.agg [.slice b o n (some m) z,intV .i64 0]) c= .ok (.ptr c 0,.cells [.slice b o n (some m) z,intV .i64 0] 133 true 2):=by kernel_rfl
theorem inv165(r:Nat)(σ:St):invokeQ tab W (AV.iface 137 (.agg [])) "partywall/match.read" [.ptr r 0] σ=W 165 [.agg [],.ptr r 0] σ:=by kernel_rfl
theorem inv171(r:Nat)(σ:St):invokeQ tab W (AV.iface 138 (.agg [])) "partywall/match.read" [.ptr r 0] σ=W 171 [.agg [],.ptr r 0] σ:=by kernel_rfl
theorem bnd41z(n:Nat):bndA n (.agg zero41)=true:=rfl
theorem beqI(k:IntKind)(n:Int):beqA (intV k n) (intV k n)=true:=by simp [beqA,intV,beqBase]
theorem W74z(r:Nat)(ws:List (List UInt8))(e:Int)(σ:St)(h:Rd σ r ws 0):∃σ',W 74 [.ptr r 0,intV .i64 e] σ= .ok (.ret (.tuple []),σ')∧Mod [r] σ σ'∧Rd σ' r ws e:=by
 obtain ⟨v,h1,h2⟩:=h.is
 have en:=ec74 (kRet tab []) (.ptr r 0) (intV .i64 e) σ
 have hl:loadV tab σ 24 (.ptr r 1)= .ok (intV .i64 0):=ld l24 h1 rfl
 have hst:storeV tab σ 24 (.ptr r 1) (intV .i64 e)= .ok (σ.set r (.cells [v,intV .i64 e] 133 true 2)):=by
  have:=stv (o:=1) (x:=intV .i64 e) sz24 h1 rfl (by omega) (by simp) rfl
  rw [this];rfl
 have d3:((0:Int) !=3)=true:=rfl
 simp only [sN,pickV_boolV,nilC,fa133_1] at en
 cases h0:e !=0 with
 | false=>
  have:e=0:=by simpa using h0
  subst this
  simp only [sN,h0] at en
  exact ⟨σ,w74 (by simp) en,Mod.refl _ _,h⟩
 | true=>
  simp only [sN,h0,nilC,fa133_1,hl,d3,hst] at en
  exact ⟨_,w74 (by simp) en,Mod.set (by simp) h1.1 _,h.set h2⟩
theorem stItem{σ:St}{b:Nat}{cs:List AV}{x:ItemD}{fp:List Nat}(hx:ItemR σ cs x fp)(hA:At σ b (.cells zero41 41 true 7)):storeV tab σ 41 (.ptr b 0) (.agg cs)= .ok (σ.set b (.cells cs 41 true 7)):=by
 have hone:=hx.one
 obtain ⟨iv,av,vv,f1,f2,f3,rfl,_⟩:=hx.is
 exact stv (o:=0) (x:= .agg _) sz41 hA rfl (by omega) (by simp [zero41]) hone
theorem ItemR.off{σ:St}{cs:List AV}{x:ItemD}{fp:List Nat}(hx:ItemR σ cs x fp){b:Nat}{cs':List AV}{e sz:Nat}{ow:Bool}(hA:At σ b (.cells cs' e ow sz))(h1:74≠e)(h2:3≠e)(h3:2≠e):∀y∈fp,y≠b:=by
 obtain ⟨iv,av,vv,f1,f2,f3,_,k1,k2,k3,rfl⟩:=hx.is
 intro y hy
 simp only [List.mem_append] at hy
 rcases hy with (hy | hy) | hy
 ·exact k1.off hA h1 y hy
 ·exact k2.off hA h2 y hy
 ·exact k3.off hA h3 y hy
theorem ItemR.zero(σ:St):ItemR σ zero41 zeroI []:=⟨_,_,_,_,_,_,rfl,Vec.nil _ _ _,Vec.nil _ _ _,Vec.nil _ _ _,rfl⟩
def Out47(σ0:St)(y:R (AEnd×St))(x:ItemD)(e:Int):Prop:=∃cs σ' fp,y= .ok (.ret (.tuple [.agg cs,intV .i64 e]),σ')∧Grow σ0 σ'∧ItemR σ' cs x fp∧∀y∈fp,σ0.n≤y
noncomputable def k47:K (AEnd×St):=kRet tab [.cell 2 41,.tmp 3]
theorem ret47{T:Rg}{σ:St}{cs:List AV}{e:Int}{b:Nat}(h2:T 2= .ptr b 0)(h3:T 3=intV .i64 e)(hl:loadV tab σ 41 (.ptr b 0)= .ok (.agg cs)):k47.ret T σ= .ok (.ret (.tuple [.agg cs,intV .i64 e]),σ):=by
 simp only [k47,kRet,resK,h2,h3,hl,bindR_val];rfl
theorem last47(σ0:St)(r b2 b6:Nat)(ws:List (List UInt8))(err:Int)(x:ItemD)(cs:List AV)(fp:List Nat)(T:Rg)(σ:St)(hg:Mod [r] σ0 σ)(hrge:σ0.n≤r)(hR:Rd σ r ws err)(hb2:At σ b2 (.cells zero41 41 true 7))(hb2ge:σ0.n≤b2)
  (h6:At σ b6 (.cells cs 41 true 7)) (hx:ItemR σ cs x fp) (hfp:∀y∈fp,σ0.n≤y) (t2:T 2= .ptr b2 0) (t4:T 4= .ptr r 0) (t6:T 6= .ptr b6 0):
  Out47 σ0 (denK tab W 53 c47d k47 T σ) (bif err==0 then x else zeroI) err:=by
 obtain ⟨v,g1',g2',g3',g4',g5'⟩:=hR.get
 have e:=ec47d k47 T σ
 simp only [sN,t4,nilC,fa133_1,g2'] at e
 have hgr:Grow σ0 σ:=hg.grow (by intro y hy;simp only [List.mem_singleton] at hy;omega)
 cases h0:err==0 with
 | true=>
  have h0':err=0:=by simpa using h0
  have d:(err !=0)=false:=by rw [h0'];rfl
  have l6:loadV tab σ 41 (.ptr b6 0)= .ok (.agg cs):=lda a41 h6 (by rw [List.drop_zero];exact List.take_of_length_le (by rw [hx.len];omega)) hx.len
  simp only [sN,d,t6,l6,t2,stItem hx hb2] at e
  have hA:=hb2.set_same hR.wf (.cells cs 41 true 7)
  have l2:loadV tab (σ.set b2 (.cells cs 41 true 7)) 41 (.ptr b2 0)= .ok (.agg cs):=lda a41 hA (by rw [List.drop_zero];exact List.take_of_length_le (by rw [hx.len];omega)) hx.len
  refine ⟨cs,σ.set b2 (.cells cs 41 true 7),fp,e.trans ?_,hgr.set hb2ge hb2.1 _,hx.mod (Mod.set (P:=[b2]) (by simp) hb2.1 _) (by intro y hy;simpa using hx.off hb2 (by omega) (by omega) (by omega) y hy),hfp⟩
  rw [h0']
  exact ret47 (by simp (decide:=true) only [sR,t2]) (by simp (decide:=true) only [sR]) l2
 | false=>
  have h0':err≠0:=by simpa using h0
  have d:(err !=0)=true:=by simpa using h0'
  have bp:bndA σ.n (.ptr b2 0)=true:=bnd_pt 0 hb2.1
  have hst:=stItem (ItemR.zero σ) hb2
  have hA:=hb2.set_same hR.wf (.cells zero41 41 true 7)
  have hR2:Rd (σ.set b2 (.cells zero41 41 true 7)) r ws err:=hR.set_ne hb2 (by omega) (Ne.symm (hR.off hb2 (by omega))) _
  obtain ⟨v',p1,p2,p3,p4,p5⟩:=hR2.get
  simp only [sN,d,build41_0,t2,all2,bp,bnd41z,hst,set_n,bleR,p2,sameR,beqI,Bool.and_true] at e
  refine ⟨zero41,σ.set b2 (.cells zero41 41 true 7),[],e.trans ?_,hgr.set hb2ge hb2.1 _,ItemR.zero _,by simp⟩
  exact ret47 (by simp (decide:=true) only [sR,t2]) (by simp (decide:=true) only [sR]) (lda a41 hA rfl rfl)
theorem tail47(σ0:St)(r b2 b6:Nat)(ws:List (List UInt8))(err:Int)(x:ItemD)(hsm:x.small)(cs:List AV)(fp:List Nat)(T:Rg)(σ:St)(hg:Mod [r] σ0 σ)(hrge:σ0.n≤r)(hR:Rd σ r ws err)(hb2:At σ b2 (.cells zero41 41 true 7))(hb2ge:σ0.n≤b2)
  (h6:At σ b6 (.cells cs 41 true 7)) (hx:ItemR σ cs x fp) (hfp:∀y∈fp,σ0.n≤y) (t2:T 2= .ptr b2 0) (t4:T 4= .ptr r 0) (t6:T 6= .ptr b6 0):
  Out47 σ0 (denK tab W 53 c47c k47 T σ) (bif (bif err==0 then itemRight x else err)==0 then x else zeroI) (bif err==0 then itemRight x else err):=by
 obtain ⟨v,g1',g2',g3',g4',g5'⟩:=hR.get
 have e:=ec47c k47 T σ
 simp only [sN,t4,nilC,fa133_1,g2'] at e
 cases h0:err==0 with
 | true=>
  have h0':err=0:=by simpa using h0
  subst h0'
  have l6:loadV tab σ 41 (.ptr b6 0)= .ok (.agg cs):=lda a41 h6 (by rw [List.drop_zero];exact List.take_of_length_le (by rw [hx.len];omega)) hx.len
  obtain ⟨σ1,k1,k2⟩:=W48 σ hR.wf cs x hsm fp hx
  obtain ⟨σ2,j1,j2,j3⟩:=W74z r ws (itemRight x) σ1 (hR.grow k2)
  simp only [sN,h0,t6,l6,k1,j1] at e
  rw [e]
  have hx1:=hx.grow k2
  obtain ⟨⟨v1,hv1,_⟩,_⟩:=hR.grow k2
  exact last47 σ0 r b2 b6 ws _ x cs fp _ σ2 ((hg.trans (k2.mod _)).trans j2) hrge j3 ((hb2.grow k2).mod j2 (by simpa using hR.off hb2 (by omega))) hb2ge ((h6.grow k2).mod j2 (by simpa using hR.off h6 (by omega)))
   (hx1.mod j2 (by intro y hy;simpa using hx1.off hv1 (by omega) (by omega) (by omega) y hy)) hfp (by simp (decide:=true) only [sR,t2]) (by simp (decide:=true) only [sR,t4]) (by simp (decide:=true) only [sR,t6])
 | false=>
  simp only [sN,h0] at e
  rw [e]
  exact last47 σ0 r b2 b6 ws _ x cs fp _ σ hg hrge hR hb2 hb2ge h6 hx hfp (by simp (decide:=true) only [sR,t2]) (by simp (decide:=true) only [sR,t4]) (by simp (decide:=true) only [sR,t6])
theorem mid47(σ0:St)(r b2:Nat)(p:ItemD×List (List UInt8)×Int)(hp:isE p.2.2)(hsm:p.1.small)(f:AV)(T:Rg)(σ:St)(hg:Mod [r] σ0 σ)(hrge:σ0.n≤r)(hne:b2≠r)(hb2:At σ b2 (.cells zero41 41 true 7))(hb2ge:σ0.n≤b2)
  (t2:T 2= .ptr b2 0) (t4:T 4= .ptr r 0) (t5:T 5=f) (hI:Item165 σ r (invokeQ tab W f "partywall/match.read" [.ptr r 0] σ) p):
  Out47 σ0 (denK tab W 53 c47b k47 T σ) (finI (some p)) (finE (some p)):=by
 obtain ⟨cs,σ1,k1,k2,k3,fp,k4,k5⟩:=hI
 have e:=ec47b k47 T σ
 have hA1:=At.new σ1 (.cells zero41 41 true 7)
 have hst:=stItem (k4.grow (Grow.push σ1 (.cells zero41 41 true 7))) hA1
 obtain ⟨σ2,hσ2⟩:∃σ2,σ2=(σ1.push (.cells zero41 41 true 7)).set σ1.n (.cells cs 41 true 7):=⟨_,rfl⟩
 rw [← hσ2] at hst
 have hg2:Grow σ1 σ2:=by rw [hσ2];exact (Grow.push _ _).set (Nat.le_refl _) hA1.1 _
 have h6:At σ2 σ1.n (.cells cs 41 true 7):=by rw [hσ2];exact hA1.set_same (WF.push k3.wf _) _
 have hR2:=k3.grow hg2
 obtain ⟨v,g1',g2',g3',g4',g5'⟩:=hR2.get
 have hx2:=k4.grow hg2
 have hb22:=(hb2.mod k2 (by simpa using hne)).grow hg2
 have hm2:Mod [r] σ0 σ2:=(hg.trans k2).trans (hg2.mod _)
 have hfp:∀y∈fp,σ0.n≤y:=fun y hy=>Nat.le_trans hg.n (k5 y hy)
 simp only [sN,t5,t4,k1,alloc41',hst,nilC,fa133_0,g1',g3'] at e
 have conv:∀E,E=(bif left3 p==0 then itemRight p.1 else left3 p)→∀y,Out47 σ0 y (bif E==0 then p.1 else zeroI) E→Out47 σ0 y (finI (some p)) (finE (some p)):=by
  intro E hE y hy
  have h1:finE (some p)=E:=hE.symm
  have h2:finI (some p)=(bif E==0 then p.1 else zeroI):=by rw [← h1];rfl
  rw [h1,h2];exact hy
 cases hl:p.2.1 with
 | nil=>
  have hle:left3 p=p.2.2:=by unfold left3;rw [hl];rfl
  rw [hl] at e hR2
  have d:decide ((([]:List (List UInt8)).length:Int)>0)=false:=rfl
  simp only [sN,d] at e
  rw [e]
  exact conv _ (by rw [hle]) _ (tail47 σ0 r b2 σ1.n [] p.2.2 p.1 hsm cs fp _ σ2 hm2 hrge hR2 hb22 hb2ge h6 hx2 hfp (by simp (decide:=true) only [sR,t2]) (by simp (decide:=true) only [sR,t4]) (by simp (decide:=true) only [sR]))
 | cons w ws=>
  have hle:left3 p=cmb p.2.2 3:=by unfold left3;rw [hl];rfl
  rw [hl] at e hR2
  have d:decide (((w::ws).length:Int)>0)=true:=by simp
  obtain ⟨σ3,j1,j2,j3⟩:=W74 r (w::ws) _ 3 hp (.inr (.inr rfl)) σ2 hR2
  obtain ⟨⟨v1,hv1,_⟩,_⟩:=hR2
  simp only [sN,d,j1] at e
  rw [e]
  exact conv _ (by rw [hle]) _ (tail47 σ0 r b2 σ1.n (w::ws) _ p.1 hsm cs fp _ σ3 (hm2.trans j2) hrge j3 (hb22.mod j2 (by simpa using hne)) hb2ge (h6.mod j2 (by simpa using h6.ne hv1 (by omega))) (hx2.mod j2 (by intro y hy;simpa using hx2.off hv1 (by omega) (by omega) (by omega) y hy)) hfp (by simp (decide:=true) only [sR,t2]) (by simp (decide:=true) only [sR,t4]) (by simp (decide:=true) only [sR]))
end Go.Proofs.YtahgmmbmmcaejaaGreatDoor
namespace Go.Proofs.YtahgmmbmmcaejaaGreatDoor
open Go Go.Dt
set_option maxRecDepth 100000
theorem tailF_isE(x:ItemD)(e:Int)(h:isE e):∀ws,isE (tailF x e ws).2.2
 | []=>h
 | w::rs=>by
  simp only [tailF]
  cases w==[33] with
  | true=>
   cases wordF rs==errNm 7 with
   | true=>exact cmb_isE _ _
   | false=>cases wordF rs==errNm 16 with
    | true=>exact cmb_isE _ _
    | false=>exact cmb_isE _ _
  | false=>exact valFold_isE _ (cmb_isE _ _)
theorem tailF_small(x:ItemD)(e:Int)(n:Nat)(hi:x.ids.length≤n)(ha:x.atoms.length≤n)(hv:x.values=[])(hn:n<1000000000):∀ws,ws.length≤n→(tailF x e ws).1.small
 | [],_=>by simp only [tailF,ItemD.small,hv,List.length_nil];omega
 | w::rs,hl=>by
  simp only [tailF]
  have hb:x.small:=by simp only [ItemD.small,hv,List.length_nil];omega
  cases w==[33] with
  | true=>
   cases wordF rs==errNm 7 with
   | true=>exact hb
   | false=>cases wordF rs==errNm 16 with
    | true=>exact hb
    | false=>exact hb
  | false=>
   simp only [condF,ItemD.small,hv,List.nil_append,List.length_append,List.length_map,List.length_tail,List.length_singleton]
   simp at hl
   omega
theorem evW_len(ws:List (List UInt8)):(evW ws).length≤ws.length:=List.Sublist.length_le (List.takeWhile_sublist _)
theorem evR_len(ws:List (List UInt8)):(evR ws).length≤ws.length:=List.Sublist.length_le (List.dropWhile_sublist _)
theorem foundF_isE(err:Int)(ws:List (List UInt8)):isE (foundF err ws).2.2:=by
 unfold foundF
 refine tailF_isE _ _ ?_ _
 cases (evW ws.tail).isEmpty with
 | true=>exact cmb_isE _ _
 | false=>exact evFold_isE _ (cmb_isE _ _)
theorem foundF_small(err:Int)(ws:List (List UInt8))(h:ws.length<1000000000):(foundF err ws).1.small:=by
 unfold foundF
 have h1:=evW_len ws.tail
 have h2:=evR_len ws.tail
 simp only [List.length_tail] at h1 h2
 exact tailF_small _ _ ws.length (by simp;omega) (by simp;omega) rfl h _ (by omega)
theorem noticeF_isE(err:Int)(ws:List (List UInt8)):isE (noticeF err ws).2.2:=cmb_isE _ _
theorem noticeF_small(err:Int)(ws:List (List UInt8)):(noticeF err ws).1.small:=by simp [noticeF,ItemD.small]
theorem splitB_mem(c:UInt8):∀(l:List UInt8),∀w∈splitB c l,w.length≤l.length
 | [],w,h=>by simp [splitB] at h;subst h;simp
 | x::l,w,h=>by
  rw [splitB_cons] at h
  split at h
  ·rcases List.mem_cons.1 h with rfl | h
   ·simp
   ·have:=splitB_mem c l w h;simp;omega
  ·have hne:=splitB_ne c l
   cases hs:splitB c l with
   | nil=>exact (hne hs).elim
   | cons y ys=>
    rw [hs] at h
    simp only [glue,List.mem_cons] at h
    rcases h with rfl | h
    ·have:=splitB_mem c l y (by rw [hs];simp)
     simp;omega
    ·have:=splitB_mem c l w (by rw [hs];simp [h])
     simp;omega
theorem splitB_cnt(c:UInt8)(l:List UInt8):(splitB c l).length≤l.length+1:=by
 rw [splitB_len];have:=cnt_le c l;omega
theorem W47(s:List UInt8)(hs:s.length<500000000)(σ:St)(hw:WF σ):Out47 σ (W 47 [str s] σ) (finI (parseQ (splitB 32 s))) (finE (parseQ (splitB 32 s))):=by
 have e:=ec47 k47 (str s) σ
 have hA0:=At.new σ (.cells zero41 41 true 7)
 obtain ⟨v,σ1,k1,k2,k3⟩:=W67 s (by omega) 32 (σ.push (.cells zero41 41 true 7)) (WF.push hw _)
 have hb2:=hA0.grow k2
 obtain ⟨bv,o,cs,ow,rfl,hv2,hv3,hv4⟩:=k3
 have k3:Strs σ1 (.slice bv o (splitB 32 s).length (some (splitB 32 s).length) 1) (splitB 32 s):=⟨bv,o,cs,ow,rfl,hv2,hv3,hv4⟩
 simp only [sN,alloc41',k1,build133,box133] at e
 obtain ⟨σ2,hσ2⟩:∃σ2,σ2=σ1.push (.cells [.slice bv o (splitB 32 s).length (some (splitB 32 s).length) 1,intV .i64 0] 133 true 2):=⟨_,rfl⟩
 have hg2:Grow σ1 σ2:=by rw [hσ2];exact Grow.push _ _
 have hR:Rd σ2 σ1.n (splitB 32 s) 0:=by
  refine ⟨⟨_,?_,k3.grow hg2⟩,hg2.wf hv4⟩
  rw [hσ2];exact At.new _ _
 rw [← hσ2] at e
 have hn1:σ.n+1≤σ1.n:=k2.n
 have hg:Grow σ σ2:=((Grow.push _ _).trans k2).trans hg2
 obtain ⟨σ3,j1,j2,j3⟩:=W73 σ1.n (splitB 32 s) 0 (.inl rfl) σ2 hR
 have hne:=splitB_ne 32 s
 have hm3:Mod [σ1.n] σ σ3:=(hg.mod _).trans j2
 have hb23:=(hb2.grow hg2).mod j2 (by simp;omega)
 have h0:cmb 0 (wordE (splitB 32 s))=0:=by
  cases hsp:splitB 32 s with
  | nil=>exact (hne hsp).elim
  | cons w ws=>rfl
 rw [h0] at j3
 have hlen:∀w∈splitB 32 s,w.length<1099511627776:=fun w hw=>by have:=splitB_mem 32 s w hw;omega
 have hcnt:=splitB_cnt 32 s
 have htl:(splitB 32 s).tail.length<500000001:=by simp;omega
 have pull:∀y:R (AEnd×St),denK tab W 53 c47 k47 (argE [str s]) σ=y→∀q,Out47 σ y (finI q) (finE q)→Out47 σ (W 47 [str s] σ) (finI q) (finE q):=by
  rintro y hy q ⟨cs,σ',fp,q1,q2⟩
  exact ⟨cs,σ',fp,w47 (by simp) (hy.trans q1),q2⟩
 rw [ec47a] at e
 simp (decide:=true) only [sN,sR,j1] at e
 unfold parseQ
 cases hf:wordF (splitB 32 s)==[102,111,117,110,100] with
 | true=>
  rw [hf] at e
  simp only [sN,build137_0] at e
  simp only [condT]
  refine pull _ e _ ?_
  exact mid47 σ σ1.n σ.n _ (foundF_isE _ _) (foundF_small _ _ (by omega)) (AV.iface 137 (.agg [])) _ σ3 hm3 (by omega) (by omega) hb23 (Nat.le_refl _) (by simp (decide:=true) only [sR]) (by simp (decide:=true) only [sR]) (by simp (decide:=true) only [sR]) (by
   rw [inv165];exact W165 σ1.n _ (tail_len hlen) (by omega) 0 (.inl rfl) σ3 j3)
 | false=>
  rw [hf] at e
  simp only [sN] at e
  simp only [condF]
  cases hn:wordF (splitB 32 s)==[110,111,116,105,99,101] with
  | true=>
   rw [hn] at e
   simp only [sN,build138_0] at e
   simp only [condT]
   refine pull _ e _ ?_
   exact mid47 σ σ1.n σ.n _ (noticeF_isE _ _) (noticeF_small _ _) (AV.iface 138 (.agg [])) _ σ3 hm3 (by omega) (by omega) hb23 (Nat.le_refl _) (by simp (decide:=true) only [sR]) (by simp (decide:=true) only [sR]) (by simp (decide:=true) only [sR]) (by
    rw [inv171];exact W171 σ1.n _ (tail_len hlen) 0 (.inl rfl) σ3 j3)
  | false=>
   rw [hn] at e
   simp only [condF]
   refine pull _ rfl none ?_
   simp (decide:=true) only [sN,build41_0,stItem (ItemR.zero σ3) hb23] at e
   have hA:=hb23.set_same j3.wf (.cells zero41 41 true 7)
   refine ⟨zero41,σ3.set σ.n (.cells zero41 41 true 7),[],e.trans ?_,(hm3.grow (by simp;omega)).set (Nat.le_refl _) hb23.1 _,ItemR.zero _,by simp⟩
   exact ret47 (by simp (decide:=true) only [sR]) (by simp (decide:=true) only [sR];rfl) (lda a41 hA rfl rfl)
end Go.Proofs.YtahgmmbmmcaejaaGreatDoor
namespace Go.Proofs.YtahgmmbmmcaejaaGreatDoor
open Go Go.Dt
set_option maxRecDepth 100000
theorem u8lt(c:UInt8)(n:Nat):decide (((c.toNat:Nat):Int)<(n:Int))=decide (c.toNat<n):=by rw [decide_eq_decide];omega
theorem loop84(s:List UInt8)(hs:s.length<1099511627776)(σ:St):∀(m i:Nat),i+m=s.length→∀(T:Rg),T 0=str s→T 3=intV .i64 (i:Int)→
  if (s.drop i).all isDig then ∃T',loopLim (dd tab W 32 c84a) T σ= .ok (.exit 0 T' σ)
  else ∃T',loopLim (dd tab W 32 c84a) T σ= .ok (.ret T' σ)∧T' 2=boolV false:=by
 intro m
 induction m with
 | zero=>
  intro i hi T h0 h3
  have e:=ec84a kOc T σ
  have d1:decide ((i:Int)<(s.length:Int))=false:=by simp;omega
  simp only [sN,h0,h3,d1] at e
  rw [List.drop_eq_nil_of_le (by omega:s.length≤i)]
  simp only [List.all_nil,if_true]
  exact ⟨_,loop_exit (dd_of tab W 32 e)⟩
 | succ m ih=>
  intro i hi T h0 h3
  have hil:i<s.length:=by omega
  obtain ⟨c,hc⟩:∃c,s[i]? =some c:=⟨s[i],List.getElem?_eq_getElem hil⟩
  have hd:s.drop i=c::s.drop (i+1):=by
   rw [List.drop_eq_getElem_cons hil]
   rw [List.getElem?_eq_getElem hil] at hc
   rw [Option.some.inj hc]
  rw [hd]
  have e:=ec84a kOc T σ
  have d1:decide ((i:Int)<(s.length:Int))=true:=by simp;omega
  have w1:IntKind.i64.wrap ((i:Int)+1)=((i+1:Nat):Int):=i64_add1 i (by omega)
  simp only [sN,pickV_boolV,h0,h3,d1,indexS s i c hc,w1] at e
  by_cases h48:c.toNat<48
  ·have d2:decide (((c.toNat:Nat):Int)<48)=true:=by simp;omega
   have hn:isDig c=false:=by simp only [isDig,Bool.and_eq_false_iff,decide_eq_false_iff_not];omega
   simp only [sN,d2] at e
   have hall:¬(c::s.drop (i+1)).all isDig=true:=by simp [hn]
   rw [if_neg hall]
   exact ⟨_,loop_ret (dd_of tab W 32 e),by simp (decide:=true) only [sR]⟩
  ·have d2:decide (((c.toNat:Nat):Int)<48)=false:=by simp;omega
   by_cases h57:57<c.toNat
   ·have d3:decide (((c.toNat:Nat):Int)>57)=true:=by simp;omega
    have hn:isDig c=false:=by simp only [isDig,Bool.and_eq_false_iff,decide_eq_false_iff_not];omega
    simp only [sN,d2,indexS s i c hc,d3] at e
    have hall:¬(c::s.drop (i+1)).all isDig=true:=by simp [hn]
    rw [if_neg hall]
    exact ⟨_,loop_ret (dd_of tab W 32 e),by simp (decide:=true) only [sR]⟩
   ·have d3:decide (((c.toNat:Nat):Int)>57)=false:=by simp;omega
    have hn:isDig c=true:=by simp only [isDig,Bool.and_eq_true,decide_eq_true_eq];omega
    simp only [sN,d2,indexS s i c hc,d3] at e
    have hall:(c::s.drop (i+1)).all isDig=(s.drop (i+1)).all isDig:=by simp [hn]
    rw [hall]
    have key:∃T1,denK tab W 32 c84a kOc T σ= .ok (.nxt T1 σ)∧T1 0=str s∧T1 3=intV .i64 ((i+1:Nat):Int):=by
     refine ⟨_,e,?_,?_⟩<;>simp (decide:=true) only [sR,h0]
    obtain ⟨T1,e1,k0,k3⟩:=key
    have k:=ih (i+1) (by omega) T1 k0 k3
    split at k
    ·rename_i hk
     rw [if_pos hk]
     obtain ⟨T',q⟩:=k
     exact ⟨T',loop_next (dd_of tab W 32 e1) q⟩
    ·rename_i hk
     rw [if_neg hk]
     obtain ⟨T',q,q2⟩:=k
     exact ⟨T',loop_next (dd_of tab W 32 e1) q,q2⟩
theorem W84(s:List UInt8)(hs:s.length<1099511627776)(σ:St):W 84 [str s] σ= .ok (.ret (boolV (numS s).isSome),σ):=by
 refine w84 (by simp) ?_
 have e:=ec84 (kRet tab [.tmp 2]) (str s) σ
 simp only [sN,pickV_boolV] at e
 rw [e]
 cases s with
 | nil=>simp (decide:=true) only [sN,beq_self_eq_true,r84,sR,numS];rfl
 | cons c s=>
  have e0:(c::s==[])=false:=rfl
  have fin:∀T:Rg,T 0=str (c::s)→T 3=intV .i64 0→(numS (c::s)).isSome=(c::s).all isDig→
    bindR (loopLim (dd tab W 32 c84a) T σ) (K.app (kblk 0 (kseq (denK tab W 32 c84b (kRet tab [.tmp 2])) (kRet tab [.tmp 2]))))= .ok (.ret (boolV (numS (c::s)).isSome),σ):=by
   intro T h0 h3 hn
   have k:=loop84 (c::s) hs σ (c::s).length 0 (by omega) T h0 h3
   rw [List.drop_zero] at k
   rw [hn]
   split at k
   ·rename_i hk
    obtain ⟨T',q⟩:=k
    rw [q,hk]
    simp (decide:=true) only [sN,if_true,ec84b,r84,sR]
   ·rename_i hk
    obtain ⟨T',q,q2⟩:=k
    have hk':(c::s).all isDig=false:=by simpa using hk
    rw [q,hk']
    simp (decide:=true) only [sN,r84,q2]
  have a0:argE [str (c::s)] 0=str (c::s):=rfl
  by_cases hl:1<(c::s).length
  ·have hl':decide ((((c::s).length:Nat):Int)>1)=true:=decide_eq_true (by omega)
   by_cases h48:c=48
   ·have e1:(((c.toNat:Nat):Int)==48)=true:=by rw [h48];rfl
    simp (decide:=true) only [sN,pickV_boolV,e0,hl',index0,e1,r84,sR]
    have:numS (c::s)=none:=by simp only [numS];rw [if_pos];right;left;exact ⟨hl,by simp [h48]⟩
    rw [this];rfl
   ·have e1:(((c.toNat:Nat):Int)==48)=false:=by
     rw [beq_eq_false_iff_ne]
     intro h
     have:c.toNat=48:=by omega
     exact h48 (UInt8.toNat_inj.1 this)
    simp only [sN,pickV_boolV,e0,hl',index0,e1]
    refine fin _ (by simp (decide:=true) only [sR,a0]) (by simp (decide:=true) only [sR]) ?_
    simp only [numS]
    by_cases ha:(c::s).all isDig=true
    ·rw [if_neg,ha];rfl
     rintro (h | h | h)
     ·cases h
     ·exact h48 (by simpa using h.2)
     ·exact h ha
    ·rw [if_pos]
     ·simpa using ha
     ·right;right;exact ha
  ·have hl':decide ((((c::s).length:Nat):Int)>1)=false:=decide_eq_false (by omega)
   simp only [sN,pickV_boolV,e0,hl']
   refine fin _ (by simp (decide:=true) only [sR,a0]) (by simp (decide:=true) only [sR]) ?_
   simp only [numS]
   by_cases ha:(c::s).all isDig=true
   ·rw [if_neg,ha];rfl
    rintro (h | h | h)
    ·cases h
    ·exact hl h.1
    ·exact h ha
   ·rw [if_pos]
    ·simpa using ha
    ·right;right;exact ha
def cutL(l:List UInt8)(c:UInt8):List UInt8×List UInt8×Bool:=match ixL l c with
 | some j=>(l.take j,l.drop (j+1),true)
 | none=>([],[],false)
theorem loop98(l:List UInt8)(c:UInt8)(σ:St):∀(n:Nat),n≤l.length→n<4611686018427387904→∀(T:Rg),T 0=str l→T 1=intV .u8 (c.toNat:Int)→T 7=intV .i64 ((n:Int) - 1)→
  (∃j T',ixLn l c n=some j∧loopLim (dd tab W 27 c98a) T σ= .ok (.ret T' σ)∧T' 4=str (l.take j)∧T' 5=str (l.drop (j+1))∧T' 6=boolV true)∨(ixLn l c n=none∧∃T',loopLim (dd tab W 27 c98a) T σ= .ok (.exit 0 T' σ)):=by
 intro n
 induction n with
 | zero=>
  intro _ _ T h0 h1 h5
  have e:=ec98a kOc T σ
  have d1:decide (((0:Nat):Int) - 1≥0)=false:=rfl
  simp only [sN,h5,d1] at e
  exact .inr ⟨rfl,_,loop_exit (dd_of tab W 27 e)⟩
 | succ n ih=>
  intro hn hb T h0 h1 h5
  have e:=ec98a kOc T σ
  have e5:((n+1:Nat):Int) - 1=(n:Int):=by omega
  rw [e5] at h5
  have d1:decide ((n:Int)≥0)=true:=by simp
  obtain ⟨x,hx⟩:∃x,l[n]? =some x:=⟨l[n],List.getElem?_eq_getElem (by omega)⟩
  have w1:IntKind.i64.wrap ((n:Int) - 1)=(n:Int) - 1:=by simp [IntKind.wrap,IntKind.bits,IntKind.signed];omega
  have w2:IntKind.i64.wrap ((n:Int)+1)=((n+1:Nat):Int):=i64_add1 n (by omega)
  simp only [sN,h5,h0,h1,d1,indexS l n x hx,u8eq] at e
  by_cases hc:x=c
  ·subst hc
   have d2:(x==x)=true:=by simp
   simp only [sN,d2,sliceS_hi l n (by omega),w2,sliceS_lo l (n+1) (by omega)] at e
   refine .inl ⟨n,_,?_,loop_ret (dd_of tab W 27 e),?_,?_,?_⟩
   ·unfold ixLn;rw [if_pos hx]
   ·simp (decide:=true) only [sR]
   ·simp (decide:=true) only [sR]
   ·simp (decide:=true) only [sR]
  ·have d2:(x==c)=false:=by simpa using hc
   simp only [sN,d2,w1] at e
   have key:∃T1,denK tab W 27 c98a kOc T σ= .ok (.nxt T1 σ)∧T1 0=str l∧T1 1=intV .u8 (c.toNat:Int)∧T1 7=intV .i64 ((n:Int) - 1):=by
    refine ⟨_,e,?_,?_,?_⟩<;>simp (decide:=true) only [sR,h0,h1]
   obtain ⟨T1,e1,k0,k1,k5⟩:=key
   have hne:ixLn l c (n+1)=ixLn l c n:=by
    conv=>lhs;unfold ixLn
    rw [if_neg]
    rw [hx];intro h;exact hc (Option.some.inj h)
   rw [hne]
   rcases ih (by omega) (by omega) T1 k0 k1 k5 with ⟨j,T',q1,q2,q3⟩ | ⟨q1,T',q2⟩
   ·exact .inl ⟨j,T',q1,loop_next (dd_of tab W 27 e1) q2,q3⟩
   ·exact .inr ⟨q1,T',loop_next (dd_of tab W 27 e1) q2⟩
theorem W98(l:List UInt8)(hl:l.length<1099511627776)(c:UInt8)(σ:St):W 98 [str l,intV .u8 (c.toNat:Int)] σ= .ok (.ret (cutR (cutL l c)),σ):=by
 refine w98 (by simp) ?_
 rw [ec98]
 have w1:IntKind.i64.wrap ((l.length:Int) - 1)=(l.length:Int) - 1:=by simp [IntKind.wrap,IntKind.bits,IntKind.signed];omega
 simp only [sN,w1]
 have a0:argE [str l,intV .u8 (c.toNat:Int)] 0=str l:=rfl
 have a1:argE [str l,intV .u8 (c.toNat:Int)] 1=intV .u8 (c.toNat:Int):=rfl
 generalize hT:puts 27 _ _=T
 unfold cutL ixL
 rcases loop98 l c σ l.length (Nat.le_refl _) (by omega) T (by rw [← hT];simp (decide:=true) only [sR,a0]) (by rw [← hT];simp (decide:=true) only [sR,a1]) (by rw [← hT];simp (decide:=true) only [sR]) with ⟨j,T',q1,q2,q3,q4,q5⟩ | ⟨q1,T',q2⟩
 ·rw [q2,q1]
  simp (decide:=true) only [sN,r98,q3,q4,q5,cutR]
 ·rw [q2,q1]
  simp (decide:=true) only [sN,if_true,ec98b,r98,sR,cutR]
theorem el147:elemB 147 24 1=true:=by kernel_rfl
theorem sl147:sliceB 147=true:=by kernel_rfl
def pickE(s:List UInt8)(es:List Nat):Option Nat:=es.find? fun e=>errNm e==s
def pickR:Option Nat→AV
 | some e=> .tuple [intV .i64 (e:Int),boolV true]
 | none=> .tuple [intV .i64 0,boolV false]
theorem loop60(s:List UInt8)(b n:Nat)(hn:n<1000)(σ:St)(cs:List AV)(ow:Bool)(hA:At σ b (.cells cs 24 ow 1)):∀(es:List Nat) (i:Nat),(∀e∈es,e<24)→i+es.length=n→cs.drop i=es.map (fun (e:Nat)=>intV .i64 (e:Int))→∀(T:Rg),T 0=str s→T 1= .slice b 0 n (some n) 1→T 6=intV .i64 (i:Int)→
  (∃e T',pickE s es=some e∧loopLim (dd tab W 24 c60a) T σ= .ok (.ret T' σ)∧T' 4=intV .i64 (e:Int)∧T' 5=boolV true)∨(pickE s es=none∧∃T',loopLim (dd tab W 24 c60a) T σ= .ok (.exit 0 T' σ)):=by
 intro es
 induction es with
 | nil=>
  intro i _ hi _ T h0 h1 h6
  have e:=ec60a kOc T σ
  have d1:decide ((i:Int)<(n:Int))=false:=by simp at hi ⊢;omega
  simp only [sN,h6,h1,len_sl sl147,d1] at e
  exact .inr ⟨rfl,_,loop_exit (dd_of tab W 24 e)⟩
 | cons x es ih=>
  intro i hx hi hcs T h0 h1 h6
  have e:=ec60a kOc T σ
  simp only [List.length_cons] at hi
  have d1:decide ((i:Int)<(n:Int))=true:=by simp;omega
  have hg:cs[i*1]? =some (intV .i64 (x:Int)):=by
   have:=congrArg (fun l=>l[0]?) hcs
   simpa using this
  have hx24:=hx x (by simp)
  have w1:IntKind.i64.wrap ((i:Int)+1)=((i+1:Nat):Int):=i64_add1 i (by omega)
  have w51:W 51 [intV .i64 (x:Int)] σ= .ok (.ret (str (errNm x)),σ):=W51 x hx24 σ
  simp only [sN,h6,h1,len_sl sl147,d1,ixA0 el147 (show i<n by omega),ld l24 hA hg,w51,h0,w1] at e
  unfold pickE
  rw [List.find?_cons]
  cases hq:errNm x==s with
  | true=>
   rw [hq] at e
   simp only [sN] at e
   refine .inl ⟨x,_,rfl,loop_ret (dd_of tab W 24 e),?_,?_⟩<;>simp (decide:=true) only [sR]
  | false=>
   rw [hq] at e
   simp only [sN] at e
   have key:∃T1,denK tab W 24 c60a kOc T σ= .ok (.nxt T1 σ)∧T1 0=str s∧T1 1= .slice b 0 n (some n) 1∧T1 6=intV .i64 ((i+1:Nat):Int):=by
    refine ⟨_,e,?_,?_,?_⟩<;>simp (decide:=true) only [sR,h0,h1]
   obtain ⟨T1,e1,k0,k1,k5⟩:=key
   have hcs':cs.drop (i+1)=es.map (fun (e:Nat)=>intV .i64 (e:Int)):=by
    have:=congrArg (List.drop 1) hcs
    simpa [List.drop_drop] using this
   rcases ih (i+1) (fun y hy=>hx y (by simp [hy])) (by omega) hcs' T1 k0 k1 k5 with ⟨j,T',q1,q2,q3⟩ | ⟨q1,T',q2⟩
   ·exact .inl ⟨j,T',q1,loop_next (dd_of tab W 24 e1) q2,q3⟩
   ·exact .inr ⟨q1,T',loop_next (dd_of tab W 24 e1) q2⟩
theorem W60(s:List UInt8)(es:List Nat)(hes:∀e∈es,e<24)(hn:es.length<1000)(b:Nat)(σ:St)(ow:Bool)(hA:At σ b (.cells (es.map (fun (e:Nat)=>intV .i64 (e:Int))) 24 ow 1)):
  W 60 [str s,.slice b 0 es.length (some es.length) 1] σ= .ok (.ret (pickR (pickE s es)),σ):=by
 refine w60 (by simp) ?_
 rw [ec60]
 simp only [sN]
 have a0:argE [str s,.slice b 0 es.length (some es.length) 1] 0=str s:=rfl
 have a1:argE [str s,.slice b 0 es.length (some es.length) 1] 1= .slice b 0 es.length (some es.length) 1:=rfl
 generalize hT:puts 24 _ _=T
 rcases loop60 s b es.length hn σ _ ow hA es 0 hes (by omega) (by simp) T (by rw [← hT];simp (decide:=true) only [sR,a0]) (by rw [← hT];simp (decide:=true) only [sR,a1]) (by rw [← hT];simp (decide:=true) only [sR];rfl) with ⟨j,T',q1,q2,q3,q4⟩ | ⟨q1,T',q2⟩
 ·rw [q2,q1]
  simp (decide:=true) only [sN,r60,q3,q4,pickR]
 ·rw [q2,q1]
  simp (decide:=true) only [sN,if_true,ec60b,r60,sR,pickR]
end Go.Proofs.YtahgmmbmmcaejaaGreatDoor
namespace Go.Proofs.YtahgmmbmmcaejaaGreatDoor
open Go Go.Dt
set_option maxRecDepth 100000
noncomputable def k99:K (AEnd×St):=kRet tab [.tmp 2,.cell 3 26]
theorem ret99{T:Rg}{σ':St}{x v:AV}{b:Nat}(h2:T 2=x)(h3:T 3= .ptr b 0)(hl:loadV tab σ' 26 (.ptr b 0)= .ok v):k99.ret T σ'= .ok (.ret (.tuple [x,v]),σ'):=by
 simp only [k99,kRet,resK,h2,h3,hl,bindR_val]
 rfl
theorem bndAgg2(n:Nat)(x y:Int):bndA n (.agg [intV .i64 x,intV .i64 y])=true:=rfl
theorem tail99(σ0:St)(b3 b6:Nat)(l x y:Int)(T:Rg)(σ:St)(hw:WF σ)(hg:Grow σ0 σ)(h3:At σ b3 (.cells [intV .i64 0,intV .i64 0] 26 true 2))(h3ge:σ0.n≤b3)(h6:At σ b6 (.cells [intV .i64 x,intV .i64 y] 26 true 2))(t3:T 3= .ptr b3 0)(t6:T 6= .ptr b6 0)(t4:T 4=intV .u64 l):
  ∃e a σ',denK tab W 30 c99a k99 T σ= .ok (.ret (.tuple [intV .u64 (bif x !=0 then 0 else l),.agg [intV .i64 e,intV .i64 a]]),σ')∧Grow σ0 σ'∧(e !=0)=(x !=0):=by
 have e:=ec99a k99 T σ
 have l24':loadV tab σ 24 (.ptr b6 0)= .ok (intV .i64 x):=ld l24 h6 rfl
 have l26:loadV tab σ 26 (.ptr b6 0)= .ok (.agg [intV .i64 x,intV .i64 y]):=load26 h6.1 h6.2
 simp only [sN,t6,fa26_0,l24'] at e
 have lo:∀u v:Int,loadV tab (σ.set b3 (.cells [intV .i64 u,intV .i64 v] 26 true 2)) 26 (.ptr b3 0)= .ok (.agg [intV .i64 u,intV .i64 v]):=fun u v=>by
  have:=h3.set_same hw (.cells [intV .i64 u,intV .i64 v] 26 true 2)
  exact load26 this.1 this.2
 cases hx:x !=0 with
 | true=>
  rw [hx] at e
  have bp:bndA σ.n (.ptr b3 0)=true:=bnd_pt 0 h3.1
  simp only [sN,l26,sameR,beqA_agg,Bool.and_true,t3,all2,bp,bndAgg2,st26 h3,set_n,bleR] at e
  exact ⟨x,y,_,e.trans (ret99 (by simp (decide:=true) only [sR];rfl) (by simp (decide:=true) only [sR,t3]) (lo x y)),hg.set h3ge h3.1 _,hx⟩
 | false=>
  rw [hx] at e
  simp only [sN,t4,build26_0,t3,st26 h3] at e
  exact ⟨0,0,_,e.trans (ret99 (by simp (decide:=true) only [sR];rfl) (by simp (decide:=true) only [sR,t3]) (lo 0 0)),hg.set h3ge h3.1 _,rfl⟩
theorem lab99(s:List UInt8)(hs:s.length<1099511627776)(σ:St)(hw:WF σ):∃e a σ',W 99 [str s] σ= .ok (.ret (.tuple [intV .u64 (labV s),.agg [intV .i64 e,intV .i64 a]]),σ')∧Grow σ σ'∧(e !=0)=(labP s).isNone:=by
 have e:=ec99 k99 (str s) σ
 obtain ⟨σ1,hσ1⟩:∃σ1,σ1=σ.push (.cells [intV .i64 0,intV .i64 0] 26 true 2):=⟨_,rfl⟩
 have hw1:WF σ1:=by rw [hσ1];exact WF.push hw _
 have hg1:Grow σ σ1:=by rw [hσ1];exact Grow.push _ _
 have hA1:At σ1 σ.n (.cells [intV .i64 0,intV .i64 0] 26 true 2):=by rw [hσ1];exact At.new _ _
 simp only [sN,alloc26,← hσ1] at e
 have k:=W81 s hs σ1 hw1
 have mid:∀(l u x y:Int) (σ2:St),W 81 [str s] σ1= .ok (.ret (.tuple [intV .u64 l,intV .i64 u,.agg [intV .i64 x,intV .i64 y]]),σ2)→Grow σ1 σ2→∀X,((x !=0)=true→X=x)→((x !=0)=false→X=bif decide (u<(s.length:Int)) then 4 else 0)→
   ∃e a σ',W 99 [str s] σ= .ok (.ret (.tuple [intV .u64 (bif X !=0 then 0 else l),.agg [intV .i64 e,intV .i64 a]]),σ')∧Grow σ σ'∧(e !=0)=(X !=0):=by
  intro l u x y σ2 hW hg2 X hX1 hX2
  have hA2:=At.new σ2 (.cells [intV .i64 0,intV .i64 0] 26 true 2)
  obtain ⟨σ3,hσ3⟩:∃σ3,σ3=(σ2.push (.cells [intV .i64 0,intV .i64 0] 26 true 2)).set σ2.n (.cells [intV .i64 x,intV .i64 y] 26 true 2):=⟨_,rfl⟩
  have hst:storeV tab (σ2.push (.cells [intV .i64 0,intV .i64 0] 26 true 2)) 26 (.ptr σ2.n 0) (.agg [intV .i64 x,intV .i64 y])= .ok σ3:=by rw [hσ3];exact st26 hA2
  have hw2:=hg2.wf hw1
  have hA3:At σ3 σ2.n (.cells [intV .i64 x,intV .i64 y] 26 true 2):=by rw [hσ3];exact hA2.set_same (WF.push hw2 _) _
  have hg3:Grow σ2 σ3:=by rw [hσ3];exact (Grow.push _ _).set (Nat.le_refl _) hA2.1 _
  have hb3:=(hA1.grow hg2).grow hg3
  have hl24:loadV tab σ3 24 (.ptr σ2.n 0)= .ok (intV .i64 x):=ld l24 hA3 rfl
  have hg:Grow σ σ3:=(hg1.trans hg2).trans hg3
  have hw3:=hg3.wf hw2
  have hne:σ.n≠σ2.n:=by have:=hA1.1;have:=hg2.n;omega
  simp only [sN,pickV_boolV,hW,hst,fa26_0,hl24] at e
  have pull:∀y:R (AEnd×St),denK tab W 30 c99 k99 (argE [str s]) σ=y→(∃e a σ',y= .ok (.ret (.tuple [intV .u64 (bif X !=0 then 0 else l),.agg [intV .i64 e,intV .i64 a]]),σ')∧Grow σ σ'∧(e !=0)=(X !=0))→
    ∃e a σ',W 99 [str s] σ= .ok (.ret (.tuple [intV .u64 (bif X !=0 then 0 else l),.agg [intV .i64 e,intV .i64 a]]),σ')∧Grow σ σ'∧(e !=0)=(X !=0):=by
   rintro y hy ⟨e,a,σ',q1,q2⟩
   exact ⟨e,a,σ',w99 (by simp) (hy.trans q1),q2⟩
  cases hx:x==0 with
  | false=>
   have hx':(x !=0)=true:=by rw [bne,hx];rfl
   have:=hX1 hx'
   subst this
   rw [hx] at e
   simp only [sN] at e
   refine pull _ e ?_
   exact tail99 σ σ.n σ2.n l X y _ σ3 hw3 hg hb3 (Nat.le_refl _) hA3 (by simp (decide:=true) only [sR]) (by simp (decide:=true) only [sR]) (by simp (decide:=true) only [sR])
  | true=>
   have hx':(x !=0)=false:=by rw [bne,hx];rfl
   have hXe:=hX2 hx'
   have hx0:x=0:=by simpa using hx
   rw [hx] at e
   simp only [sN] at e
   cases hu:decide (u<(s.length:Int)) with
   | true=>
    rw [hu] at e hXe
    simp only [condT] at hXe
    simp only [sN,build26,st26 hA3] at e
    refine pull _ e ?_
    rw [hXe]
    have hA4:=hA3.set_same hw3 (.cells [intV .i64 4,intV .i64 u] 26 true 2)
    exact tail99 σ σ.n σ2.n l 4 u _ _ (hw3.set _ _) (hg.set (by have:=hA1.1;have:=hg1.n;have:=hg2.n;omega) hA3.1 _) (hb3.set_ne hA3.1 hne _) (Nat.le_refl _) hA4 (by simp (decide:=true) only [sR]) (by simp (decide:=true) only [sR]) (by simp (decide:=true) only [sR])
   | false=>
    rw [hu] at e hXe
    simp only [condF] at hXe
    simp only [sN] at e
    refine pull _ e ?_
    subst hx0
    rw [hXe]
    exact tail99 σ σ.n σ2.n l 0 y _ σ3 hw3 hg hb3 (Nat.le_refl _) hA3 (by simp (decide:=true) only [sR]) (by simp (decide:=true) only [sR]) (by simp (decide:=true) only [sR])
 unfold labV labP
 cases hl:labS s with
 | none=>
  rw [hl] at k
  obtain ⟨x,y,σ2,hx,h1,hg2⟩:=k
  have hx':(x !=0)=true:=by simpa using hx
  have:=mid _ _ _ _ _ h1 hg2 x (fun _=>rfl) (fun h=>by rw [hx'] at h;cases h)
  rw [hx'] at this
  exact this
 | some p=>
  rw [hl] at k
  obtain ⟨σ2,h1,hg2⟩:=k
  by_cases hp:p.2<s.length
  ·have:=mid _ _ _ _ _ h1 hg2 4 (fun h=>by cases h) (fun _=>by rw [decide_eq_true (by omega:((p.2:Nat):Int)<(s.length:Int))];rfl)
   simp only [if_pos hp]
   exact this
  ·have:=mid _ _ _ _ _ h1 hg2 0 (fun h=>by cases h) (fun _=>by rw [decide_eq_false (by omega:¬((p.2:Nat):Int)<(s.length:Int))];rfl)
   simp only [if_neg hp]
   exact this
end Go.Proofs.YtahgmmbmmcaejaaGreatDoor
namespace Go.Proofs.YtahgmmbmmcaejaaGreatDoor
open Go Go.Dt
set_option maxRecDepth 100000
def cod(f g:Bool):Int:=bif f then 3 else bif g then 2 else 0
theorem cod_isE(f g:Bool):isE (cod f g):=by cases f<;>cases g<;>simp [cod,isE]
theorem cod_cmb(f g f' g':Bool):cmb (cod f g) (cod f' g')=cod (f || f') (g || g'):=by cases f<;>cases g<;>cases f'<;>cases g'<;>rfl
def Keep(σ σ':St):Prop:=∀(b:Nat) (cs:List AV) (e:Nat) (ow:Bool) (sz:Nat),e=9∨e=41→At σ b (.cells cs e ow sz)→At σ' b (.cells cs e ow sz)
theorem Keep.refl(σ:St):Keep σ σ:=fun _ _ _ _ _ _ h=>h
theorem Keep.trans{a b c:St}(h:Keep a b)(k:Keep b c):Keep a c:=fun x cs e ow sz he hx=>k x cs e ow sz he (h x cs e ow sz he hx)
theorem Grow.keep{σ σ':St}(h:Grow σ σ'):Keep σ σ':=fun _ _ _ _ _ _ hx=>hx.grow h
theorem At.keep{σ:St}{b:Nat}{cs:List AV}{e sz:Nat}{ow:Bool}(hA:At σ b (.cells cs e ow sz))(he:e≠9∧e≠41)(o:AO):Keep σ (σ.set b o):=fun x cs' e' ow' sz' he' hx=>hx.set_ne hA.1 (hx.ne hA (by omega)) o
theorem Vec.keep{σ σ':St}{e sz n:Nat}{v:AV}{cs:List AV}{fp:List Nat}(hV:Vec σ e sz n v cs fp)(he:e≠9∧e≠41)(hm:Mod fp σ σ'):Keep σ σ':=by
 intro x cs' e' ow' sz' he' hx
 refine hx.mod hm ?_
 intro hxf
 rcases hV.is with ⟨_,_,rfl⟩ | ⟨c,rfl,hA,rfl⟩
 ·cases hxf
 ·simp only [List.mem_singleton] at hxf
  subst hxf
  exact hx.ne hA (by omega) rfl
structure RfW(σ0 σ:St)(r:Nat)(x:ItemD)(iv av vv:AV)(f g:Bool):Prop where
 grow:Grow σ0 σ
 wf:WF σ
 rge:σ0.n≤r
 at':At σ r (.cells [intV .i64 x.kind,intV .i64 x.query,iv,av,vv,intV .i64 x.err,intV .i64 x.count,boolV f,boolV g] 114 true 9)
 vecs:∃f1 f2 f3,Vec σ 74 2 x.ids.length iv (flat idC x.ids) f1∧Vec σ 3 1 x.atoms.length av (flat i1C x.atoms) f2∧Vec σ 2 1 x.values.length vv (flat i1C x.values) f3∧∀y∈f1++f2++f3,σ0.n≤y
theorem RfW.step{σ0 σ σ':St}{r:Nat}{x:ItemD}{iv av vv:AV}{f g:Bool}(h:RfW σ0 σ r x iv av vv f g)(hg:Grow σ σ'):RfW σ0 σ' r x iv av vv f g:=by
 obtain ⟨f1,f2,f3,k1,k2,k3,k4⟩:=h.vecs
 exact ⟨h.grow.trans hg,hg.wf h.wf,h.rge,h.at'.grow hg,f1,f2,f3,k1.grow hg,k2.grow hg,k3.grow hg,k4⟩
theorem fa114_0(b:Nat):fieldAddr tab 114 (.ptr b 0) 0= .ok (.ptr b 0):=by kernel_rfl
theorem fa114_1(b:Nat):fieldAddr tab 114 (.ptr b 0) 1= .ok (.ptr b 7):=by kernel_rfl
theorem fa114_2(b:Nat):fieldAddr tab 114 (.ptr b 0) 2= .ok (.ptr b 8):=by kernel_rfl
theorem l4:leafB 4=true:=by kernel_rfl
theorem sz4:sizeB 4 1=true:=by kernel_rfl
theorem l2:leafB 2=true:=by kernel_rfl
theorem l41s:aggB 41 7=true:=a41
theorem RfW.upd{σ0 σ:St}{r:Nat}{x:ItemD}{iv av vv:AV}{f g:Bool}(h:RfW σ0 σ r x iv av vv f g)(x':ItemD)(f' g':Bool)(h1:x'.ids=x.ids)(h2:x'.atoms=x.atoms)(h3:x'.values=x.values):
  RfW σ0 (σ.set r (.cells [intV .i64 x'.kind,intV .i64 x'.query,iv,av,vv,intV .i64 x'.err,intV .i64 x'.count,boolV f',boolV g'] 114 true 9)) r x' iv av vv f' g':=by
 obtain ⟨f1,f2,f3,k1,k2,k3,k4⟩:=h.vecs
 have hs:Mod [r] σ (σ.set r (.cells [intV .i64 x'.kind,intV .i64 x'.query,iv,av,vv,intV .i64 x'.err,intV .i64 x'.count,boolV f',boolV g'] 114 true 9)):=Mod.set (by simp) h.at'.1 _
 refine ⟨h.grow.set h.rge h.at'.1 _,h.wf.set _ _,h.rge,h.at'.set_same h.wf _,f1,f2,f3,?_,?_,?_,k4⟩
 ·rw [h1];exact k1.mod hs (by intro y hy;simpa using k1.off h.at' (by omega) y hy)
 ·rw [h2];exact k2.mod hs (by intro y hy;simpa using k2.off h.at' (by omega) y hy)
 ·rw [h3];exact k3.mod hs (by intro y hy;simpa using k3.off h.at' (by omega) y hy)
theorem RfW.setF{σ0 σ:St}{r:Nat}{x:ItemD}{iv av vv:AV}{f g:Bool}(h:RfW σ0 σ r x iv av vv f g)(f':Bool):∃σ1,storeV tab σ 4 (.ptr r 7) (boolV f')= .ok σ1∧RfW σ0 σ1 r x iv av vv f' g∧Keep σ σ1∧σ1.n=σ.n:=
 ⟨_,stv (o:=7) (x:=boolV f') sz4 h.at' rfl (by omega) (by simp) rfl,h.upd x f' g rfl rfl rfl,h.at'.keep (by omega) _,rfl⟩
theorem RfW.setG{σ0 σ:St}{r:Nat}{x:ItemD}{iv av vv:AV}{f g:Bool}(h:RfW σ0 σ r x iv av vv f g)(g':Bool):∃σ1,storeV tab σ 4 (.ptr r 8) (boolV g')= .ok σ1∧RfW σ0 σ1 r x iv av vv f g'∧Keep σ σ1∧σ1.n=σ.n:=
 ⟨_,stv (o:=8) (x:=boolV g') sz4 h.at' rfl (by omega) (by simp) rfl,h.upd x f g' rfl rfl rfl,h.at'.keep (by omega) _,rfl⟩
theorem RfW.setKind{σ0 σ:St}{r:Nat}{x:ItemD}{iv av vv:AV}{f g:Bool}(h:RfW σ0 σ r x iv av vv f g)(n:Int):∃σ1,storeV tab σ 3 (.ptr r 0) (intV .i64 n)= .ok σ1∧RfW σ0 σ1 r {x with kind:=n} iv av vv f g∧Keep σ σ1:=
 ⟨_,stv (o:=0) (x:=intV .i64 n) sz3 h.at' rfl (by omega) (by simp) rfl,h.upd {x with kind:=n} f g rfl rfl rfl,h.at'.keep (by omega) _⟩
theorem RfW.setQuery{σ0 σ:St}{r:Nat}{x:ItemD}{iv av vv:AV}{f g:Bool}(h:RfW σ0 σ r x iv av vv f g)(n:Int):∃σ1,storeV tab σ 3 (.ptr r 1) (intV .i64 n)= .ok σ1∧RfW σ0 σ1 r {x with query:=n} iv av vv f g∧Keep σ σ1:=
 ⟨_,stv (o:=1) (x:=intV .i64 n) sz3 h.at' rfl (by omega) (by simp) rfl,h.upd {x with query:=n} f g rfl rfl rfl,h.at'.keep (by omega) _⟩
theorem RfW.setErr{σ0 σ:St}{r:Nat}{x:ItemD}{iv av vv:AV}{f g:Bool}(h:RfW σ0 σ r x iv av vv f g)(n:Int):∃σ1,storeV tab σ 24 (.ptr r 5) (intV .i64 n)= .ok σ1∧RfW σ0 σ1 r {x with err:=n} iv av vv f g∧Keep σ σ1:=
 ⟨_,stv (o:=5) (x:=intV .i64 n) sz24 h.at' rfl (by omega) (by simp) rfl,h.upd {x with err:=n} f g rfl rfl rfl,h.at'.keep (by omega) _⟩
theorem RfW.setCount{σ0 σ:St}{r:Nat}{x:ItemD}{iv av vv:AV}{f g:Bool}(h:RfW σ0 σ r x iv av vv f g)(n:Int):∃σ1,storeV tab σ 3 (.ptr r 6) (intV .i64 n)= .ok σ1∧RfW σ0 σ1 r {x with count:=n} iv av vv f g∧Keep σ σ1:=
 ⟨_,stv (o:=6) (x:=intV .i64 n) sz3 h.at' rfl (by omega) (by simp) rfl,h.upd {x with count:=n} f g rfl rfl rfl,h.at'.keep (by omega) _⟩
theorem RfW.ldF{σ0 σ:St}{r:Nat}{x:ItemD}{iv av vv:AV}{f g:Bool}(h:RfW σ0 σ r x iv av vv f g):loadV tab σ 4 (.ptr r 7)= .ok (boolV f):=ld l4 h.at' rfl
theorem RfW.ldG{σ0 σ:St}{r:Nat}{x:ItemD}{iv av vv:AV}{f g:Bool}(h:RfW σ0 σ r x iv av vv f g):loadV tab σ 4 (.ptr r 8)= .ok (boolV g):=ld l4 h.at' rfl
theorem RfW.lt{σ0 σ:St}{r:Nat}{x:ItemD}{iv av vv:AV}{f g:Bool}(h:RfW σ0 σ r x iv av vv f g):r<σ.n:=h.at'.1
theorem RfW.addId{σ0 σ:St}{r:Nat}{x:ItemD}{iv av vv:AV}{f g:Bool}(h:RfW σ0 σ r x iv av vv f g)(hl:x.ids.length+1<1073741824)(l n:Int):
  loadV tab σ 37 (.ptr r 2)= .ok iv∧beqA iv iv=true∧bndA (σ.n+1) iv=true∧∃σ1 v' σ2,appendV tab (σ.push (.cells [intV .u64 l,intV .u64 n] 74 true 2)) 37 37 iv (.slice σ.n 0 1 (some 1) 2)= .ok (v',σ1)∧σ1.n=σ.n+2∧bndA (σ.n+2) v'=true∧
   storeV tab σ1 37 (.ptr r 2) v'= .ok σ2∧σ2.n=σ.n+2∧RfW σ0 σ2 r {x with ids:=x.ids++[(l,n)]} v' av vv f g∧Keep σ σ2:=by
 obtain ⟨f1,f2,f3,k1,k2,k3,k4⟩:=h.vecs
 obtain ⟨σ1,v',a1,a2,a3,a4⟩:=vapp (new:=[intV .u64 l,intV .u64 n]) app37 h.wf k1 hl rfl rfl
 have hr1:=h.at'.mod a3 (fun hb=>k1.off h.at' (by omega) r hb rfl)
 have hw1:=a3.wf h.wf
 have hst:=stv (o:=2) (x:=v') sz37 hr1 (by rw [a2.cell];rfl) (by omega) (by simp) (by rw [a2.cell];simp [a2.one])
 rw [a2.cell] at hst
 have hs:Mod [r] σ1 (σ1.set r (.cells [intV .i64 x.kind,intV .i64 x.query,v',av,vv,intV .i64 x.err,intV .i64 x.count,boolV f,boolV g] 114 true 9)):=Mod.set (by simp) hr1.1 _
 have i2:=k2.mod a3 (k2.offV k1 (by omega))
 have i3:=k3.mod a3 (k3.offV k1 (by omega))
 have j1:Vec (σ1.set r (.cells [intV .i64 x.kind,intV .i64 x.query,v',av,vv,intV .i64 x.err,intV .i64 x.count,boolV f,boolV g] 114 true 9)) 74 2 (x.ids++[(l,n)]).length v' (flat idC (x.ids++[(l,n)])) [σ.n+1]:=by
  rw [flat_app,flat_one,List.length_append];exact a2.mod hs (by intro y hy;simpa using a2.off hr1 (by omega) y hy)
 have j2:=i2.mod hs (by intro y hy;simpa using i2.off hr1 (by omega) y hy)
 have j3:=i3.mod hs (by intro y hy;simpa using i3.off hr1 (by omega) y hy)
 refine ⟨ld l37 h.at' rfl,k1.beq,k1.bnd (by omega),σ1,v',_,a1,a4,a2.bnd (by omega),hst,by rw [set_n];exact a4,⟨?_,hw1.set _ _,h.rge,hr1.set_same hw1 _,[σ.n+1],f2,f3,j1,j2,j3,?_⟩,(k1.keep (by omega) a3).trans (hr1.keep (by omega) _)⟩
 ·exact (((h.grow.mod []).trans' a3 (fun y hy=> .inr (k4 y (by simp [hy])))).trans' hs (fun y hy=> .inr (by simp only [List.mem_singleton] at hy;subst hy;exact h.rge))).grow (by simp)
 ·intro y hy
  have:=h.grow.n
  simp only [List.mem_append,List.mem_singleton] at hy
  rcases hy with (hy | hy) | hy
  ·first | omega | exact k4 y (by simp [hy])
  ·first | omega | exact k4 y (by simp [hy])
  ·first | omega | exact k4 y (by simp [hy])
theorem RfW.addAtom{σ0 σ:St}{r:Nat}{x:ItemD}{iv av vv:AV}{f g:Bool}(h:RfW σ0 σ r x iv av vv f g)(hl:x.atoms.length+1<1073741824)(n:Int):
  loadV tab σ 38 (.ptr r 3)= .ok av∧beqA av av=true∧bndA (σ.n+1) av=true∧∃σ1 v' σ2,appendV tab (σ.push (.cells [intV .i64 n] 3 true 1)) 38 38 av (.slice σ.n 0 1 (some 1) 1)= .ok (v',σ1)∧σ1.n=σ.n+2∧bndA (σ.n+2) v'=true∧
   storeV tab σ1 38 (.ptr r 3) v'= .ok σ2∧σ2.n=σ.n+2∧RfW σ0 σ2 r {x with atoms:=x.atoms++[n]} iv v' vv f g∧Keep σ σ2:=by
 obtain ⟨f1,f2,f3,k1,k2,k3,k4⟩:=h.vecs
 obtain ⟨σ1,v',a1,a2,a3,a4⟩:=vapp (new:=[intV .i64 n]) app38 h.wf k2 hl rfl rfl
 have hr1:=h.at'.mod a3 (fun hb=>k2.off h.at' (by omega) r hb rfl)
 have hw1:=a3.wf h.wf
 have hst:=stv (o:=3) (x:=v') sz38 hr1 (by rw [a2.cell];rfl) (by omega) (by simp) (by rw [a2.cell];simp [a2.one])
 rw [a2.cell] at hst
 have hs:Mod [r] σ1 (σ1.set r (.cells [intV .i64 x.kind,intV .i64 x.query,iv,v',vv,intV .i64 x.err,intV .i64 x.count,boolV f,boolV g] 114 true 9)):=Mod.set (by simp) hr1.1 _
 have i2:=k1.mod a3 (k1.offV k2 (by omega))
 have i3:=k3.mod a3 (k3.offV k2 (by omega))
 have j1:Vec (σ1.set r (.cells [intV .i64 x.kind,intV .i64 x.query,iv,v',vv,intV .i64 x.err,intV .i64 x.count,boolV f,boolV g] 114 true 9)) 3 1 (x.atoms++[n]).length v' (flat i1C (x.atoms++[n])) [σ.n+1]:=by
  rw [flat_app,flat_one,List.length_append];exact a2.mod hs (by intro y hy;simpa using a2.off hr1 (by omega) y hy)
 have j2:=i2.mod hs (by intro y hy;simpa using i2.off hr1 (by omega) y hy)
 have j3:=i3.mod hs (by intro y hy;simpa using i3.off hr1 (by omega) y hy)
 refine ⟨ld l38 h.at' rfl,k2.beq,k2.bnd (by omega),σ1,v',_,a1,a4,a2.bnd (by omega),hst,by rw [set_n];exact a4,⟨?_,hw1.set _ _,h.rge,hr1.set_same hw1 _,f1,[σ.n+1],f3,j2,j1,j3,?_⟩,(k2.keep (by omega) a3).trans (hr1.keep (by omega) _)⟩
 ·exact (((h.grow.mod []).trans' a3 (fun y hy=> .inr (k4 y (by simp [hy])))).trans' hs (fun y hy=> .inr (by simp only [List.mem_singleton] at hy;subst hy;exact h.rge))).grow (by simp)
 ·intro y hy
  have:=h.grow.n
  simp only [List.mem_append,List.mem_singleton] at hy
  rcases hy with (hy | hy) | hy
  ·first | omega | exact k4 y (by simp [hy])
  ·first | omega | exact k4 y (by simp [hy])
  ·first | omega | exact k4 y (by simp [hy])
theorem RfW.addVal{σ0 σ:St}{r:Nat}{x:ItemD}{iv av vv:AV}{f g:Bool}(h:RfW σ0 σ r x iv av vv f g)(hl:x.values.length+1<1073741824)(n:Int):
  loadV tab σ 39 (.ptr r 4)= .ok vv∧beqA vv vv=true∧bndA (σ.n+1) vv=true∧∃σ1 v' σ2,appendV tab (σ.push (.cells [intV .i64 n] 2 true 1)) 39 39 vv (.slice σ.n 0 1 (some 1) 1)= .ok (v',σ1)∧σ1.n=σ.n+2∧bndA (σ.n+2) v'=true∧
   storeV tab σ1 39 (.ptr r 4) v'= .ok σ2∧σ2.n=σ.n+2∧RfW σ0 σ2 r {x with values:=x.values++[n]} iv av v' f g∧Keep σ σ2:=by
 obtain ⟨f1,f2,f3,k1,k2,k3,k4⟩:=h.vecs
 obtain ⟨σ1,v',a1,a2,a3,a4⟩:=vapp (new:=[intV .i64 n]) app39 h.wf k3 hl rfl rfl
 have hr1:=h.at'.mod a3 (fun hb=>k3.off h.at' (by omega) r hb rfl)
 have hw1:=a3.wf h.wf
 have hst:=stv (o:=4) (x:=v') sz39 hr1 (by rw [a2.cell];rfl) (by omega) (by simp) (by rw [a2.cell];simp [a2.one])
 rw [a2.cell] at hst
 have hs:Mod [r] σ1 (σ1.set r (.cells [intV .i64 x.kind,intV .i64 x.query,iv,av,v',intV .i64 x.err,intV .i64 x.count,boolV f,boolV g] 114 true 9)):=Mod.set (by simp) hr1.1 _
 have i2:=k1.mod a3 (k1.offV k3 (by omega))
 have i3:=k2.mod a3 (k2.offV k3 (by omega))
 have j1:Vec (σ1.set r (.cells [intV .i64 x.kind,intV .i64 x.query,iv,av,v',intV .i64 x.err,intV .i64 x.count,boolV f,boolV g] 114 true 9)) 2 1 (x.values++[n]).length v' (flat i1C (x.values++[n])) [σ.n+1]:=by
  rw [flat_app,flat_one,List.length_append];exact a2.mod hs (by intro y hy;simpa using a2.off hr1 (by omega) y hy)
 have j2:=i2.mod hs (by intro y hy;simpa using i2.off hr1 (by omega) y hy)
 have j3:=i3.mod hs (by intro y hy;simpa using i3.off hr1 (by omega) y hy)
 refine ⟨ld l39 h.at' rfl,k3.beq,k3.bnd (by omega),σ1,v',_,a1,a4,a2.bnd (by omega),hst,by rw [set_n];exact a4,⟨?_,hw1.set _ _,h.rge,hr1.set_same hw1 _,f1,f2,[σ.n+1],j2,j3,j1,?_⟩,(k3.keep (by omega) a3).trans (hr1.keep (by omega) _)⟩
 ·exact (((h.grow.mod []).trans' a3 (fun y hy=> .inr (k4 y (by simp [hy])))).trans' hs (fun y hy=> .inr (by simp only [List.mem_singleton] at hy;subst hy;exact h.rge))).grow (by simp)
 ·intro y hy
  have:=h.grow.n
  simp only [List.mem_append,List.mem_singleton] at hy
  rcases hy with (hy | hy) | hy
  ·first | omega | exact k4 y (by simp [hy])
  ·first | omega | exact k4 y (by simp [hy])
  ·first | omega | exact k4 y (by simp [hy])
end Go.Proofs.YtahgmmbmmcaejaaGreatDoor
