/-
  A part of the proof. No statement of this seat stands here.
-/
import Derived.Test.YtahgmmbmmcaejaaGreatDoorP20
namespace Go.Proofs.YtahgmmbmmcaejaaGreatDoor
open Go Go.Dt
set_option maxRecDepth 100000
theorem splice_app(l:List AV):∀(A B:List AV) (k:Nat),splice (A++B) (A.length+k) l=A++splice B k l
 | [],B,k=>by simp
 | a::A,B,k=>by
  rw [List.cons_append,List.length_cons,(by omega:A.length+1+k=(A.length+k)+1)]
  show a::splice (A++B) (A.length+k) l=_
  rw [splice_app l A B k];rfl
theorem ItemR.nodup{σ:St}{cs:List AV}{x:ItemD}{f:List Nat}(h:ItemR σ cs x f):f.Nodup:=by
 obtain ⟨_,_,_,f1,f2,f3,_,k1,k2,k3,rfl⟩:=h.is
 have vn:∀ {e sz n:Nat} {v:AV} {cs:List AV} {fp:List Nat},Vec σ e sz n v cs fp→fp.Nodup:=by
  intro e sz n v cs fp hV
  rcases hV.is with ⟨_,_,rfl⟩ | ⟨b,_,_,rfl⟩<;>simp
 have d12:=k1.offV k2 (by omega)
 have d13:=k1.offV k3 (by omega)
 have d23:=k2.offV k3 (by omega)
 rw [List.nodup_append,List.nodup_append]
 refine ⟨⟨vn k1,vn k2,?_⟩,vn k3,?_⟩
 ·intro a ha b hb hab;subst hab;exact d12 a ha hb
 ·intro a ha b hb hab
  subst hab
  rcases List.mem_append.1 ha with ha | ha
  ·exact d13 a ha hb
  ·exact d23 a ha hb
structure LastR(σ0 σ:St)(v:AV)(rs:List RepD)(r:RepD)(b:Nat)(iv rv:AV):Prop where
 wf:WF σ
 grow:Grow σ0 σ
 v:v= .slice b 0 (rs.length+1) none 6
 is:∃rows fs irows f1 f2 f3,At σ b (.cells (rows.flatten++[intV .i64 r.to,intV .i64 r.err,intV .i64 r.at',intV .i64 r.num,iv,rv]) 36 true 6)∧rows.flatten.length=rs.length*6∧RepsR σ rows rs fs∧
  Vec σ 41 7 r.items.length iv irows.flatten f1∧RowsR σ irows r.items f2∧Vec σ 77 6 r.recs.length rv (flat recC r.recs) f3∧(b::(fs.flatten++(f1++(f2++f3)))).Nodup∧(∀y∈b::(fs.flatten++(f1++(f2++f3))),σ0.n≤y)
theorem OutR.toLast{σ0 σ:St}{v:AV}{rs:List RepD}{r:RepD}(h:OutR σ0 σ v (rs++[r])):∃b iv rv,LastR σ0 σ v rs r b iv rv:=by
 obtain ⟨rows,f0,fs,k1,k2,k3,k4⟩:=h.is
 obtain ⟨rows',cs,fs',f,rfl,rfl,m1,m2⟩:=k2.last
 obtain ⟨iv,rv,irows,f1,f2,f3,rfl,n1,n2,n3,rfl⟩:=m2.is
 have hl:=m1.lens
 have hfl:rows'.flatten.length=rs.length*6:=by rw [rows_len 6 rows' hl.1,hl.2]
 rcases k1.is with ⟨_,h2,_⟩ | ⟨b,hv,hA,rfl⟩
 ·simp at h2
 ·refine ⟨b,iv,rv,h.wf,h.grow,by rw [hv];simp,rows',fs',irows,f1,f2,f3,?_,hfl,m1,n1,n2,n3,?_,?_⟩
  ·rw [List.flatten_append] at hA
   have:[[intV .i64 r.to,intV .i64 r.err,intV .i64 r.at',intV .i64 r.num,iv,rv]].flatten=[intV .i64 r.to,intV .i64 r.err,intV .i64 r.at',intV .i64 r.num,iv,rv]:=by simp
   rw [this] at hA;exact hA
  ·simpa [List.flatten_append,List.append_assoc] using k3
  ·simpa [List.flatten_append,List.append_assoc] using k4
theorem LastR.toOut{σ0 σ:St}{v:AV}{rs:List RepD}{r:RepD}{b:Nat}{iv rv:AV}(h:LastR σ0 σ v rs r b iv rv):OutR σ0 σ v (rs++[r]):=by
 obtain ⟨rows,fs,irows,f1,f2,f3,hA,hl,m1,n1,n2,n3,hnd,hge⟩:=h.is
 have hrep:RepR σ [intV .i64 r.to,intV .i64 r.err,intV .i64 r.at',intV .i64 r.num,iv,rv] r (f1++f2++f3):=⟨iv,rv,irows,f1,f2,f3,rfl,n1,n2,n3,rfl⟩
 refine ⟨h.wf,h.grow,rows++[[intV .i64 r.to,intV .i64 r.err,intV .i64 r.at',intV .i64 r.num,iv,rv]],[b],fs++[f1++f2++f3],⟨?_,.inr ⟨b,?_,?_,rfl⟩⟩,m1.snoc hrep,?_,?_⟩
 ·simp only [List.flatten_append,List.length_append,hl,List.flatten_cons,List.flatten_nil,List.append_nil,List.length_cons,List.length_nil];omega
 ·rw [h.v];simp
 ·simpa [List.flatten_append] using hA
 ·simpa [List.flatten_append,List.append_assoc] using hnd
 ·simpa [List.flatten_append,List.append_assoc] using hge
theorem LastR.ix{σ0 σ:St}{v:AV}{rs:List RepD}{r:RepD}{b:Nat}{iv rv:AV}(h:LastR σ0 σ v rs r b iv rv):indexAddr tab 23 v (intV .i64 (rs.length:Int))= .ok (.ptr b (rs.length*6)):=by
 rw [h.v];exact ixA0 el23 (by omega)
theorem LastR.lt{σ0 σ:St}{v:AV}{rs:List RepD}{r:RepD}{b:Nat}{iv rv:AV}(h:LastR σ0 σ v rs r b iv rv):b<σ.n:=by
 obtain ⟨rows,fs,irows,f1,f2,f3,hA,_⟩:=h.is
 exact hA.1
theorem LastR.rep{σ0 σ:St}{v:AV}{rs:List RepD}{r:RepD}{b:Nat}{iv rv:AV}(h:LastR σ0 σ v rs r b iv rv):∃cs fp,loadV tab σ 36 (.ptr b (rs.length*6))= .ok (.agg cs)∧RepR σ cs r fp:=by
 obtain ⟨rows,fs,irows,f1,f2,f3,hA,hl,m1,n1,n2,n3,hnd,hge⟩:=h.is
 refine ⟨_,_,lda a36 hA (l:=[intV .i64 r.to,intV .i64 r.err,intV .i64 r.at',intV .i64 r.num,iv,rv]) ?_ rfl,⟨iv,rv,irows,f1,f2,f3,rfl,n1,n2,n3,rfl⟩⟩
 rw [← hl,List.drop_left];rfl
theorem LastR.cell{σ0 σ:St}{v:AV}{rs:List RepD}{r:RepD}{b:Nat}{iv rv:AV}(_:LastR σ0 σ v rs r b iv rv)(rows:List (List AV))(hA:At σ b (.cells (rows.flatten++[intV .i64 r.to,intV .i64 r.err,intV .i64 r.at',intV .i64 r.num,iv,rv]) 36 true 6))(hl:rows.flatten.length=rs.length*6)(k:Nat)(x:AV)
  (hx:[intV .i64 r.to,intV .i64 r.err,intV .i64 r.at',intV .i64 r.num,iv,rv][k]? =some x) {t:Nat} (ht:leafB t=true):loadV tab σ t (.ptr b (rs.length*6+k))= .ok x:=by
 refine ld ht hA ?_
 rw [← hl,List.getElem?_append_right (by omega),(by omega:rows.flatten.length+k - rows.flatten.length=k)]
 exact hx
theorem fa36_4'(b o:Nat):fieldAddr tab 36 (.ptr b o) 4= .ok (.ptr b (o+4)):=fa36_4 b o
theorem LastR.addRec{σ0 σ:St}{v:AV}{rs:List RepD}{r:RepD}{b:Nat}{iv rv:AV}(h:LastR σ0 σ v rs r b iv rv)(hn:r.recs.length+1<1073741824)(x:RecD):
  loadV tab σ 34 (.ptr b (rs.length*6+5))= .ok rv∧beqA rv rv=true∧bndA (σ.n+1) rv=true∧lenV tab 34 rv= .ok (intV .i64 (r.recs.length:Int))∧
  ∃σ1 rv' σ2,appendV tab (σ.push (.cells (recC x) 77 true 6)) 34 34 rv (.slice σ.n 0 1 (some 1) 6)= .ok (rv',σ1)∧σ1.n=σ.n+2∧bndA (σ.n+2) rv'=true∧
   storeV tab σ1 34 (.ptr b (rs.length*6+5)) rv'= .ok σ2∧σ2.n=σ.n+2∧LastR σ0 σ2 v rs {r with recs:=r.recs++[x]} b iv rv'∧
   (∀(c:Nat) (cs:List AV) (e sz:Nat) (ow:Bool),e≠36→e≠77→At σ c (.cells cs e ow sz)→At σ1 c (.cells cs e ow sz)∧At σ2 c (.cells cs e ow sz)):=by
 obtain ⟨rows,fs,irows,f1,f2,f3,hA,hl,m1,n1,n2,n3,hnd,hge⟩:=h.is
 obtain ⟨σ1,rv',a1,a2,a3,a4⟩:=vapp (new:=recC x) app34 h.wf n3 hn (recC_len x) rfl
 have hw1:=a3.wf h.wf
 have hn0:=h.grow.n
 have nd:b∉fs.flatten++(f1++(f2++f3))∧(fs.flatten++(f1++(f2++f3))).Nodup:=List.nodup_cons.1 hnd
 have nd2:=List.nodup_append.1 nd.2
 have nd3:=List.nodup_append.1 nd2.2.1
 have nd4:=List.nodup_append.1 nd3.2.1
 have bf3:b∉f3:=fun hb=>nd.1 (by simp [hb])
 have hA1:=hA.mod a3 bf3
 have hone:rv'.cells.all AV.oneCell=true:=by rw [a2.cell];simp [a2.one]
 have hst:=stv (o:=rs.length*6+5) (x:=rv') sz34 hA1 (by rw [a2.cell];rfl) (by omega) (by rw [List.length_append,hl];simp) hone
 have hsp:splice (rows.flatten++[intV .i64 r.to,intV .i64 r.err,intV .i64 r.at',intV .i64 r.num,iv,rv]) (rs.length*6+5) rv'.cells=rows.flatten++[intV .i64 r.to,intV .i64 r.err,intV .i64 r.at',intV .i64 r.num,iv,rv']:=by
  rw [← hl,splice_app,a2.cell];rfl
 rw [hsp] at hst
 obtain ⟨σ2,hσ2⟩:∃σ2,σ2=σ1.set b (.cells (rows.flatten++[intV .i64 r.to,intV .i64 r.err,intV .i64 r.at',intV .i64 r.num,iv,rv']) 36 true 6):=⟨_,rfl⟩
 rw [← hσ2] at hst
 have hs:Mod [b] σ1 σ2:=by rw [hσ2];exact Mod.set (by simp) hA1.1 _
 have hA2:At σ2 b (.cells (rows.flatten++[intV .i64 r.to,intV .i64 r.err,intV .i64 r.at',intV .i64 r.num,iv,rv']) 36 true 6):=by rw [hσ2];exact hA1.set_same hw1 _
 have hlt:∀y∈fs.flatten++(f1++(f2++f3)),y<σ.n:=by
  intro y hy
  have hreps:∀ {rows:List (List AV)} {rs:List RepD} {fs:List (List Nat)},RepsR σ rows rs fs→∀y∈fs.flatten,y<σ.n:=by
   intro rows rs fs hh
   induction hh with
   | nil=>intro y hy;cases hy
   | cons h t ih=>
    intro y hy
    simp only [List.flatten_cons,List.mem_append] at hy
    rcases hy with hy | hy
    ·exact h.lt y hy
    ·exact ih y hy
  have hrep:RepR σ [intV .i64 r.to,intV .i64 r.err,intV .i64 r.at',intV .i64 r.num,iv,rv] r (f1++f2++f3):=⟨iv,rv,irows,f1,f2,f3,rfl,n1,n2,n3,rfl⟩
  rcases List.mem_append.1 hy with hy | hy
  ·exact hreps m1 y hy
  ·exact hrep.lt y (by simpa [List.append_assoc] using hy)
 have dis:∀y∈fs.flatten++(f1++f2),y∉f3:=by
  intro y hy h3
  simp only [List.mem_append] at hy
  rcases hy with hy | hy | hy
  ·exact nd2.2.2 y hy y (by simp [h3]) rfl
  ·exact nd3.2.2 y hy y (by simp [h3]) rfl
  ·exact nd4.2.2 y hy y h3 rfl
 have disb:∀y∈fs.flatten++(f1++f2),y∉[b]:=by
  intro y hy hb
  simp only [List.mem_singleton] at hb
  subst hb
  simp only [List.mem_append] at hy
  rcases hy with hy | hy | hy
  ·exact nd.1 (by simp [hy])
  ·exact nd.1 (by simp [hy])
  ·exact nd.1 (by simp [hy])
 have blt:=hA.1
 refine ⟨h.cell rows hA hl 5 rv rfl l34,n3.beq,n3.bnd (by omega),n3.lenV sl34,σ1,rv',σ2,a1,a4,a2.bnd (by omega),hst,by rw [hσ2,set_n];exact a4,⟨hs.wf hw1,?_,h.v,rows,fs,irows,f1,f2,[σ.n+1],hA2,hl,?_,?_,?_,?_,?_,?_⟩,?_⟩
 ·exact (((h.grow.mod []).trans' a3 (fun y hy=> .inr (hge y (by simp [hy])))).trans' hs (fun y hy=> .inr (hge y (by simp at hy;simp [hy])))).grow (by simp)
 ·exact (m1.mod a3 fun y hy=>dis y (List.mem_append_left _ hy)).mod hs fun y hy=>disb y (List.mem_append_left _ hy)
 ·exact (n1.mod a3 fun y hy=>dis y (by simp [hy])).mod hs fun y hy=>disb y (by simp [hy])
 ·exact (n2.mod a3 fun y hy=>dis y (by simp [hy])).mod hs fun y hy=>disb y (by simp [hy])
 ·rw [flat_app,flat_one,List.length_append]
  exact a2.mod hs (by intro y hy;simp only [List.mem_singleton] at hy ⊢;omega)
 ·rw [List.nodup_cons]
  refine ⟨?_,?_⟩
  ·intro hb
   have hh:b∈fs.flatten++(f1++f2)∨b=σ.n+1:=by
    simp only [List.mem_append,List.mem_singleton] at hb ⊢
    rcases hb with hb | hb | hb | hb
    ·exact .inl (.inl hb)
    ·exact .inl (.inr (.inl hb))
    ·exact .inl (.inr (.inr hb))
    ·exact .inr hb
   rcases hh with hh | hh
   ·exact disb b hh (by simp)
   ·omega
  ·have hfresh:∀y∈fs.flatten++(f1++f2),y≠σ.n+1:=by
    intro y hy hh
    have:=hlt y (by
     simp only [List.mem_append] at hy ⊢
     rcases hy with hy | hy | hy
     ·exact .inl hy
     ·exact .inr (.inl hy)
     ·exact .inr (.inr (.inl hy)))
    omega
   have hbase:(fs.flatten++(f1++f2)).Nodup:=by
    have:=nd.2
    rw [← List.append_assoc,← List.append_assoc,List.nodup_append] at this
    rw [← List.append_assoc];exact this.1
   have e1:fs.flatten++(f1++(f2++[σ.n+1]))=(fs.flatten++(f1++f2))++[σ.n+1]:=by simp
   rw [e1,List.nodup_append]
   refine ⟨hbase,by simp,?_⟩
   intro a ha c hc hac
   simp only [List.mem_singleton] at hc
   exact hfresh a ha (hac.trans hc)
 ·intro y hy
  have hh:y∈b::(fs.flatten++(f1++(f2++f3)))∨y=σ.n+1:=by
   simp only [List.mem_cons,List.mem_append,List.not_mem_nil,or_false] at hy ⊢
   rcases hy with hy | hy | hy | hy | hy
   ·exact .inl (.inl hy)
   ·exact .inl (.inr (.inl hy))
   ·exact .inl (.inr (.inr (.inl hy)))
   ·exact .inl (.inr (.inr (.inr (.inl hy))))
   ·exact .inr hy
  rcases hh with hh | hh
  ·exact hge y hh
  ·omega
 ·intro c cs e sz ow he1 he2 hc
  have hc1:=hc.mod a3 (fun hcf=>n3.off hc (by omega) c hcf rfl)
  refine ⟨hc1,hc1.mod hs ?_⟩
  simp only [List.mem_singleton]
  exact hc1.ne hA1 he1
end Go.Proofs.YtahgmmbmmcaejaaGreatDoor
namespace Go.Proofs.YtahgmmbmmcaejaaGreatDoor
open Go Go.Dt
set_option maxRecDepth 100000
theorem LastR.step{σ0 σ σ':St}{v:AV}{rs:List RepD}{r:RepD}{b:Nat}{iv rv:AV}(h:LastR σ0 σ v rs r b iv rv)(hg:Grow σ σ'):LastR σ0 σ' v rs r b iv rv:=by
 obtain ⟨rows,fs,irows,f1,f2,f3,hA,hl,m1,n1,n2,n3,hnd,hge⟩:=h.is
 exact ⟨hg.wf h.wf,h.grow.trans hg,h.v,rows,fs,irows,f1,f2,f3,hA.grow hg,hl,m1.grow hg,n1.grow hg,n2.grow hg,n3.grow hg,hnd,hge⟩
theorem RepsR.lt{σ:St}{rows:List (List AV)}{rs:List RepD}{fs:List (List Nat)}(hh:RepsR σ rows rs fs):∀y∈fs.flatten,y<σ.n:=by
 induction hh with
 | nil=>intro y hy;cases hy
 | cons h t ih=>
  intro y hy
  simp only [List.flatten_cons,List.mem_append] at hy
  rcases hy with hy | hy
  ·exact h.lt y hy
  ·exact ih y hy
theorem LastR.addItem{σ0 σa σ:St}{v:AV}{rs:List RepD}{r:RepD}{b:Nat}{iv rv:AV}(ha:LastR σ0 σa v rs r b iv rv)(hg:Grow σa σ)(hn:r.items.length+1<1073741824)(x:ItemD)(ics:List AV)(fx:List Nat)(hx:ItemR σ ics x fx)(hfx:∀y∈fx,σa.n≤y):
  loadV tab σ 33 (.ptr b (rs.length*6+4))= .ok iv∧beqA iv iv=true∧bndA (σ.n+1) iv=true∧
  ∃σ1 iv' σ2,appendV tab (σ.push (.cells ics 41 true 7)) 33 33 iv (.slice σ.n 0 1 (some 1) 7)= .ok (iv',σ1)∧σ1.n=σ.n+2∧bndA (σ.n+2) iv'=true∧
   storeV tab σ1 33 (.ptr b (rs.length*6+4)) iv'= .ok σ2∧σ2.n=σ.n+2∧LastR σ0 σ2 v rs {r with items:=r.items++[x]} b iv' rv∧
   (∀(c:Nat) (cs:List AV) (e sz:Nat) (ow:Bool),e≠36→e≠41→At σ c (.cells cs e ow sz)→At σ1 c (.cells cs e ow sz)∧At σ2 c (.cells cs e ow sz)):=by
 have h:=ha.step hg
 have hlt:∀rows fs irows f1 f2 f3,RepsR σa rows rs fs→Vec σa 41 7 r.items.length iv irows.flatten f1→RowsR σa irows r.items f2→Vec σa 77 6 r.recs.length rv (flat recC r.recs) f3→b<σa.n→∀y∈b::(fs.flatten++(f1++(f2++f3))),y<σa.n:=by
  intro rows fs irows f1 f2 f3 m1 n1 n2 n3 hb y hy
  have hrep:RepR σa [intV .i64 r.to,intV .i64 r.err,intV .i64 r.at',intV .i64 r.num,iv,rv] r (f1++f2++f3):=⟨iv,rv,irows,f1,f2,f3,rfl,n1,n2,n3,rfl⟩
  rcases List.mem_cons.1 hy with rfl | hy
  ·exact hb
  ·rcases List.mem_append.1 hy with hy | hy
   ·exact m1.lt y hy
   ·exact hrep.lt y (by simpa [List.append_assoc] using hy)
 obtain ⟨rows,fs,irows,f1,f2,f3,hA0,hl,m10,n10,n20,n30,hnd,hge⟩:=ha.is
 have hlt:=hlt rows fs irows f1 f2 f3 m10 n10 n20 n30 hA0.1
 have hA:=hA0.grow hg
 have m1:=m10.grow hg
 have n1:=n10.grow hg
 have n2:=n20.grow hg
 have n3:=n30.grow hg
 obtain ⟨σ1,iv',a1,a2,a3,a4⟩:=vapp (new:=ics) app33 h.wf n1 hn hx.len hx.one
 have hw1:=a3.wf h.wf
 have hn0:=h.grow.n
 have hna:=hg.n
 have nd:b∉fs.flatten++(f1++(f2++f3))∧(fs.flatten++(f1++(f2++f3))).Nodup:=List.nodup_cons.1 hnd
 have nd2:=List.nodup_append.1 nd.2
 have nd3:=List.nodup_append.1 nd2.2.1
 have nd4:=List.nodup_append.1 nd3.2.1
 have bf1:b∉f1:=fun hb=>nd.1 (by simp [hb])
 have hA1:=hA.mod a3 bf1
 have hone:iv'.cells.all AV.oneCell=true:=by rw [a2.cell];simp [a2.one]
 have hst:=stv (o:=rs.length*6+4) (x:=iv') sz33 hA1 (by rw [a2.cell];rfl) (by omega) (by rw [List.length_append,hl];simp) hone
 have hsp:splice (rows.flatten++[intV .i64 r.to,intV .i64 r.err,intV .i64 r.at',intV .i64 r.num,iv,rv]) (rs.length*6+4) iv'.cells=rows.flatten++[intV .i64 r.to,intV .i64 r.err,intV .i64 r.at',intV .i64 r.num,iv',rv]:=by
  rw [← hl,splice_app,a2.cell];rfl
 rw [hsp] at hst
 obtain ⟨σ2,hσ2⟩:∃σ2,σ2=σ1.set b (.cells (rows.flatten++[intV .i64 r.to,intV .i64 r.err,intV .i64 r.at',intV .i64 r.num,iv',rv]) 36 true 6):=⟨_,rfl⟩
 rw [← hσ2] at hst
 have hs:Mod [b] σ1 σ2:=by rw [hσ2];exact Mod.set (by simp) hA1.1 _
 have hA2:At σ2 b (.cells (rows.flatten++[intV .i64 r.to,intV .i64 r.err,intV .i64 r.at',intV .i64 r.num,iv',rv]) 36 true 6):=by rw [hσ2];exact hA1.set_same hw1 _
 have dis:∀y∈fs.flatten++(f2++f3),y∉f1:=by
  intro y hy h1
  simp only [List.mem_append] at hy
  rcases hy with hy | hy | hy
  ·exact nd2.2.2 y hy y (by simp [h1]) rfl
  ·exact nd3.2.2 y h1 y (by simp [hy]) rfl
  ·exact nd3.2.2 y h1 y (by simp [hy]) rfl
 have disb:∀y∈fs.flatten++(f2++f3),y∉[b]:=by
  intro y hy hb
  simp only [List.mem_singleton] at hb
  subst hb
  simp only [List.mem_append] at hy
  rcases hy with hy | hy | hy
  ·exact nd.1 (by simp [hy])
  ·exact nd.1 (by simp [hy])
  ·exact nd.1 (by simp [hy])
 have blt:b<σa.n:=hA0.1
 have f1lt:∀y∈f1,y<σa.n:=fun y hy=>hlt y (by simp [hy])
 have fx1:∀y∈fx,y∉f1:=fun y hy h1=>by have:=hfx y hy;have:=f1lt y h1;omega
 have fxb:∀y∈fx,y∉[b]:=fun y hy hb=>by simp only [List.mem_singleton] at hb;have:=hfx y hy;omega
 have hx2:=(hx.mod a3 fx1).mod hs fxb
 have hxlt:=hx.lt
 have hold:∀y∈fs.flatten++(f2++f3),y<σa.n:=fun y hy=>hlt y (by
  simp only [List.mem_append,List.mem_cons] at hy ⊢
  rcases hy with hy | hy | hy
  ·exact .inr (.inl hy)
  ·exact .inr (.inr (.inr (.inl hy)))
  ·exact .inr (.inr (.inr (.inr hy))))
 have hbase:(fs.flatten++(f2++f3)).Nodup:=by
  rw [List.nodup_append]
  refine ⟨nd2.1,nd3.2.1,?_⟩
  intro a ha c hc
  exact nd2.2.2 a ha c (List.mem_append_right _ hc)
 refine ⟨h.cell rows hA hl 4 iv rfl l33,n1.beq,n1.bnd (by omega),σ1,iv',σ2,a1,a4,a2.bnd (by omega),hst,by rw [hσ2,set_n];exact a4,⟨hs.wf hw1,?_,h.v,rows,fs,irows++[ics],[σ.n+1],f2++fx,f3,hA2,hl,?_,?_,?_,?_,?_,?_⟩,?_⟩
 ·exact (((h.grow.mod []).trans' a3 (fun y hy=> .inr (hge y (by simp [hy])))).trans' hs (fun y hy=> .inr (hge y (by simp at hy;simp [hy])))).grow (by simp)
 ·exact (m1.mod a3 fun y hy=>dis y (List.mem_append_left _ hy)).mod hs fun y hy=>disb y (List.mem_append_left _ hy)
 ·rw [List.flatten_append,List.length_append]
  have:[ics].flatten=ics:=by simp
  rw [this]
  exact a2.mod hs (by intro y hy;simp only [List.mem_singleton] at hy ⊢;omega)
 ·exact RowsR.snoc hx2 ((n2.mod a3 fun y hy=>dis y (by simp [hy])).mod hs fun y hy=>disb y (by simp [hy]))
 ·exact (n3.mod a3 fun y hy=>dis y (by simp [hy])).mod hs fun y hy=>disb y (by simp [hy])
 ·have e1:∀y,y∈b::(fs.flatten++([σ.n+1]++(f2++fx++f3)))↔(y=b∨y∈fs.flatten++(f2++f3)∨y=σ.n+1∨y∈fx):=by
   intro y
   simp only [List.mem_cons,List.mem_append,List.not_mem_nil,or_false]
   constructor
   ·rintro (h | h | h | (h | h) | h)
    ·exact .inl h
    ·exact .inr (.inl (.inl h))
    ·exact .inr (.inr (.inl h))
    ·exact .inr (.inl (.inr (.inl h)))
    ·exact .inr (.inr (.inr h))
    ·exact .inr (.inl (.inr (.inr h)))
   ·rintro (h | (h | h | h) | h | h)
    ·exact .inl h
    ·exact .inr (.inl h)
    ·exact .inr (.inr (.inr (.inl (.inl h))))
    ·exact .inr (.inr (.inr (.inr h)))
    ·exact .inr (.inr (.inl h))
    ·exact .inr (.inr (.inr (.inl (.inr h))))
  have hp:List.Perm (b::(fs.flatten++([σ.n+1]++(f2++fx++f3)))) (b::(fs.flatten++(f2++f3))++(σ.n+1)::fx):=by
   refine List.Perm.cons b ?_
   have p1:List.Perm ([σ.n+1]++(f2++fx++f3)) ((f2++f3)++(σ.n+1)::fx):=by
    have q1:List.Perm (f2++fx++f3) (f2++f3++fx):=by
     rw [List.append_assoc,List.append_assoc]
     exact List.Perm.append_left f2 List.perm_append_comm
    have q2:List.Perm ((σ.n+1)::(f2++f3++fx)) ((f2++f3)++(σ.n+1)::fx):=List.perm_middle.symm
    exact (List.Perm.cons _ q1).trans q2
   have:=List.Perm.append_left fs.flatten p1
   rw [← List.append_assoc fs.flatten (f2++f3)] at this
   exact this
  rw [hp.nodup_iff,List.nodup_append]
  refine ⟨?_,?_,?_⟩
  ·rw [List.nodup_cons]
   exact ⟨fun hb=>disb b hb (by simp),hbase⟩
  ·rw [List.nodup_cons]
   exact ⟨fun hh=>by have:=hxlt _ hh;omega,hx.nodup⟩
  ·intro a ha c hc hac
   have halt:a<σa.n:=by
    rcases List.mem_cons.1 ha with rfl | ha
    ·exact blt
    ·exact hold a ha
   rcases List.mem_cons.1 hc with rfl | hc
   ·omega
   ·have:=hfx c hc;omega
 ·intro y hy
  have hh:y=b∨y∈fs.flatten++(f2++f3)∨y=σ.n+1∨y∈fx:=by
   simp only [List.mem_cons,List.mem_append,List.not_mem_nil,or_false] at hy ⊢
   rcases hy with h | h | h | (h | h) | h
   ·exact .inl h
   ·exact .inr (.inl (.inl h))
   ·exact .inr (.inr (.inl h))
   ·exact .inr (.inl (.inr (.inl h)))
   ·exact .inr (.inr (.inr h))
   ·exact .inr (.inl (.inr (.inr h)))
  rcases hh with rfl | hh | rfl | hh
  ·exact hge y (by simp)
  ·refine hge y ?_
   simp only [List.mem_append,List.mem_cons] at hh ⊢
   rcases hh with hh | hh | hh
   ·exact .inr (.inl hh)
   ·exact .inr (.inr (.inr (.inl hh)))
   ·exact .inr (.inr (.inr (.inr hh)))
  ·omega
  ·have:=hfx y hh
   have:=ha.grow.n
   omega
 ·intro c cs e sz ow he1 he2 hc
  have hc1:=hc.mod a3 (fun hcf=>n1.off hc (by omega) c hcf rfl)
  refine ⟨hc1,hc1.mod hs ?_⟩
  simp only [List.mem_singleton]
  exact hc1.ne hA1 he1
end Go.Proofs.YtahgmmbmmcaejaaGreatDoor
namespace Go.Proofs.YtahgmmbmmcaejaaGreatDoor
open Go Go.Dt
set_option maxRecDepth 100000
def addTo(f:RepD→RepD):List RepD→List RepD
 | []=>[]
 | [r]=>[f r]
 | r::q::rs=>r::addTo f (q::rs)
theorem addTo_snoc(f:RepD→RepD)(r:RepD):∀rs,addTo f (rs++[r])=rs++[f r]
 | []=>rfl
 | [q]=>rfl
 | q::q'::rs=>by
  have:=addTo_snoc f r (q'::rs)
  show q::addTo f (q'::(rs++[r]))=_
  rw [show q'::(rs++[r])=(q'::rs)++[r] from rfl,this];rfl
def putRec(x:RecD)(r:RepD):RepD:= {r with recs:=r.recs++[x]}
def putItem(x:ItemD)(r:RepD):RepD:= {r with items:=r.items++[x]}
def lineS(rs:List RepD)(s:List UInt8):List RepD×Int:=
 bif (headP s).2 then (bif rs.length==400 then (rs,6) else (rs++[(headP s).1],oneS (headP s).1))
 else match rs.getLast? with
  | none=>(rs,3)
  | some r=>
   bif hasPre s recHd then (bif (recP (s.drop 7)).2 then (addTo (putRec (recP (s.drop 7)).1) rs,oneS (putRec (recP (s.drop 7)).1 r)) else (rs,3))
   else bif finE (iQ s)==0 && r.recs.isEmpty then (addTo (putItem (finI (iQ s))) rs,oneS (putItem (finI (iQ s)) r)) else (rs,3)
theorem firstE_0:∀ {l:List Int} {d:Int},firstE l d=0→∀x∈l,x=0
 | [],_,_,x,hx=>by cases hx
 | e::l,d,h,x,hx=>by
  simp only [firstE] at h
  cases he:e !=0 with
  | true=>rw [he] at h;simp only [condT] at h;subst h;cases he
  | false=>
   rw [he] at h
   simp only [condF] at h
   have he0:e=0:=by simpa using he
   rcases List.mem_cons.1 hx with rfl | hx
   ·exact he0
   ·exact firstE_0 h x hx
theorem itemRight_small{x:ItemD}(h:itemRight x=0):x.small:=by
 unfold itemRight at h
 cases h1:x.kind==1 with
 | true=>
  rw [h1] at h
  simp only [condT,foundS] at h
  cases k1:idBad x.query with
  | true=>rw [k1] at h;cases h
  | false=>
   rw [k1] at h
   simp only [condF] at h
   cases k2:(x.ids.length:Int)==0 with
   | true=>rw [k2] at h;cases h
   | false=>
    rw [k2] at h
    simp only [condF] at h
    cases k3:decide ((x.ids.length:Int)>12) with
    | true=>rw [k3] at h;cases h
    | false=>
     rw [k3] at h
     simp only [condF] at h
     cases k4:(x.atoms.length:Int) !=(x.ids.length:Int) with
     | true=>rw [k4] at h;cases h
     | false=>
      rw [k4] at h
      simp only [condF] at h
      have k3':=of_decide_eq_false k3
      have k4':(x.atoms.length:Int)=(x.ids.length:Int):=by simpa using k4
      have hv:¬((x.values.length:Int)>4):=by
       intro hv
       rw [decide_eq_true hv] at h
       revert h
       cases (x.ids.zip x.atoms).any pairBad<;>cases (x.err !=0 && x.err !=7 && x.err !=16)<;>cases (x.err !=0 && decide ((x.values.length:Int)>0))<;>simp
      simp only [ItemD.small]
      omega
 | false=>
  rw [h1] at h
  simp only [condF] at h
  cases h2:x.kind==2 with
  | false=>rw [h2] at h;cases h
  | true=>
   rw [h2] at h
   simp only [condT,noticeS] at h
   have hz:(decide ((x.ids.length:Int)>0) || decide ((x.atoms.length:Int)>0) || decide ((x.values.length:Int)>0))=false:=by
    cases hq:(decide ((x.ids.length:Int)>0) || decide ((x.atoms.length:Int)>0) || decide ((x.values.length:Int)>0)) with
    | false=>rfl
    | true=>
     rw [hq] at h
     revert h
     generalize (x.err !=17 && x.err !=18 && x.err !=19)=a
     generalize ((x.err==19 && x.query !=0) || (x.err !=19 && idBad x.query))=b
     generalize ((x.err==17 && x.count !=0) || (x.err !=17 && idBad x.count))=c
     cases a<;>cases b<;>cases c<;>simp
   simp only [Bool.or_eq_false_iff,decide_eq_false_iff_not] at hz
   simp only [ItemD.small]
   omega
theorem finI_small{q:Option (ItemD×List (List UInt8)×Int)}(h:finE q=0):(finI q).small:=by
 cases q with
 | none=>cases h
 | some p=>
  have hE:itemFin p=0:=h
  have hI:finI (some p)=p.1:=by
   show (bif itemFin p==0 then p.1 else zeroI)=p.1
   rw [hE];rfl
  rw [hI]
  unfold itemFin at hE
  cases hl:left3 p==0 with
  | true=>rw [hl] at hE;exact itemRight_small hE
  | false=>
   rw [hl] at hE
   simp only [condF] at hE
   rw [hE] at hl;cases hl
def okRep(r:RepD):Prop:=r.items.length≤65∧r.recs.length≤64∧∀x∈r.items,x.small
theorem oneS_ok{r:RepD}(h:oneS r=0):okRep r:=by
 unfold oneS at h
 cases h1:headBad r with
 | true=>rw [h1] at h;cases h
 | false=>
  rw [h1] at h
  simp only [condF] at h
  cases h2:(decide ((r.items.length:Int)>65) || decide ((r.recs.length:Int)>64)) with
  | true=>rw [h2] at h;cases h
  | false=>
   rw [h2] at h
   simp only [condF] at h
   simp only [Bool.or_eq_false_iff,decide_eq_false_iff_not] at h2
   refine ⟨by omega,by omega,fun x hx=> ?_⟩
   exact itemRight_small (firstE_0 h (itemRight x) (List.mem_map_of_mem hx))
theorem ta70(x:AV):typeAssert tab (.iface 70 x) 70 true= .ok (.tuple [x,boolV true]):=by kernel_rfl
theorem ta76_70(x:AV):typeAssert tab (.iface 76 x) 70 true= .ok (.tuple [.agg (headC zeroRep),boolV false]):=by kernel_rfl
theorem ta78_70(x:AV):typeAssert tab (.iface 78 x) 70 true= .ok (.tuple [.agg (headC zeroRep),boolV false]):=by kernel_rfl
theorem tan_70:typeAssert tab (.base .nilIface) 70 true= .ok (.tuple [.agg (headC zeroRep),boolV false]):=by kernel_rfl
theorem ta76(x:AV):typeAssert tab (.iface 76 x) 76 true= .ok (.tuple [x,boolV true]):=by kernel_rfl
theorem ta78_76(x:AV):typeAssert tab (.iface 78 x) 76 true= .ok (.tuple [.agg (recC zeroRec),boolV false]):=by kernel_rfl
theorem tan_76:typeAssert tab (.base .nilIface) 76 true= .ok (.tuple [.agg (recC zeroRec),boolV false]):=by kernel_rfl
theorem ta78(x:AV):typeAssert tab (.iface 78 x) 78 true= .ok (.tuple [x,boolV true]):=by kernel_rfl
theorem tan_78:typeAssert tab (.base .nilIface) 78 true= .ok (.tuple [.agg zero41,boolV false]):=by kernel_rfl
theorem alloc70(b:Nat):allocA tab 70 b= .ok (.ptr b 0,.cells (headC zeroRep) 70 true 6):=by kernel_rfl
theorem alloc76(b:Nat):allocA tab 76 b= .ok (.ptr b 0,.cells (recC zeroRec) 76 true 6):=by kernel_rfl
theorem alloc78(b:Nat):allocA tab 78 b= .ok (.ptr b 0,.cells zero41 78 true 7):=by kernel_rfl
theorem sz70:sizeB 70 6=true:=by kernel_rfl
theorem sz76:sizeB 76 6=true:=by kernel_rfl
theorem sz78:sizeB 78 7=true:=by kernel_rfl
theorem a70:aggB 70 6=true:=by kernel_rfl
theorem a76:aggB 76 6=true:=by kernel_rfl
theorem a78:aggB 78 7=true:=by kernel_rfl
theorem bs23(a b c d:Int)(n:Nat):buildSliceA tab 23 1 [(0,.agg [intV .i64 a,intV .i64 b,intV .i64 c,intV .i64 d,nilS,nilS])] n= .ok (.slice n 0 1 (some 1) 6,.cells [intV .i64 a,intV .i64 b,intV .i64 c,intV .i64 d,nilS,nilS] 36 true 6):=by kernel_rfl
theorem bs23'(r:RepD)(n:Nat):buildSliceA tab 23 1 [(0,.agg (headC r))] n= .ok (.slice n 0 1 (some 1) 6,.cells (headC r) 36 true 6):=bs23 _ _ _ _ n
theorem bs34(a b c d e f:Int)(n:Nat):buildSliceA tab 34 1 [(0,.agg [intV .i64 a,intV .u64 b,intV .u64 c,intV .u64 d,intV .u64 e,intV .u64 f])] n= .ok (.slice n 0 1 (some 1) 6,.cells [intV .i64 a,intV .u64 b,intV .u64 c,intV .u64 d,intV .u64 e,intV .u64 f] 77 true 6):=by kernel_rfl
theorem bs34'(r:RecD)(n:Nat):buildSliceA tab 34 1 [(0,.agg (recC r))] n= .ok (.slice n 0 1 (some 1) 6,.cells (recC r) 77 true 6):=bs34 _ _ _ _ _ _ n
theorem bs33(a b c d e f g:AV)(n:Nat):buildSliceA tab 33 1 [(0,.agg [a,b,c,d,e,f,g])] n= .ok (.slice n 0 1 (some 1) 7,.cells [a,b,c,d,e,f,g] 41 true 7):=by kernel_rfl
theorem bs33'{ics:List AV}(h:ics.length=7)(n:Nat):buildSliceA tab 33 1 [(0,.agg ics)] n= .ok (.slice n 0 1 (some 1) 7,.cells ics 41 true 7):=by
 match ics,h with
 | [a,b,c,d,e,f,g],_=>exact bs33 a b c d e f g n
theorem beqHead(r:RepD):beqA (.agg (headC r)) (.agg (headC r))=true:=by simp [headC,beqA,beqL,intV,beqBase,nilS]
theorem beqRec(r:RecD):beqA (.agg (recC r)) (.agg (recC r))=true:=by simp [recC,beqA,beqL,intV,beqBase]
theorem bndHead(n:Nat)(r:RepD):bndA n (.agg (headC r))=true:=rfl
theorem bndRec(n:Nat)(r:RecD):bndA n (.agg (recC r))=true:=rfl
theorem bndOHead(n:Nat)(r:RepD):bndO n (.cells (headC r) 36 true 6)=true:=rfl
theorem bndORec(n:Nat)(r:RecD):bndO n (.cells (recC r) 77 true 6)=true:=rfl
theorem ItemR.beqv{σ:St}{ics:List AV}{x:ItemD}{fx:List Nat}(h:ItemR σ ics x fx):beqA (.agg ics) (.agg ics)=true:=by
 obtain ⟨iv,av,vv,_,_,_,rfl,k1,k2,k3,_⟩:=h.is
 simp only [beqA,beqL,k1.beq,k2.beq,k3.beq,beqI,Bool.and_true]
theorem ItemR.bndv{σ:St}{ics:List AV}{x:ItemD}{fx:List Nat}(h:ItemR σ ics x fx){m:Nat}(hm:σ.n≤m):bndL m ics=true:=by
 obtain ⟨iv,av,vv,_,_,_,rfl,k1,k2,k3,_⟩:=h.is
 have hi:∀n:Int,bndA m (intV .i64 n)=true:=fun n=>rfl
 simp only [bndL,k1.bnd hm,k2.bnd hm,k3.bnd hm,hi,Bool.and_true]
end Go.Proofs.YtahgmmbmmcaejaaGreatDoor
namespace Go.Proofs.YtahgmmbmmcaejaaGreatDoor
open Go Go.Dt
set_option maxRecDepth 100000
noncomputable def k12:K (AEnd×St):=kRet tab [.tmp 4,.tmp 5]
theorem k12_ret(T:Rg)(s:St):k12.ret T s= .ok (.ret (AV.tuple [T 4,T 5]),s):=r12 T s
def okRepL(r:RepD):Prop:=r.items.length≤66∧r.recs.length≤65∧∀x∈r.items,x.small
theorem wsub1(n:Nat)(h:n<4611686018427387904):IntKind.i64.wrap (((n+1:Nat):Int) - 1)=(n:Int):=by
 have:((n+1:Nat):Int) - 1=(n:Int):=by omega
 rw [this];exact i64w n h
theorem tail12(σ0 σ:St)(v:AV)(rs:List RepD)(hn:rs.length<1000)(r:RepD)(b:Nat)(iv rv:AV)(h:LastR σ0 σ v rs r b iv rv)(hr:okRepL r)(T:Rg)(t0:T 0=v)(t6:T 6=intV .i64 ((rs.length+1:Nat):Int)):
  ∃σ',denK tab W 81 c12a k12 T σ= .ok (.ret (.tuple [v,intV .i64 (oneS r)]),σ')∧OutR σ0 σ' v (rs++[r]):=by
 have e:=ec12a k12 T σ
 obtain ⟨cs,fp,l1,l2⟩:=h.rep
 obtain ⟨σ1,k1,k2⟩:=W23 σ h.wf cs r hr.2.2 (by have:=hr.1;omega) (by have:=hr.2.1;omega) fp l2
 simp (decide:=true) only [sN,t0,t6,wsub1 rs.length (by omega),h.ix,l1,k1,k12_ret,sR] at e
 exact ⟨σ1,e,(h.step k2).toOut⟩
theorem getLast_snoc(rs:List RepD)(r:RepD):(rs++[r]).getLast? =some r:=by simp
theorem snoc_of{rs:List RepD}(h:rs≠[]):∃rs' r,rs=rs'++[r]:=⟨rs.dropLast,rs.getLast h,(List.dropLast_concat_getLast h).symm⟩
theorem W12(σ0 σ:St)(v:AV)(rs:List RepD)(h:OutR σ0 σ v rs)(hlen:rs.length≤400)(hok:∀r∈rs,okRep r)(s:List UInt8)(hs:s.length<490000000):
  ∃v' σ',W 12 [v,str s] σ= .ok (.ret (.tuple [v',intV .i64 (lineS rs s).2]),σ')∧WF σ'∧Grow σ0 σ'∧((lineS rs s).2=0→OutR σ0 σ' v' (lineS rs s).1):=by
 have e:=ec12 k12 v (str s) σ
 obtain ⟨rv,σ1,k1,k2,k3⟩:=W22 s hs σ h.wf
 have h1:=h.step k2
 simp only [sN,pickV_boolV,h.len sl23,k1] at e
 have fail:∀(σ':St) (T:Rg) (E:Int),WF σ'→Grow σ0 σ'→E≠0→(lineS rs s).2=E→T 5=intV .i64 E→denK tab W 81 c12 k12 (argE [v,str s]) σ=k12.ret T σ'→
   ∃v' σ',W 12 [v,str s] σ= .ok (.ret (.tuple [v',intV .i64 (lineS rs s).2]),σ')∧WF σ'∧Grow σ0 σ'∧((lineS rs s).2=0→OutR σ0 σ' v' (lineS rs s).1):=by
  intro σ' T E hw hg hE hl t5 hT
  refine ⟨T 4,σ',w12 (by simp) ?_,hw,hg,fun hz=>(hE (hl.symm.trans hz)).elim⟩
  rw [hl]
  exact hT.trans ((k12_ret T σ').trans (by rw [t5]))
 have fin:∀(rs':List RepD) (r:RepD) (b:Nat) (iv rv:AV) (σ2:St) (T:Rg),rs'.length<1000→LastR σ0 σ2 v rs' r b iv rv→okRepL r→(lineS rs s)=(rs'++[r],oneS r)→T 0=v→T 6=intV .i64 ((rs'.length+1:Nat):Int)→denK tab W 81 c12 k12 (argE [v,str s]) σ=denK tab W 81 c12a k12 T σ2→
   ∃v' σ',W 12 [v,str s] σ= .ok (.ret (.tuple [v',intV .i64 (lineS rs s).2]),σ')∧WF σ'∧Grow σ0 σ'∧((lineS rs s).2=0→OutR σ0 σ' v' (lineS rs s).1):=by
  intro rs' r b iv rv σ2 T hn hL hr hl t0 t6 hT
  obtain ⟨σ',q1,q2⟩:=tail12 σ0 σ2 v rs' hn r b iv rv hL hr T t0 t6
  rw [hl]
  exact ⟨v,σ',w12 (by simp) (hT.trans q1),q2.wf,q2.grow,fun _=>q2⟩
 have a0:argE [v,str s] 0=v:=rfl
 cases k3 with
 | head hh=>
  have hA:=At.new σ1 (.cells (headC zeroRep) 70 true 6)
  have hst:=stv (o:=0) (x:= .agg (headC (headP s).1)) sz70 hA rfl (by omega) (by simp [headC]) rfl
  obtain ⟨σ2,hσ2⟩:∃σ2,σ2=(σ1.push (.cells (headC zeroRep) 70 true 6)).set σ1.n (.cells (headC (headP s).1) 70 true 6):=⟨_,rfl⟩
  have hst':storeV tab (σ1.push (.cells (headC zeroRep) 70 true 6)) 70 (.ptr σ1.n 0) (.agg (headC (headP s).1))= .ok σ2:=by rw [hσ2];exact hst
  have hA2:At σ2 σ1.n (.cells (headC (headP s).1) 70 true 6):=by rw [hσ2];exact hA.set_same (WF.push h1.wf _) _
  have hg2:Grow σ1 σ2:=by rw [hσ2];exact (Grow.push _ _).set (Nat.le_refl _) hA.1 _
  have h2:=h1.step hg2
  have ld70:loadV tab σ2 70 (.ptr σ1.n 0)= .ok (.agg (headC (headP s).1)):=lda a70 hA2 rfl rfl
  simp only [sN,ta70,alloc70,hst'] at e
  cases h4:rs.length==400 with
  | true=>
   have d:((rs.length:Int)==400)=true:=by have:rs.length=400:=(by simpa using h4);rw [this];rfl
   rw [d] at e
   simp only [sN] at e
   exact fail σ2 _ 6 h2.wf h2.grow (by decide) (by simp only [lineS,hh,condT,h4]) (by simp (decide:=true) only [sR]) e
  | false=>
   have d:((rs.length:Int)==400)=false:=by rw [beq_eq_false_iff_ne];intro hz;have:rs.length=400:=(by omega);rw [this] at h4;cases h4
   rw [d] at e
   have hit:(headP s).1.items=[]∧(headP s).1.recs=[]:=by
    unfold headP
    split
    ·split
     ·exact ⟨rfl,rfl⟩
     ·exact ⟨rfl,rfl⟩
    ·exact ⟨rfl,rfl⟩
   obtain ⟨q1,q2,σ3,v',q3,q4,q5,q6,q7⟩:=h2.addRep (by omega) (headP s).1 hit.1 hit.2
   have hA3:=q7 _ _ _ _ _ (by omega) hA2
   have ld70':loadV tab σ3 70 (.ptr σ1.n 0)= .ok (.agg (headC (headP s).1)):=lda a70 hA3 rfl rfl
   obtain ⟨σ4,m1,m2⟩:=W23 σ3 q6.wf _ (headP s).1 (by rw [hit.1];simp) (by rw [hit.1];simp) (by rw [hit.2];simp) [] (headR σ3 _ hit.1 hit.2)
   have bf:∀n,bndA n (AV.func (.func 23) [] [])=true:=fun n=>rfl
   have ble3:Nat.ble (σ2.n+2) σ4.n=true:=ble_t (by have:=m2.n;omega)
   simp only [sN,ld70,sameR,beqHead,bs23',bndOHead,all2,push_n,q2,bnd_sl,q3,q4,ble12,ld70',bf,bndHead,m1,ble3,Bool.and_true] at e
   refine ⟨v',σ4,w12 (by simp) (e.trans ((k12_ret _ _).trans ?_)),m2.wf q6.wf,q6.grow.trans m2,fun _=> ?_⟩
   ·have:(lineS rs s).2=oneS (headP s).1:=by simp only [lineS,hh,condT,h4,condF]
    rw [this]
    simp (decide:=true) only [sR]
   ·have:(lineS rs s).1=rs++[(headP s).1]:=by simp only [lineS,hh,condT,h4,condF]
    rw [this];exact q6.step m2
 | recd hh hp hr=>
  have hA:=At.new σ1 (.cells (recC zeroRec) 76 true 6)
  have hst:=stv (o:=0) (x:= .agg (recC (recP (s.drop 7)).1)) sz76 hA rfl (by omega) (by simp [recC]) rfl
  obtain ⟨σ2,hσ2⟩:∃σ2,σ2=(σ1.push (.cells (recC zeroRec) 76 true 6)).set σ1.n (.cells (recC (recP (s.drop 7)).1) 76 true 6):=⟨_,rfl⟩
  have hst':storeV tab (σ1.push (.cells (recC zeroRec) 76 true 6)) 76 (.ptr σ1.n 0) (.agg (recC (recP (s.drop 7)).1))= .ok σ2:=by rw [hσ2];exact hst
  have hA2:At σ2 σ1.n (.cells (recC (recP (s.drop 7)).1) 76 true 6):=by rw [hσ2];exact hA.set_same (WF.push h1.wf _) _
  have hg2:Grow σ1 σ2:=by rw [hσ2];exact (Grow.push _ _).set (Nat.le_refl _) hA.1 _
  have h2:=h1.step hg2
  have ld76:loadV tab σ2 76 (.ptr σ1.n 0)= .ok (.agg (recC (recP (s.drop 7)).1)):=lda a76 hA2 rfl rfl
  simp only [sN,ta76_70,ta76,alloc76,hst'] at e
  by_cases hnil:rs=[]
  ·subst hnil
   have d:((([]:List RepD).length:Int)==0)=true:=rfl
   rw [d] at e
   simp only [sN] at e
   exact fail σ2 _ 3 h2.wf h2.grow (by decide) (by simp only [lineS,hh,condF];rfl) (by simp (decide:=true) only [sR]) e
  ·obtain ⟨rs',r,rfl⟩:=snoc_of hnil
   have hlen':rs'.length+1≤400:=by simpa using hlen
   have hlR:((rs'++[r]).length:Int)=((rs'.length+1:Nat):Int):=by simp
   rw [hlR] at e
   have d:(((rs'.length+1:Nat):Int)==0)=false:=by rw [beq_eq_false_iff_ne];omega
   have hrk:=hok r (by simp)
   obtain ⟨b,iv,rv',hL⟩:=h2.toLast
   obtain ⟨q1,q2,q3,q4,σ3,rv'',σ4,u1,u2,u3,u4,u5,u6,u7⟩:=hL.addRec (by have:=hrk.2.1;omega) (recP (s.drop 7)).1
   have bb:bndA (σ2.n+2) (.ptr b (rs'.length*6+5))=true:=bnd_pt _ (by have:=hL.lt;omega)
   have hfa:fieldAddr tab 36 (.ptr b (rs'.length*6)) 5= .ok (.ptr b (rs'.length*6+5)):=fa36_5 b _
   rw [d] at e
   simp only [sN,wsub1 rs'.length (by omega),hL.ix,hfa,q1,sameR,q2,ld76,beqRec,bs34',bndORec,all2,push_n,q3,bnd_sl,u1,u2,ble12,bb,u3,u4,u5,bleR,Bool.and_true] at e
   refine fin rs' (putRec (recP (s.drop 7)).1 r) b iv rv'' σ4 _ (by omega) u6 ?_ ?_ ?_ ?_ e
   ·exact ⟨by have:=hrk.1;simp [putRec];omega,by have:=hrk.2.1;simp [putRec];omega,hrk.2.2⟩
   ·simp only [lineS,hh,condF,getLast_snoc,hp,hr,condT,addTo_snoc]
   ·simp (decide:=true) only [sR,a0]
   ·simp (decide:=true) only [sR]
 | norec hh hp hr=>
  simp only [sN,tan_70,tan_76,tan_78] at e
  refine fail σ1 _ 3 h1.wf h1.grow (by decide) ?_ (by simp (decide:=true) only [sR]) e
  simp only [lineS,hh,condF]
  cases rs.getLast? with
  | none=>rfl
  | some r=>simp only [hp,hr,condT,condF]
 | noitem hh hp hr=>
  simp only [sN,tan_70,tan_76,tan_78] at e
  refine fail σ1 _ 3 h1.wf h1.grow (by decide) ?_ (by simp (decide:=true) only [sR]) e
  have hq:(finE (iQ s)==0)=false:=by simpa using hr
  simp only [lineS,hh,condF]
  cases rs.getLast? with
  | none=>rfl
  | some r=>simp only [hp,hq,condF,Bool.false_and]
 | item cs fp hh hp hr hx hfp=>
  have hA:=At.new σ1 (.cells zero41 78 true 7)
  have hst:=stv (o:=0) (x:= .agg cs) sz78 hA hx.len (by omega) (by simp [zero41]) hx.one
  have hsp:splice zero41 0 cs=cs:=by
   obtain ⟨iv,av,vv,_,_,_,rfl,_⟩:=hx.is
   rfl
  have hcells:(AV.agg cs).cells=cs:=rfl
  rw [hcells,hsp] at hst
  obtain ⟨σ2,hσ2⟩:∃σ2,σ2=(σ1.push (.cells zero41 78 true 7)).set σ1.n (.cells cs 78 true 7):=⟨_,rfl⟩
  have hst':storeV tab (σ1.push (.cells zero41 78 true 7)) 78 (.ptr σ1.n 0) (.agg cs)= .ok σ2:=by rw [hσ2];exact hst
  have hA2:At σ2 σ1.n (.cells cs 78 true 7):=by rw [hσ2];exact hA.set_same (WF.push h1.wf _) _
  have hg2:Grow σ1 σ2:=by rw [hσ2];exact (Grow.push _ _).set (Nat.le_refl _) hA.1 _
  have h2:=h1.step hg2
  have hx2:=hx.grow hg2
  have ld78:loadV tab σ2 78 (.ptr σ1.n 0)= .ok (.agg cs):=lda a78 hA2 (by rw [List.drop_zero];exact List.take_of_length_le (by rw [hx.len];omega)) hx.len
  have hq:(finE (iQ s)==0)=true:=by simpa using hr
  simp only [sN,ta78_70,ta78_76,ta78,alloc78,hst'] at e
  by_cases hnil:rs=[]
  ·subst hnil
   have d:((([]:List RepD).length:Int)==0)=true:=rfl
   rw [d] at e
   simp only [sN] at e
   exact fail σ2 _ 3 h2.wf h2.grow (by decide) (by simp only [lineS,hh,condF];rfl) (by simp (decide:=true) only [sR]) e
  ·obtain ⟨rs',r,rfl⟩:=snoc_of hnil
   have hlen':rs'.length+1≤400:=by simpa using hlen
   have hlR:((rs'++[r]).length:Int)=((rs'.length+1:Nat):Int):=by simp
   rw [hlR] at e
   have d:(((rs'.length+1:Nat):Int)==0)=false:=by rw [beq_eq_false_iff_ne];omega
   have hrk:=hok r (by simp)
   obtain ⟨b,iv,rv',hL0⟩:=h.toLast
   have hL:=(hL0.step k2).step hg2
   obtain ⟨p1,p2,p3,p4,_⟩:=hL.addRec (by have:=hrk.2.1;omega) zeroRec
   have hfa5:fieldAddr tab 36 (.ptr b (rs'.length*6)) 5= .ok (.ptr b (rs'.length*6+5)):=fa36_5 b _
   have hfa4:fieldAddr tab 36 (.ptr b (rs'.length*6)) 4= .ok (.ptr b (rs'.length*6+4)):=fa36_4 b _
   rw [d] at e
   simp only [sN,wsub1 rs'.length (by omega),hL.ix,hfa5,p1,p4] at e
   cases hrec:r.recs.isEmpty with
   | false=>
    have d2:decide ((r.recs.length:Int)>0)=true:=by
     have:r.recs≠[]:=by intro hh;rw [hh] at hrec;cases hrec
     have:=List.length_pos_iff.2 this
     exact decide_eq_true (by omega)
    rw [d2] at e
    simp only [sN] at e
    refine fail σ2 _ 3 h2.wf h2.grow (by decide) ?_ (by simp (decide:=true) only [sR]) e
    simp only [lineS,hh,condF,getLast_snoc,hp,hq,hrec,Bool.and_false]
   | true=>
    have hrn:r.recs=[]:=by simpa using hrec
    have d2:decide ((r.recs.length:Int)>0)=false:=by rw [hrn];rfl
    obtain ⟨q1,q2,q3,σ3,iv'',σ4,u1,u2,u3,u4,u5,u6,u7⟩:=hL0.addItem (k2.trans hg2) (by have:=hrk.1;omega) (finI (iQ s)) cs fp hx2 hfp
    have bb:bndA (σ2.n+2) (.ptr b (rs'.length*6+4))=true:=bnd_pt _ (by have:=hL.lt;omega)
    have bcs:bndO (σ2.n+1) (.cells cs 41 true 7)=true:=hx2.bndv (by omega)
    rw [d2] at e
    simp only [sN,hfa4,q1,sameR,q2,ld78,hx2.beqv,bs33' hx2.len,bcs,all2,push_n,q3,bnd_sl,u1,u2,ble12,bb,u3,u4,u5,bleR,Bool.and_true] at e
    refine fin rs' (putItem (finI (iQ s)) r) b iv'' rv' σ4 _ (by omega) u6 ?_ ?_ ?_ ?_ e
    ·refine ⟨by have:=hrk.1;simp [putItem];omega,by have:=hrk.2.1;simp [putItem];omega,?_⟩
     intro x hxm
     simp only [putItem,List.mem_append,List.mem_singleton] at hxm
     rcases hxm with hxm | rfl
     ·exact hrk.2.2 x hxm
     ·exact finI_small hr
    ·simp only [lineS,hh,condF,getLast_snoc,hp,hq,hrec,Bool.and_true,condT,addTo_snoc]
    ·simp (decide:=true) only [sR,a0]
    ·simp (decide:=true) only [sR]
end Go.Proofs.YtahgmmbmmcaejaaGreatDoor
namespace Go.Proofs.YtahgmmbmmcaejaaGreatDoor
open Go Go.Dt
set_option maxRecDepth 100000
theorem lineS_ok{rs:List RepD}{t:List UInt8}(hlen:rs.length≤400)(hok:∀r∈rs,okRep r)(h:(lineS rs t).2=0):(lineS rs t).1.length≤400∧∀r∈(lineS rs t).1,okRep r:=by
 unfold lineS at h ⊢
 cases hh:(headP t).2 with
 | true=>
  rw [hh] at h
  simp only [condT] at h ⊢
  cases h4:rs.length==400 with
  | true=>rw [h4] at h;cases h
  | false=>
   rw [h4] at h
   simp only [condF] at h ⊢
   have hne:rs.length≠400:=by simpa using h4
   refine ⟨by simp;omega,?_⟩
   intro r hr
   rcases List.mem_append.1 hr with hr | hr
   ·exact hok r hr
   ·simp only [List.mem_singleton] at hr
    subst hr;exact oneS_ok h
 | false=>
  rw [hh] at h
  simp only [condF] at h ⊢
  by_cases hnil:rs=[]
  ·subst hnil;cases h
  ·obtain ⟨rs',r,rfl⟩:=snoc_of hnil
   rw [getLast_snoc] at h ⊢
   simp only at h ⊢
   have app:∀q,oneS q=0→(rs'++[q]).length≤400∧∀r∈rs'++[q],okRep r:=by
    intro q hq
    refine ⟨by simpa using hlen,?_⟩
    intro r hr
    rcases List.mem_append.1 hr with hr | hr
    ·exact hok r (by simp [hr])
    ·simp only [List.mem_singleton] at hr
     subst hr;exact oneS_ok hq
   cases hp:hasPre t recHd with
   | true=>
    rw [hp] at h
    simp only [condT] at h ⊢
    cases hr:(recP (t.drop 7)).2 with
    | true=>
     rw [hr] at h
     simp only [condT,addTo_snoc] at h ⊢
     exact app _ h
    | false=>rw [hr] at h;cases h
   | false=>
    rw [hp] at h
    simp only [condF] at h ⊢
    cases hq:(finE (iQ t)==0 && r.recs.isEmpty) with
    | true=>
     rw [hq] at h
     simp only [condT,addTo_snoc] at h ⊢
     exact app _ h
    | false=>rw [hq] at h;cases h
def parseL:Nat→List UInt8→Nat→List RepD→Option (Int×Nat)×List RepD
 | 0,_,_,rs=>(none,rs)
 | n+1,s,at',rs=>
  if s.length≤at' then (none,rs) else
  let c:=cutB (s.drop at') 10
  let p:=bif c.2.2 then lineS rs c.1 else (rs,3)
  bif p.2 !=0 then (some (p.2,at'),[]) else parseL n s (at'+c.1.length+1) p.1
theorem OutR.weak{σ0 σ1 σ:St}{v:AV}{rs:List RepD}(h:OutR σ1 σ v rs)(hg:Grow σ0 σ1):OutR σ0 σ v rs:=by
 obtain ⟨rows,f0,fs,k1,k2,k3,k4⟩:=h.is
 exact ⟨h.wf,hg.trans h.grow,rows,f0,fs,k1,k2,k3,fun y hy=>Nat.le_trans hg.n (k4 y hy)⟩
def LoopEnd(σ0 σ1:St)(b3:Nat)(y:R Oc)(q:Option (Int×Nat)×List RepD):Prop:=match q with
 | (none,rs)=>∃T' σ' v',y= .ok (.exit 0 T' σ')∧T' 3= .ptr b3 0∧T' 4=v'∧OutR σ1 σ' v' rs
 | (some (e,a),_)=>∃T' σ',y= .ok (.ret T' σ')∧T' 2=nilS∧T' 3= .ptr b3 0∧At σ' b3 (.cells [intV .i64 e,intV .i64 (a:Int)] 26 true 2)∧WF σ'∧Grow σ0 σ'
theorem cutB_len(l:List UInt8)(c:UInt8):(cutB l c).1.length≤l.length:=by
 unfold cutB
 split<;>simp
 omega
theorem loop5(s:List UInt8)(hs:s.length<490000000)(σ0 σ1:St)(b3:Nat)(hb:At σ1 b3 (.cells [intV .i64 0,intV .i64 0] 26 true 2))(hb0:σ0.n≤b3)(hg01:Grow σ0 σ1):∀(n at':Nat),s.length<at'+n→at'≤s.length+1→∀(rs:List RepD) (v:AV) (T:Rg) (σ:St),OutR σ1 σ v rs→rs.length≤400→(∀r∈rs,okRep r)→
  T 0=str s→T 3= .ptr b3 0→T 4=v→T 5=intV .i64 (at':Int)→LoopEnd σ0 σ1 b3 (loopLim (dd tab W 45 c5b) T σ) (parseL n s at' rs):=by
 intro n
 induction n with
 | zero=>
  intro at' hn hle rs v T σ hO hlen hok t0 t3 t4 t5
  have e:=ec5b kOc T σ
  have d:decide ((at':Int)<(s.length:Int))=false:=decide_eq_false (by omega)
  simp only [sN,t0,t5,d] at e
  exact ⟨_,σ,v,loop_exit (dd_of tab W 45 e),by simp (decide:=true) only [sR,t3],by simp (decide:=true) only [sR,t4],hO⟩
 | succ n ih=>
  intro at' hn hle rs v T σ hO hlen hok t0 t3 t4 t5
  have e:=ec5b kOc T σ
  unfold parseL
  by_cases hat:s.length≤at'
  ·have d:decide ((at':Int)<(s.length:Int))=false:=decide_eq_false (by omega)
   simp only [sN,t0,t5,d] at e
   rw [if_pos hat]
   exact ⟨_,σ,v,loop_exit (dd_of tab W 45 e),by simp (decide:=true) only [sR,t3],by simp (decide:=true) only [sR,t4],hO⟩
  ·have d:decide ((at':Int)<(s.length:Int))=true:=decide_eq_true (by omega)
   rw [if_neg hat]
   dsimp only
   have hcl:=cutB_len (s.drop at') 10
   simp only [List.length_drop] at hcl
   simp only [sN,t0,t5,d,sliceS_lo s at' (by omega),W11 (s.drop at') (by simp;omega) 10,cutR] at e
   have stop:∀(σ2:St) (E:Int) (T2:Rg),(E !=0)=true→WF σ2→Grow σ1 σ2→T2 3= .ptr b3 0→T2 5=intV .i64 (at':Int)→T2 9=intV .i64 E→denK tab W 45 c5b kOc T σ=denK tab W 45 c5d (kblk 1 kOc) T2 σ2→
     LoopEnd σ0 σ1 b3 (loopLim (dd tab W 45 c5b) T σ) (some (E,at'),[]):=by
    intro σ2 E T2 hE hw hg m3 m5 m9 hT
    rw [ec5d] at hT
    have hb2:=hb.grow hg
    simp only [sN,m9,hE,m5,build26,m3,st26 hb2] at hT
    exact ⟨_,_,loop_ret (dd_of tab W 45 hT),by simp (decide:=true) only [sR];rfl,by simp (decide:=true) only [sR,m3],hb2.set_same hw _,hw.set _ _,(hg01.trans hg).set hb0 hb2.1 _⟩
   have go:∀(rs2:List RepD) (v2:AV) (σ2:St) (T2:Rg),OutR σ1 σ2 v2 rs2→rs2.length≤400→(∀r∈rs2,okRep r)→T2 0=str s→T2 3= .ptr b3 0→T2 4=v2→T2 5=intV .i64 (at':Int)→T2 6=str (cutB (s.drop at') 10).1→T2 9=intV .i64 0→denK tab W 45 c5b kOc T σ=denK tab W 45 c5d (kblk 1 kOc) T2 σ2→
     LoopEnd σ0 σ1 b3 (loopLim (dd tab W 45 c5b) T σ) (parseL n s (at'+(cutB (s.drop at') 10).1.length+1) rs2):=by
    intro rs2 v2 σ2 T2 hO2 hl2 hok2 m0 m3 m4 m5 m6 m9 hT
    rw [ec5d] at hT
    have dz:((0:Int) !=0)=false:=rfl
    have w1:IntKind.i64.wrap (((cutB (s.drop at') 10).1.length:Int)+1)=(((cutB (s.drop at') 10).1.length+1:Nat):Int):=i64_add1 _ (by omega)
    have w2:IntKind.i64.wrap ((at':Int)+(((cutB (s.drop at') 10).1.length+1:Nat):Int))=((at'+(cutB (s.drop at') 10).1.length+1:Nat):Int):=by
     have:(at':Int)+(((cutB (s.drop at') 10).1.length+1:Nat):Int)=((at'+(cutB (s.drop at') 10).1.length+1:Nat):Int):=by omega
     rw [this];exact i64w _ (by omega)
    simp only [sN,m9,dz,m5,m6,w1,w2] at hT
    have key:∃T1,denK tab W 45 c5b kOc T σ= .ok (.nxt T1 σ2)∧T1 0=str s∧T1 3= .ptr b3 0∧T1 4=v2∧T1 5=intV .i64 ((at'+(cutB (s.drop at') 10).1.length+1:Nat):Int):=by
     refine ⟨_,hT,?_,?_,?_,?_⟩<;>simp (decide:=true) only [sR,m0,m3,m4]
    obtain ⟨T1,e1,n0,n3,n4,n5⟩:=key
    have k:=ih (at'+(cutB (s.drop at') 10).1.length+1) (by omega) (by omega) rs2 v2 T1 σ2 hO2 hl2 hok2 n0 n3 n4 n5
    unfold LoopEnd at k ⊢
    split at k
    ·rename_i rs3 hq
     obtain ⟨T',σ',v',z1,z2⟩:=k
     exact ⟨T',σ',v',loop_next (dd_of tab W 45 e1) z1,z2⟩
    ·rename_i e3 a3 x3 hq
     obtain ⟨T',σ',z1,z2⟩:=k
     exact ⟨T',σ',loop_next (dd_of tab W 45 e1) z1,z2⟩
   cases hw:(cutB (s.drop at') 10).2.2 with
   | false=>
    rw [hw] at e
    simp only [sN] at e
    simp only [condF]
    have h3:((3:Int) !=0)=true:=rfl
    simp only [h3,condT]
    exact stop σ 3 _ h3 hO.wf hO.grow (by simp (decide:=true) only [sR,t3]) (by simp (decide:=true) only [sR,t5]) (by simp (decide:=true) only [sR]) e
   | true=>
    obtain ⟨v2,σ2,q1,q2,q3,q4⟩:=W12 σ1 σ v rs hO hlen hok (cutB (s.drop at') 10).1 (by omega)
    rw [hw] at e
    simp only [sN,t4,q1] at e
    simp only [condT]
    cases hz:(lineS rs (cutB (s.drop at') 10).1).2 !=0 with
    | true=>
     simp only [condT]
     exact stop σ2 _ _ hz q2 q3 (by simp (decide:=true) only [sR,t3]) (by simp (decide:=true) only [sR,t5]) (by simp (decide:=true) only [sR]) e
    | false=>
     have hz0:(lineS rs (cutB (s.drop at') 10).1).2=0:=by simpa using hz
     simp only [condF]
     obtain ⟨l1,l2⟩:=lineS_ok hlen hok hz0
     exact go _ v2 σ2 _ (q4 hz0) l1 l2 (by simp (decide:=true) only [sR,t0]) (by simp (decide:=true) only [sR,t3]) (by simp (decide:=true) only [sR]) (by simp (decide:=true) only [sR,t5]) (by simp (decide:=true) only [sR]) (by simp (decide:=true) only [sR,hz0]) e
def parseS(s:List UInt8):Option (Int×Nat)×List RepD:=if 20000<s.length then (some (4,20000),[]) else parseL (s.length+1) s 0 []
def fltE:Option (Int×Nat)→Int×Int
 | none=>(0,0)
 | some p=>(p.1,(p.2:Int))
def ParseR(σ0:St)(y:R (AEnd×St))(q:Option (Int×Nat)×List RepD):Prop:=∃v σ',y= .ok (.ret (.tuple [v,.agg [intV .i64 (fltE q.1).1,intV .i64 (fltE q.1).2]]),σ')∧OutR σ0 σ' v q.2
theorem parseL_nil:∀(n:Nat) (s:List UInt8) (at':Nat) (rs:List RepD) (p:Int×Nat),(parseL n s at' rs).1=some p→(parseL n s at' rs).2=[]
 | 0,s,at',rs,p,h=>by cases h
 | n+1,s,at',rs,p,h=>by
  unfold parseL at h ⊢
  split at h
  ·cases h
  ·rename_i hc
   rw [if_neg hc]
   simp only at h ⊢
   cases hz:(bif (cutB (s.drop at') 10).2.2 then lineS rs (cutB (s.drop at') 10).1 else (rs,3)).2 !=0 with
   | true=>rfl
   | false=>
    rw [hz] at h
    simp only [condF] at h ⊢
    exact parseL_nil n s _ _ p h
theorem W5(s:List UInt8)(hs:s.length<490000000)(σ:St)(hw:WF σ):ParseR σ (W 5 [str s] σ) (parseS s):=by
 have e:=ec5 k99 (str s) σ
 obtain ⟨σ1,hσ1⟩:∃σ1,σ1=σ.push (.cells [intV .i64 0,intV .i64 0] 26 true 2):=⟨_,rfl⟩
 have hA1:At σ1 σ.n (.cells [intV .i64 0,intV .i64 0] 26 true 2):=by rw [hσ1];exact At.new _ _
 have hw1:WF σ1:=by rw [hσ1];exact WF.push hw _
 have hg1:Grow σ σ1:=by rw [hσ1];exact Grow.push _ _
 simp only [sN,alloc26,← hσ1] at e
 unfold parseS
 have a0:argE [str s] 0=str s:=rfl
 by_cases hl:20000<s.length
 ·have d:decide ((s.length:Int)>20000)=true:=decide_eq_true (by omega)
  rw [if_pos hl]
  simp only [sN,d,build26,st26 hA1] at e
  have hA2:=hA1.set_same hw1 (.cells [intV .i64 4,intV .i64 20000] 26 true 2)
  exact ⟨nilS,_,w5 (by simp) (e.trans (ret99 (by simp (decide:=true) only [sR];rfl) (by simp (decide:=true) only [sR]) (load26 hA2.1 hA2.2))),OutR.nil (hw1.set _ _) (hg1.set (Nat.le_refl _) hA1.1 _)⟩
 ·have d:decide ((s.length:Int)>20000)=false:=decide_eq_false (by omega)
  rw [if_neg hl]
  simp only [sN,d] at e
  rw [ec5a] at e
  simp only [sN] at e
  generalize hT:puts 45 (puts 45 _ _) _=T at e
  have k:=loop5 s hs σ σ1 σ.n hA1 (Nat.le_refl _) hg1 (s.length+1) 0 (by omega) (by omega) [] nilS T σ1 (OutR.nil hw1 (Grow.refl _)) (by simp) (by simp)
   (by rw [← hT];simp (decide:=true) only [sR,a0]) (by rw [← hT];simp (decide:=true) only [sR]) (by rw [← hT];simp (decide:=true) only [sR];rfl) (by rw [← hT];simp (decide:=true) only [sR];rfl)
  unfold LoopEnd at k
  split at k
  ·rename_i rs hq
   obtain ⟨T',σ',v',z1,z3,z4,z5⟩:=k
   rw [hq]
   rw [z1] at e
   have hb:=hA1.grow z5.grow
   simp (decide:=true) only [sN,if_true,ec5c,z3,z4,build26_0,st26 hb] at e
   have hb':=hb.set_same z5.wf (.cells [intV .i64 0,intV .i64 0] 26 true 2)
   refine ⟨v',_,w5 (by simp) (e.trans (ret99 (by simp (decide:=true) only [sR]) (by simp (decide:=true) only [sR,z3]) (load26 hb'.1 hb'.2))),?_⟩
   obtain ⟨rows,f0,fs,k1,k2,k3,k4⟩:=z5.is
   have hm:Mod [σ.n] σ' (σ'.set σ.n (.cells [intV .i64 0,intV .i64 0] 26 true 2)):=Mod.set (by simp) hb.1 _
   have hge:∀y∈f0++fs.flatten,y∉[σ.n]:=by
    intro y hy h1
    simp only [List.mem_singleton] at h1
    have:=k4 y hy
    have hn:σ1.n=σ.n+1:=by rw [hσ1];rfl
    omega
   exact ⟨z5.wf.set _ _,(hg1.trans z5.grow).set (Nat.le_refl _) hb.1 _,rows,f0,fs,k1.mod hm (fun y hy=>hge y (List.mem_append_left _ hy)),k2.mod hm (fun y hy=>hge y (List.mem_append_right _ hy)),k3,fun y hy=>Nat.le_trans hg1.n (k4 y hy)⟩
  ·rename_i e3 a3 x3 hq
   obtain ⟨T',σ',z1,z2,z3,z4,z5,z6⟩:=k
   rw [z1] at e
   simp (decide:=true) only [sN] at e
   have hx:(parseL (s.length+1) s 0 []).2=[]:=parseL_nil _ _ _ _ (e3,a3) (by rw [hq])
   rw [hq]
   refine ⟨nilS,σ',w5 (by simp) (e.trans (ret99 z2 z3 (load26 z4.1 z4.2))),?_⟩
   rw [hq] at hx
   have hx':x3=[]:=hx
   subst hx'
   exact OutR.nil z5 z6
end Go.Proofs.YtahgmmbmmcaejaaGreatDoor
namespace Go.Proofs.YtahgmmbmmcaejaaGreatDoor
open Go Go.Dt
set_option maxRecDepth 100000
theorem OutR.addRep2{σ0 σa σ:St}{v:AV}{rs:List RepD}(ha:OutR σ0 σa v rs)(hg:Grow σa σ)(hn:rs.length+1<1073741824)(r:RepD)(hi:r.items=[])(hr:r.recs=[]):
  beqA v v=true∧bndA (σ.n+1) v=true∧∃σ1 v',appendV tab (σ.push (.cells (headC r) 36 true 6)) 23 23 v (.slice σ.n 0 1 (some 1) 6)= .ok (v',σ1)∧σ1.n=σ.n+2∧bndA (σ.n+2) v'=true∧OutR σ0 σ1 v' (rs++[r])∧
   (∀(b:Nat) (cs:List AV) (e sz:Nat) (ow:Bool),e≠36→At σ b (.cells cs e ow sz)→At σ1 b (.cells cs e ow sz))∧∀(b:Nat) (o:AO),σa.n≤b→At σ b o→At σ1 b o:=by
 have h:=ha.step hg
 obtain ⟨q1,q2,σ1,v',q3,q4,q5,q6,q7⟩:=h.addRep hn r hi hr
 refine ⟨q1,q2,σ1,v',q3,q4,q5,q6,q7,?_⟩
 obtain ⟨rows,f0,fs,k1,_⟩:=ha.is
 obtain ⟨σ1',v'',a1,a2,a3,a4⟩:=vapp (new:=headC r) app23 h.wf (k1.grow hg) hn (headC_len r) rfl
 have:(v',σ1)=(v'',σ1'):=Except.ok.inj (q3.symm.trans a1)
 have hσ:σ1=σ1':=(Prod.mk.inj this).2
 subst hσ
 intro b o hb hA
 exact hA.mod a3 (fun hf=>by have:=k1.lt b hf;omega)
theorem RepR.kind{σ:St}{cs:List AV}{r:RepD}{f:List Nat}(h:RepR σ cs r f):∀y∈f,∃cs e ow sz,At σ y (.cells cs e ow sz)∧(e=41∨e=77∨e=74∨e=3∨e=2):=by
 have vk:∀ {e sz n:Nat} {v:AV} {cs:List AV} {fp:List Nat},Vec σ e sz n v cs fp→(e=41∨e=77∨e=74∨e=3∨e=2)→∀y∈fp,∃cs e ow sz,At σ y (.cells cs e ow sz)∧(e=41∨e=77∨e=74∨e=3∨e=2):=by
  intro e sz n v cs fp hV he y hy
  rcases hV.is with ⟨_,_,rfl⟩ | ⟨b,_,hA,rfl⟩
  ·cases hy
  ·simp only [List.mem_singleton] at hy;subst hy;exact ⟨_,_,_,_,hA,he⟩
 have rk:∀ {rows:List (List AV)} {xs:List ItemD} {fp:List Nat},RowsR σ rows xs fp→∀y∈fp,∃cs e ow sz,At σ y (.cells cs e ow sz)∧(e=41∨e=77∨e=74∨e=3∨e=2):=by
  intro rows xs fp hR
  induction hR with
  | nil=>intro y hy;cases hy
  | cons h t ih=>
   intro y hy
   rcases List.mem_append.1 hy with hy | hy
   ·obtain ⟨_,_,_,f1,f2,f3,_,k1,k2,k3,rfl⟩:=h.is
    simp only [List.mem_append] at hy
    rcases hy with (hy | hy) | hy
    ·exact vk k1 (by omega) y hy
    ·exact vk k2 (by omega) y hy
    ·exact vk k3 (by omega) y hy
   ·exact ih y hy
 obtain ⟨iv,rv,rows,f1,f2,f3,_,k1,k2,k3,rfl⟩:=h.is
 intro y hy
 simp only [List.mem_append] at hy
 rcases hy with (hy | hy) | hy
 ·exact vk k1 (by omega) y hy
 ·exact rk k2 y hy
 ·exact vk k3 (by omega) y hy
theorem RepsR.kind{σ:St}{rows:List (List AV)}{rs:List RepD}{fs:List (List Nat)}(hh:RepsR σ rows rs fs):∀y∈fs.flatten,∃cs e ow sz,At σ y (.cells cs e ow sz)∧(e=41∨e=77∨e=74∨e=3∨e=2):=by
 induction hh with
 | nil=>intro y hy;cases hy
 | cons h t ih=>
  intro y hy
  simp only [List.flatten_cons,List.mem_append] at hy
  rcases hy with hy | hy
  ·exact h.kind y hy
  ·exact ih y hy
theorem OutR.set50{σ0 σ:St}{v:AV}{rs:List RepD}(h:OutR σ0 σ v rs){c:Nat}{cs:List AV}{sz:Nat}{ow:Bool}(hA:At σ c (.cells cs 50 ow sz))(hc:σ0.n≤c)(o:AO):OutR σ0 (σ.set c o) v rs:=by
 obtain ⟨rows,f0,fs,k1,k2,k3,k4⟩:=h.is
 have hm:Mod [c] σ (σ.set c o):=Mod.set (by simp) hA.1 _
 refine ⟨h.wf.set _ _,h.grow.set hc hA.1 _,rows,f0,fs,k1.mod hm ?_,k2.mod hm ?_,k3,k4⟩
 ·intro y hy;simpa using k1.off hA (by omega) y hy
 ·intro y hy
  obtain ⟨cs',e',ow',sz',h1,h2⟩:=k2.kind y hy
  simpa using h1.ne hA (by rcases h2 with h | h | h | h | h<;>rw [h]<;>decide)
theorem fa50(b:Nat):fieldAddr tab 50 (.ptr b 0) 0= .ok (.ptr b 0):=by kernel_rfl
theorem fa50'(b:Nat):fieldAddr tab 50 (.ptr b 0) 0= .ok (.ptr b 0):=fa50 b
theorem rec_nil:(recP []).2=false:=by kernel_rfl
theorem rec_hd:finE (iQ recHd)=3:=by kernel_rfl
theorem hasPre_iff(s:List UInt8):hasPre s recHd=decide (s.take 7=recHd):=by
 unfold hasPre
 rw [Bool.eq_iff_iff,List.isPrefixOf_iff_prefix,decide_eq_true_eq,List.prefix_iff_eq_take]
 exact eq_comm
end Go.Proofs.YtahgmmbmmcaejaaGreatDoor
namespace Go.Proofs.YtahgmmbmmcaejaaGreatDoor
open Go Go.Dt
set_option maxRecDepth 100000
noncomputable def k13:K (AEnd×St):=kRet tab [.tmp 4]
theorem k13_ret(T:Rg)(s:St):k13.ret T s= .ok (.ret (T 4),s):=r13 T s
def Out13(σ1:St)(rb:Nat)(y:R (AEnd×St))(q:List RepD×Int):Prop:=
 ∃v' σ',y= .ok (.ret (intV .i64 q.2),σ')∧WF σ'∧Grow σ1 σ'∧(q.2=0→At σ' rb (.cells [v'] 50 true 1)∧OutR σ1 σ' v' q.1)
theorem ldV{σ:St}{rb:Nat}{v:AV}(h:At σ rb (.cells [v] 50 true 1)):loadV tab σ 23 (.ptr rb 0)= .ok v:=ld l23 h rfl
theorem stV{σ:St}{rb:Nat}{v v':AV}(h:At σ rb (.cells [v] 50 true 1))(hc:v'.cells=[v'])(ho:AV.oneCell v'=true):storeV tab σ 23 (.ptr rb 0) v'= .ok (σ.set rb (.cells [v'] 50 true 1)):=by
 have:=stv (o:=0) (x:=v') sz23 h (by rw [hc];rfl) (by omega) (by simp) (by rw [hc];simp [ho])
 rw [this,hc];rfl
theorem OutR.cell{σ0 σ:St}{v:AV}{rs:List RepD}(h:OutR σ0 σ v rs):v.cells=[v]∧AV.oneCell v=true∧beqA v v=true:=by
 obtain ⟨rows,f0,fs,k1,_⟩:=h.is
 exact ⟨k1.cell,k1.one,k1.beq⟩
theorem OutR.bndv{σ0 σ:St}{v:AV}{rs:List RepD}(h:OutR σ0 σ v rs){m:Nat}(hm:σ.n≤m):bndA m v=true:=by
 obtain ⟨rows,f0,fs,k1,_⟩:=h.is
 exact k1.bnd hm
theorem last25(σ1 σ:St)(rb:Nat)(v:AV)(rs:List RepD)(r:RepD)(b:Nat)(iv rv:AV)(h:LastR σ1 σ v rs r b iv rv)(hr:okRepL r)(hrb:At σ rb (.cells [v] 50 true 1)):
  ∃cs σ',loadV tab σ 36 (.ptr b (rs.length*6))= .ok (.agg cs)∧W 25 [.agg cs] σ= .ok (.ret (intV .i64 (oneS r)),σ')∧Grow σ σ'∧At σ' rb (.cells [v] 50 true 1)∧OutR σ1 σ' v (rs++[r]):=by
 obtain ⟨cs,fp,l1,l2⟩:=h.rep
 obtain ⟨σ',k1,k2⟩:=W25 σ h.wf cs r (by have:=hr.1;omega) (by have:=hr.2.1;omega) fp l2
 exact ⟨cs,σ',l1,k1,k2,hrb.grow k2,(h.step k2).toOut⟩
theorem item13(σ1 σ:St)(rb:Nat)(v:AV)(rs:List RepD)(r:RepD)(_:rs.length+1≤400)(hrk:okRep r)(h:OutR σ1 σ v (rs++[r]))(hrb:At σ rb (.cells [v] 50 true 1))(_:σ1.n≤rb)(s:List UInt8)(hs:s.length<480000000)(T:Rg)
  (t0:T 0= .ptr rb 0) (t1:T 1=str s) (t5:T 5=intV .i64 (rs.length:Int)):
  Out13 σ1 rb (denK tab W 131 c13d k13 T σ) (bif finE (iQ s)==0 && r.recs.isEmpty then (addTo (putItem (finI (iQ s))) (rs++[r]),oneS (putItem (finI (iQ s)) r)) else (rs++[r],3)):=by
 have e:=ec13d k13 T σ
 obtain ⟨cs,σ2,fp,j1,j2,j3,j4⟩:=W27 s (by omega) σ h.wf
 have hA2:=At.new σ2 (.cells zero41 41 true 7)
 have hst:=stItem (j3.grow (Grow.push σ2 (.cells zero41 41 true 7))) hA2
 obtain ⟨σ3,hσ3⟩:∃σ3,σ3=(σ2.push (.cells zero41 41 true 7)).set σ2.n (.cells cs 41 true 7):=⟨_,rfl⟩
 rw [← hσ3] at hst
 have hA3:At σ3 σ2.n (.cells cs 41 true 7):=by rw [hσ3];exact hA2.set_same (WF.push (j2.wf h.wf) _) _
 have hg3:Grow σ2 σ3:=by rw [hσ3];exact (Grow.push _ _).set (Nat.le_refl _) hA2.1 _
 have hx3:=j3.grow hg3
 obtain ⟨b,iv,rv,hL0⟩:=h.toLast
 have hL:=hL0.step (j2.trans hg3)
 have hrb3:=hrb.grow (j2.trans hg3)
 have hE:finE (parseQ (splitB 32 s))=finE (iQ s):=rfl
 have hI:finI (parseQ (splitB 32 s))=finI (iQ s):=rfl
 simp only [sN,t1,j1,alloc41',hst] at e
 rw [ec13e] at e
 rw [hE] at e
 have hw3:=hL.wf
 have ldv:=ldV hrb3
 have hfa5:fieldAddr tab 36 (.ptr b (rs.length*6)) 5= .ok (.ptr b (rs.length*6+5)):=fa36_5 b _
 have hfa4:fieldAddr tab 36 (.ptr b (rs.length*6)) 4= .ok (.ptr b (rs.length*6+4)):=fa36_4 b _
 have fail:∀T,T 4=intV .i64 3→denK tab W 131 c13d k13 T σ=denK tab W 131 c13d k13 T σ→True:=fun _ _ _=>trivial
 have bad:∀T1:Rg,T1 4=intV .i64 3→denK tab W 131 c13d k13 T σ=k13.ret T1 σ3→Out13 σ1 rb (denK tab W 131 c13d k13 T σ) (rs++[r],3):=by
  intro T1 m4 hT
  exact ⟨v,σ3,hT.trans ((k13_ret T1 σ3).trans (by rw [m4])),hw3,hL.grow,fun h=>by cases h⟩
 cases hz:finE (iQ s)==0 with
 | false=>
  have hz':(finE (iQ s) !=0)=true:=by rw [bne,hz];rfl
  simp (decide:=true) only [sN,pickV_boolV,sR,hz'] at e
  simp only [Bool.false_and,condF]
  exact bad _ (by simp (decide:=true) only [sR]) e
 | true=>
  have hz':(finE (iQ s) !=0)=false:=by rw [bne,hz];rfl
  have hz0:finE (iQ s)=0:=by simpa using hz
  obtain ⟨p1,p2,p3,p4,_⟩:=hL.addRec (by have:=hrk.2.1;omega) zeroRec
  simp (decide:=true) only [sN,pickV_boolV,sR,hz',t0,t5,nilC,fa50,ldv,hL.ix,hfa5,p1,p4] at e
  simp only [Bool.true_and]
  cases hrec:r.recs.isEmpty with
  | false=>
   have d2:decide ((r.recs.length:Int)>0)=true:=by
    have:r.recs≠[]:=by intro hh;rw [hh] at hrec;cases hrec
    have:=List.length_pos_iff.2 this
    exact decide_eq_true (by omega)
   rw [d2] at e
   simp (decide:=true) only [sN] at e
   simp only [condF]
   exact bad _ (by simp (decide:=true) only [sR]) e
  | true=>
   have hrn:r.recs=[]:=by simpa using hrec
   have d2:decide ((r.recs.length:Int)>0)=false:=by rw [hrn];rfl
   obtain ⟨q1,q2,q3,σ4,iv'',σ5,u1,u2,u3,u4,u5,u6,u7⟩:=hL0.addItem (j2.trans hg3) (by have:=hrk.1;omega) (finI (iQ s)) cs fp (hI ▸ hx3) j4
   have bb:bndA (σ3.n+2) (.ptr b (rs.length*6+4))=true:=bnd_pt _ (by have:=hL.lt;omega)
   have bcs:bndO (σ3.n+1) (.cells cs 41 true 7)=true:=hx3.bndv (by omega)
   have hvc:=h.cell
   have hrb45:=u7 _ _ _ _ _ (by omega) (by omega) hrb3
   have ldv4:=ldV hrb45.1
   have ldv5:=ldV hrb45.2
   have hr':okRepL (putItem (finI (iQ s)) r):=by
    refine ⟨by have:=hrk.1;simp [putItem];omega,by have:=hrk.2.1;simp [putItem];omega,?_⟩
    intro x hxm
    simp only [putItem,List.mem_append,List.mem_singleton] at hxm
    rcases hxm with hxm | rfl
    ·exact hrk.2.2 x hxm
    ·exact finI_small hz0
   obtain ⟨cs6,σ6,m1,m2,m3,m4,m5⟩:=last25 σ1 σ5 rb v rs (putItem (finI (iQ s)) r) b iv'' rv u6 hr' hrb45.2
   rw [d2] at e
   simp (decide:=true) only [sN,sameR,hvc.2.2,hL.ix,hfa4,q1,q2,ldIt hA3 hx3.len,hx3.beqv,bs33' hx3.len,bcs,all2,push_n,q3,bnd_sl,u1,u2,ble12,ldv4,bb,u3,u4,u5,bleR,ldv5,m1,m2,Bool.and_true] at e
   simp only [condT,addTo_snoc]
   refine ⟨v,σ6,e.trans ((k13_ret _ _).trans ?_),m5.wf,m5.grow,fun _=>⟨m4,m5⟩⟩
   simp (decide:=true) only [sR]
end Go.Proofs.YtahgmmbmmcaejaaGreatDoor
