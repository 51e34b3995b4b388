/-
  What a run of the staged reading says of the model. No statement of this seat stands here.
-/
import Derived.Test.YtahgmmbmmcaejaaGreatDoorP05
import Derived.Test.YtahgmmbmmcaejaaGreatDoorP06
import Derived.ChangeSame
import Derived.RowKit
namespace Go.Dt
theorem beq_eq(a b:Nat):Nat.beq a b=decide (a=b):=by
 by_cases h:a=b
 ·subst h;simp
 ·have:Nat.beq a b=false:=by
   cases hb:Nat.beq a b with
   | false=>rfl
   | true=>exact (h (Nat.eq_of_beq_eq_true hb)).elim
  simp [h,this]
theorem blt_eq(a b:Nat):Nat.blt a b=decide (a<b):=by
 by_cases h:a<b
 ·simp [h,Nat.blt,Nat.ble_eq_true_of_le h]
 ·have:Nat.blt a b=false:=by
   cases hb:Nat.blt a b with
   | false=>rfl
   | true=>exact (h (by simpa [Nat.blt_eq] using hb)).elim
  simp [h,this]
theorem ble_eq'(a b:Nat):Nat.ble a b=decide (a≤b):=by
 by_cases h:a≤b
 ·simp [h,Nat.ble_eq_true_of_le h]
 ·have:Nat.ble a b=false:=by
   cases hb:Nat.ble a b with
   | false=>rfl
   | true=>exact (h (Nat.le_of_ble_eq_true hb)).elim
  simp [h,this]
def Le{α:Type}(x y:R α):Prop:=∀a,x= .ok a→y= .ok a
theorem Le.refl{α:Type}(x:R α):Le x x:=fun _ h=>h
theorem Le.error{α:Type}{e:String}{y:R α}:Le (.error e:R α) y:=fun _ h=>by cases h
theorem Le.trans{α:Type}{x y z:R α}(h:Le x y)(k:Le y z):Le x z:=fun a ha=>k a (h a ha)
def CLe(c c':CallT):Prop:=∀f args σ,Le (c f args σ) (c' f args σ)
inductive Tri(α:Type) where
 | leaf (a:α)
 | node (k:Nat) (l r:Tri α)
noncomputable def Tri.get{α:Type}(i:Nat)(t:Tri α):α:=Tri.rec (motive:=fun _=>α) (fun a=>a) (fun k _ _ gl gr=>bif Nat.blt i k then gl else gr) t
def Tri.ok{α:Type}(Q:Nat→α→Prop):Tri α→Nat→Nat→Prop
 | .leaf a,lo,hi=>hi≤lo+1∧Q lo a
 | .node k l r,lo,hi=>Tri.ok Q l lo k∧Tri.ok Q r k hi
theorem Tri.get_node{α:Type}(i k:Nat)(l r:Tri α):(Tri.node k l r).get i=bif Nat.blt i k then l.get i else r.get i:=rfl
theorem Tri.get_ok{α:Type}{Q:Nat→α→Prop}{i:Nat}:∀(t:Tri α) (lo hi:Nat),t.ok Q lo hi→lo≤i→i<hi→Q i (t.get i)
 | .leaf a,lo,hi,h,h1,h2=>by
  have:i=lo:=by have:=h.1;omega
  subst this
  exact h.2
 | .node k l r,lo,hi,h,h1,h2=>by
  rw [Tri.get_node,blt_eq]
  by_cases hk:i<k
  ·simp only [hk,decide_true,cond_true];exact Tri.get_ok l lo k h.1 h1 hk
  ·simp only [hk,decide_false,cond_false];exact Tri.get_ok r k hi h.2 (by omega) h2
theorem Tri.okN{α:Type}{Q:Nat→α→Prop}{k lo hi:Nat}{l r:Tri α}(hl:l.ok Q lo k)(hr:r.ok Q k hi):(Tri.node k l r).ok Q lo hi:=⟨hl,hr⟩
theorem Tri.okL{α:Type}{Q:Nat→α→Prop}{lo:Nat}{a:α}(hq:Q lo a):(Tri.leaf a).ok Q lo (lo+1):=⟨Nat.le_refl _,hq⟩
def extL(l:List (Nat×ExtKind))(g:Nat):Option ExtKind:=
 match l with
 | []=>none
 | (i,k)::l=>bif Nat.beq g i then some k else extL l g
def ExtFn(P:Program)(g:Nat)(k:ExtKind)(fn:Func):Prop:=
 P.funcs[g]? =some fn∧(fn.name== "runtime.NumGoroutine")=false∧fn.body.isNone=true∧(Extern.findNext fn).isNone=true∧Extern.find fn=some k.sem
def ExtAll(P:Program):List (Nat×ExtKind)→Prop
 | []=>True
 | (i,k)::l=>(∃fn,ExtFn P i k fn)∧ExtAll P l
theorem extL_ok{P:Program}:∀ {l:List (Nat×ExtKind)},ExtAll P l→∀g k,extL l g=some k→∃fn,P.funcs[g]? =some fn∧(fn.name== "runtime.NumGoroutine")=false∧fn.body.isNone=true∧(Extern.findNext fn).isNone=true∧Extern.find fn=some k.sem
 | [],_,g,k,h=>by simp [extL] at h
 | (i,k')::l,ha,g,k,h=>by
  unfold extL at h
  rw [beq_eq] at h
  by_cases e:g=i
  ·simp only [e,decide_true,cond_true,Option.some.injEq] at h
   subst h
   rw [e]
   exact ha.1
  ·simp only [e,decide_false,cond_false] at h
   exact extL_ok ha.2 g k h
theorem noEq{p:Prop}(h:false=true):p:=by cases h
noncomputable def mkTab(nf nt ng pm:Nat)(ft:Tri Func)(tt:Tri (TypeInfo×Bool))(ex:Nat→Option ExtKind)(cuts:List (Nat×Nat×Nat×Nat)):Tab where
 func:=fun i=>bif Nat.blt i nf then some (ft.get i) else none
 info:=fun t=>bif Nat.blt t nt then some (tt.get t).1 else none
 nglob:=ng
 pure:=fun i=>Nat.beq (Nat.land 1 (Nat.shiftRight pm i)) 1
 eqOk:=fun t=>bif Nat.blt t nt then (tt.get t).2 else false
 ext:=ex
 cut:=cutBy cuts
 memo:=fun _=>True
noncomputable def Tab.full(D:Tab)(P:Program):Tab:= {D with memo:=fun m=>MemoOK D P m}
theorem full_memo(D:Tab)(P:Program)(m:Memo):(D.full P).memo m↔MemoOK (D.full P) P m:=
 ⟨fun h=>⟨h.nd,h.call⟩,fun h=>⟨h.nd,h.call⟩⟩
theorem fits_full{D:Tab}{P:Program}(h:Fits D P):Fits (D.full P) P:=⟨h.func,h.info,h.eqOk,h.ext,h.depth,h.mixed⟩
theorem mkTab_fits{P:Program}{nf nt ng pm:Nat}{ft:Tri Func}{tt:Tri (TypeInfo×Bool)}{ex:Nat→Option ExtKind}{cuts:List (Nat×Nat×Nat×Nat)}(hf:ft.ok (fun i f=>P.funcs[i]? =some f) 0 nf)
  (ht:tt.ok (fun i x=>P.info? i=some x.1∧(x.2=true→P.stoodInHeld i=false)) 0 nt) (hx:∀g k,ex g=some k→∃fn,P.funcs[g]? =some fn∧(fn.name== "runtime.NumGoroutine")=false∧fn.body.isNone=true∧(Extern.findNext fn).isNone=true∧Extern.find fn=some k.sem) (hd:10≤P.depth) (hm:P.follows .mixedOrders=true):Fits (mkTab nf nt ng pm ft tt ex cuts) P where
 ext:=hx
 func:=fun i f h=>by
  simp only [mkTab,blt_eq] at h
  by_cases hi:i<nf
  ·simp only [hi,decide_true,cond_true,Option.some.injEq] at h
   rw [← h]
   exact Tri.get_ok ft 0 nf hf (Nat.zero_le _) hi
  ·simp [hi] at h
 info:=fun t i h=>by
  simp only [mkTab,blt_eq] at h
  by_cases hi:t<nt
  ·simp only [hi,decide_true,cond_true,Option.some.injEq] at h
   rw [← h]
   exact (Tri.get_ok tt 0 nt ht (Nat.zero_le _) hi).1
  ·simp [hi] at h
 eqOk:=fun t h=>by
  simp only [mkTab,blt_eq] at h
  by_cases hi:t<nt
  ·simp only [hi,decide_true,cond_true] at h
   exact (Tri.get_ok tt 0 nt ht (Nat.zero_le _) hi).2 h
  ·simp [hi] at h
 depth:=hd
 mixed:=hm
def iota0:Nat→Loc:=fun b=>⟨b,0,0,0⟩
theorem rep0(D:Tab)(W:World){M:MTree}(hM:∀m,M.mem m→D.memo m):Rep D iota0 (freshSt D M) W where
 len:=by simp [freshSt,replGone_length]
 glob:=Nat.le_refl _
 gloc:=fun g _=>⟨rfl,rfl⟩
 obj:=fun b _=>by rw [fresh_gone];trivial
 sep:=fun b b' _ _ _ hm=>by rw [fresh_gone] at hm;simp [AO.isMut] at hm
 mem:=hM
theorem Fresh.kept{W W':World}(h:Fresh W W')(may:MemPlace→Prop):W.keptBut W' may:=by
 refine ⟨h.os,h.output,fun i hi=> ?_⟩
 rw [h.old i hi]
 cases W.heap[i]? with
 | none=>trivial
 | some o=>cases o<;>simp
theorem Fresh.cell{W W':World}(h:Fresh W W'){i:Nat}(hi:i<W.heap.size):W'.heap[i]? =W.heap[i]? :=h.old i hi
end Go.Dt
namespace Go.Dt
noncomputable def isMemo(m:Memo)(r:R (Memo×MTree)):Bool:=
 match r with
 | .ok (x,_)=>bif Nat.beq x.f m.f then bif beqL x.args m.args then bif beqH x.heap m.heap then bif beqA x.val m.val then beqH x.res m.res else false else false else false else false
 | .error _=>false
theorem isMemo_ok{m:Memo}{r:R (Memo×MTree)}(h:isMemo m r=true):∃M,r= .ok (m,M):=by
 unfold isMemo at h
 split at h
 ·rename_i x M
  cases h1:Nat.beq x.f m.f with
  | false=>rw [h1] at h;cases h
  | true=>
   rw [h1] at h
   simp only [cond_true] at h
   cases h2:beqL x.args m.args with
   | false=>rw [h2] at h;cases h
   | true=>
    rw [h2] at h
    simp only [cond_true] at h
    cases h3:beqH x.heap m.heap with
    | false=>rw [h3] at h;cases h
    | true=>
     rw [h3] at h
     simp only [cond_true] at h
     cases h4:beqA x.val m.val with
     | false=>rw [h4] at h;cases h
     | true=>
      rw [h4] at h
      simp only [cond_true] at h
      refine ⟨M,?_⟩
      have e1:x.f=m.f:=Nat.eq_of_beq_eq_true h1
      have e2:=beqL_ok _ _ h2
      have e3:=beqH_ok h3
      have e4:=beqA_ok _ _ h4
      have e5:=beqH_ok h
      cases x
      cases m
      simp only at e1 e2 e3 e4 e5
      subst e1;subst e2;subst e3;subst e4;subst e5
      rfl
 ·cases h
theorem memo_of_run{D:Tab}{P:Program}(F:Fits D P)(HM:∀m,D.memo m↔MemoOK D P m){n:Nat}{m:Memo}{M:MTree}(hM:∀x,M.mem x→D.memo x)
  (h:isMemo m (pureF D (fns D n) m.f m.args {n:=m.heap.length,l:=m.heap,M:=M})=true):D.memo m:=by
 obtain ⟨M',hr⟩:=isMemo_ok h
 exact (HM m).2 (pureF_ok F (fns_ok F HM n) hr hM rfl).2.2.2.1
theorem mem_e{D:Tab}:∀x,MTree.e.mem x→D.memo x:=fun _ h=>h.elim
theorem mem_add'{D:Tab}{M:MTree}{m:Memo}{p:Pth}(hM:∀x,M.mem x→D.memo x)(hm:D.memo m):∀x,(M.add m p).mem x→D.memo x:=fun x hx=>by
 rcases MTree.mem_add _ _ hx with rfl | h
 ·exact hm
 ·exact hM x h
end Go.Dt
