/-
  Comparisons: the model does what the deterministic reading does. No statement of this seat stands here.
-/
import Derived.Test.YtahgmmbmmcaejaaGreatDoorP00
import Derived.ChangeKeysEq
import Derived.Orders
import Derived.Laws.World
import Derived.Calls
namespace Go.Dt
section
variable {D:Tab} {P:Program} (F:Fits D P) {ι:Nat→Loc} (w:World)
include F
theorem run_eqFields{d:Nat}{rec_:Nat→AV→AV→R Bool}
  (hrec:∀t x y b,rec_ t x y= .ok b→(Op.equalIn d t (conc ι x) (conc ι y)).run P w= .ok b w) {xs ys:List AV}:
  ∀(fs:List Field) (b:Bool),eqFields D rec_ xs ys fs= .ok b→(Op.eqFields d (concL ι xs).toArray (concL ι ys).toArray fs).run P w= .ok b w:=by
 intro fs
 induction fs with
 | nil=>intro b h;simp [eqFields] at h;subst h;simp [Op.eqFields]
 | cons f fs ih=>
  intro b h
  simp only [eqFields] at h
  simp only [Op.eqFields]
  split at h
  ·rename_i hn
   simp only [hn,ne_eq,not_true,if_false]
   exact ih b h
  ·rename_i hn
   simp only [bind_ok] at h
   obtain ⟨x,hx,y,hy,r,hr,h⟩:=h
   simp only [hn,ne_eq,not_false_eq_true,if_true,Sem.run_bind,run_part F w hx,run_part F w hy,Result.andThen_ok,hrec _ _ _ _ hr,Sem.run_ite,Sem.run_pure]
   cases r with
   | true=>simpa using ih b (by simpa using h)
   | false=>simp at h;subst h;simp
theorem run_eqElems{d:Nat}{rec_:Nat→AV→AV→R Bool}
  (hrec:∀t x y b,rec_ t x y= .ok b→(Op.equalIn d t (conc ι x) (conc ι y)).run P w= .ok b w) {elem n:Nat} {xs ys:List AV}:
  ∀(m i:Nat) (b:Bool),eqElems D rec_ elem n xs ys m i= .ok b→
   (Op.eqItems d elem n (concL ι xs).toArray (concL ι ys).toArray (List.range' i m)).run P w= .ok b w:=by
 intro m
 induction m with
 | zero=>intro i b h;simp [eqElems] at h;subst h;simp [Op.eqItems]
 | succ m ih=>
  intro i b h
  simp only [eqElems,bind_ok] at h
  obtain ⟨x,hx,y,hy,r,hr,h⟩:=h
  simp only [List.range'_succ,Op.eqItems,Sem.run_bind,run_part F w hx,run_part F w hy,Result.andThen_ok,hrec _ _ _ _ hr,Sem.run_ite,Sem.run_pure]
  cases r with
  | true=>simpa using ih (i+1) b (by simpa using h)
  | false=>simp at h;subst h;simp
theorem run_eqLeaf{d t:Nat}{ty:TypeDesc}{x y:AV}{b:Bool}(ht:und D t= .ok ty)(h:eqLeaf ty x y= .ok b):
  (Op.equalIn (d+1) t (conc ι x) (conc ι y)).run P w= .ok b w:=by
 simp only [Op.equalIn,Sem.run_bind,run_und F w ht,Result.andThen_ok]
 unfold eqLeaf at h
 split at h<;>(try (simp at h;done))<;>(try (simp at h;subst h;simp [conc];done))
 ·
  split at h
  ·rename_i k k' hk
   simp at h;subst h;simp [conc,hk]
  ·simp at h
 ·
  simp at h;subst h
  rename_i a b
  simp only [conc]
  simp only [Sem.run_pure,Result.ok.injEq,and_true]
  show ((⟨⟨a⟩⟩:ByteArray)==⟨⟨b⟩⟩)=(a==b)
  rw [Go.beq_toListBytes,ByteArray.toList_eq,ByteArray.toList_eq]
 ·rename_i b o len cap sz
  simp at h;subst h
  obtain ⟨c,hc⟩:=conc_slice ι b o len cap sz
  rw [hc];simp [conc]
 ·rename_i b o l sz
  simp at h;subst h
  obtain ⟨a,c,hc⟩:=conc_sliceZ ι b o l sz
  rw [hc];simp [conc]
 ·rename_i b o len cap sz _ _
  simp at h;subst h
  obtain ⟨c,hc⟩:=conc_slice ι b o len cap sz
  rw [hc];simp [conc]
 ·rename_i b o l sz _ _
  simp at h;subst h
  obtain ⟨a,c,hc⟩:=conc_sliceZ ι b o l sz
  rw [hc];simp [conc]
theorem run_eqV:∀(d t:Nat) (x y:AV) (b:Bool),eqV D d t x y= .ok b→∀k,d≤k→(Op.equalIn k t (conc ι x) (conc ι y)).run P w= .ok b w:=by
 intro d
 induction d with
 | zero=>intro t x y b h;simp [eqV] at h
 | succ d ih=>
  intro t x y b h k hk
  obtain ⟨k,rfl⟩:∃j,k=j+1:=⟨k - 1,by omega⟩
  have ih':∀t x y b,eqV D d t x y= .ok b→(Op.equalIn k t (conc ι x) (conc ι y)).run P w= .ok b w:=fun t x y b h=>ih t x y b h k (by omega)
  simp only [eqV,bind_ok] at h
  obtain ⟨ty,hty,h⟩:=h
  split at h
  ·rename_i fields xs ys
   split at h
   ·rename_i hq
    have hu:=und_ok F hty
    have hf:P.fieldsOf t=fields:=by simp [Program.fieldsOf,hu]
    simp only [conc]
    rw [run_equalIn_struct w k t _ _ (by rw [hf];exact hu) (F.eqOk _ hq),hf]
    exact run_eqFields F w ih' _ _ h
   ·simp at h
  ·rename_i len elem xs ys
   simp only [bind_ok] at h
   obtain ⟨n,hn,h⟩:=h
   have key:=run_eqElems F w ih' _ _ _ h
   obtain ⟨i,hi,rfl⟩:=size_ok F hn
   have hc:P.cellsOf elem=i.size:=by simp [Program.cellsOf,hi]
   simp only [conc]
   rw [Go.run_equalIn_array w k _ _ (und_ok F hty) hi,hc,List.range_eq_range']
   exact key
  ·rename_i elem b1 o1 b2 o2
   simp only [bind_ok] at h
   obtain ⟨n,hn,h⟩:=h
   split at h
   ·rename_i hc
    obtain ⟨rfl,hn0⟩:=hc
    simp at h;subst h
    simp only [Op.equalIn,Sem.run_bind,run_und F w hty,Result.andThen_ok,conc,run_size F w hn,Sem.run_ite]
    rw [if_pos hn0]
    simp only [sameAddr,Loc.at,beq_self_eq_true,if_true,Sem.run_pure]
    congr 1
    rw [Bool.eq_iff_iff]
    simp
   ·simp at h
  ·exact run_eqLeaf F w hty h
theorem guardFree_ok:∀(d t:Nat),guardFree D d t=true→∀k,d≤k→P.eqGuardType k t=false:=by
 intro d
 induction d with
 | zero=>intro t h;simp [guardFree] at h
 | succ d ih=>
  intro t h k hk
  obtain ⟨k,rfl⟩:∃j,k=j+1:=⟨k - 1,by omega⟩
  unfold guardFree at h
  unfold Program.eqGuardType
  split at h
  ·rename_i ms hu
   rw [und_ok F hu]
   simpa using h
  ·rename_i fs hu
   rw [und_ok F hu]
   simp only [← Array.any_toList]
   clear hu
   generalize fs.toList=l at h ⊢
   induction l with
   | nil=>simp
   | cons f l ihl=>
    simp only [guardFields,Bool.and_eq_true,Bool.or_eq_true,beq_iff_eq] at h
    simp only [List.any_cons,Bool.or_eq_false_iff,Bool.and_eq_false_iff,bne_eq_false_iff_eq]
    refine ⟨?_,ihl h.2⟩
    rcases h.1 with h1 | h1
    ·exact .inl h1
    ·exact .inr (ih _ h1 k (by omega))
  ·rename_i n e hu
   rw [und_ok F hu]
   exact ih _ h k (by omega)
  ·rename_i ty h1 h2 h3 hu
   rw [und_ok F hu]
   cases ty<;>simp_all
  ·simp at h
end
end Go.Dt
namespace Go.Dt
section
variable {D:Tab} {P:Program} (F:Fits D P) {ι:Nat→Loc} (w:World)
theorem run_intOp{op:BinOp}{t:TypeId}{k k':IntKind}{a b:Int}{v:AV}(h:intOp op k k' a b= .ok v):
  (Go.binOp op t (.int k a) (.int k' b)).run P w= .ok (conc ι v) w:=by
 unfold intOp at h
 split at h
 ·split at h
  ·simp at h
  ·rename_i hb
   simp at h;subst h
   simp [Go.binOp,Op.shift,hb,intV,conc]
 ·split at h
  ·simp at h
  ·rename_i hb
   simp at h;subst h
   simp [Go.binOp,Op.shift,hb,intV,conc]
 ·split at h
  ·rename_i hk
   subst hk
   split at h<;>(try (simp at h;done))<;>(try (simp at h;subst h;simp [Go.binOp,Op.intArith,Op.intBits,Op.intCmp,intV,boolV,conc];done))
   ·split at h
    ·simp at h
    ·rename_i hb
     simp at h;subst h
     simp [Go.binOp,Op.intDiv,hb,intV,conc]
   ·split at h
    ·simp at h
    ·rename_i hb
     simp at h;subst h
     simp [Go.binOp,Op.intDiv,hb,intV,conc]
  ·simp at h
theorem toListBytes(a:List UInt8):(⟨⟨a⟩⟩:ByteArray).toList=a:=by rw [ByteArray.toList_eq]
theorem run_strOp{op:BinOp}{t:TypeId}{a b:List UInt8}{v:AV}(h:strOp op a b= .ok v):
  (Go.binOp op t (.string ⟨⟨a⟩⟩) (.string ⟨⟨b⟩⟩)).run P w= .ok (conc ι v) w:=by
 unfold strOp at h
 split at h<;>(try (simp at h;done))<;>(try (simp at h;subst h;simp [Go.binOp,Op.stringOp,boolV,conc];done))
 split at h
 ·rename_i hl
  simp at h;subst h
  have hs:(⟨⟨a⟩⟩:ByteArray).size=a.length:=rfl
  have hs':(⟨⟨b⟩⟩:ByteArray).size=b.length:=rfl
  have hle:¬((a.length:Int)+(b.length:Int)>IntKind.i64.max):=by
   simp only [IntKind.max,IntKind.signed,IntKind.bits,if_true]
   have:a.length+b.length<2^40:=hl
   omega
  simp only [Go.binOp,Op.stringOp,hs,hs',Sem.run_ite]
  rw [if_neg (by push_cast;exact hle)]
  simp only [Sem.run_pure,str,conc]
  congr 2
 ·simp at h
include F
theorem run_eqOp{op:BinOp}{t:TypeId}{x y v:AV}(h:eqOp D op t x y= .ok v)
  (hn:∀a b,conc ι x= .int a b→False) (hf:∀a b,conc ι x= .float a b→False) (hc:∀a b c,conc ι x= .complex a b c→False)
  (hs:∀a,conc ι x= .string a→False):
  (Go.binOp op t (conc ι x) (conc ι y)).run P w= .ok (conc ι v) w:=by
 unfold eqOp at h
 split at h
 ·simp only [bind_ok,pure_ok] at h
  obtain ⟨b,hb,rfl⟩:=h
  have:=run_eqV F (ι:=ι) w 10 t x y b hb 10000 (by omega)
  have key:(Go.binOp .eql t (conc ι x) (conc ι y))=(do pure (.bool (← Op.equal t (conc ι x) (conc ι y)))):=by
   cases hx:conc ι x<;>(first | exact (hn _ _ hx).elim | exact (hf _ _ hx).elim | exact (hc _ _ _ hx).elim | exact (hs _ hx).elim | rfl)
  rw [key]
  simp [Op.equal,Op.maxDepth,this,boolV,conc]
 ·simp only [bind_ok,pure_ok] at h
  obtain ⟨b,hb,rfl⟩:=h
  have:=run_eqV F (ι:=ι) w 10 t x y b hb 10000 (by omega)
  have key:(Go.binOp .neq t (conc ι x) (conc ι y))=(do pure (.bool (!(← Op.equal t (conc ι x) (conc ι y))))):=by
   cases hx:conc ι x<;>(first | exact (hn _ _ hx).elim | exact (hf _ _ hx).elim | exact (hc _ _ _ hx).elim | exact (hs _ hx).elim | rfl)
  rw [key]
  simp [Op.equal,Op.maxDepth,this,boolV,conc]
 ·simp at h
omit F in
theorem run_eqGuard_none(op:BinOp)(t:TypeId)(x y:Operand)(a b:Value)(h1:¬(a= .nilIface∧b= .nilIface))(h2:∀l,a≠ .agg l):
  (eqGuard op t x y a b).run P w= .ok () w:=by
 cases op<;>simp [eqGuard]<;>split<;>simp_all
omit F in
theorem run_eqGuard_const(op:BinOp)(t:TypeId)(x y:Operand)(h:(isConstO x || isConstO y)=true):
  (eqGuard op t x y .nilIface .nilIface).run P w= .ok () w:=by
 cases op<;>cases x<;>cases y<;>simp_all [eqGuard,isConstO]
theorem run_binOp{op:BinOp}{t:TypeId}{x y v:AV}{ox oy:Operand}(h:binOp D op t x y (isConstO ox || isConstO oy)= .ok v):
  ((do eqGuard op t ox oy (conc ι x) (conc ι y);Go.binOp op t (conc ι x) (conc ι y):Sem Value)).run P w= .ok (conc ι v) w:=by
 simp only [Sem.run_bind]
 have side:∀(x y:AV),eqOp D op t x y= .ok v→¬(conc ι x= .nilIface∧conc ι y= .nilIface)→(∀l,conc ι x≠ .agg l)→
   (∀a b,conc ι x= .int a b→False)→(∀a b,conc ι x= .float a b→False)→(∀a b c,conc ι x= .complex a b c→False)→(∀a,conc ι x= .string a→False)→
   ((eqGuard op t ox oy (conc ι x) (conc ι y)).run P w).andThen (fun _ w=>(Go.binOp op t (conc ι x) (conc ι y)).run P w)= .ok (conc ι v) w:=by
  intro x y h h1 h2 h3 h4 h5 h6
  rw [run_eqGuard_none w op t ox oy _ _ h1 h2]
  exact run_eqOp F w h h3 h4 h5 h6
 unfold binOp at h
 split at h
 ·simp only [conc]
  rw [run_eqGuard_none w op t ox oy _ _ (by simp) (by simp)]
  exact run_intOp w h
 ·simp only [conc]
  rw [run_eqGuard_none w op t ox oy _ _ (by simp) (by simp)]
  exact run_strOp w h
 ·split at h
  ·rename_i hc
   simp only [conc]
   rw [run_eqGuard_const w op t ox oy hc]
   have:=run_eqOp F (ι:=ι) w h (by simp [conc]) (by simp [conc]) (by simp [conc]) (by simp [conc])
   simpa [conc] using this
  ·simp at h
 ·split at h
  ·rename_i hg
   have hg':=guardFree_ok F 10 t hg _ F.depth
   have:=run_eqOp F (ι:=ι) w h (by simp [conc]) (by simp [conc]) (by simp [conc]) (by simp [conc])
   simp only [conc] at this ⊢
   rw [run_eqGuard_agg w op t ox oy _ _ hg']
   exact this
  ·simp at h
 all_goals first
  | (refine side _ _ h ?_ ?_ ?_ ?_ ?_ ?_<;>(simp [conc];done))
  | (rename_i b o n k s l c;obtain ⟨c',hc⟩:=conc_slice ι b o n k s;refine side _ _ h ?_ ?_ ?_ ?_ ?_ ?_<;>(simp [hc];done))
  | (rename_i b o n s l c;obtain ⟨a,c',hc⟩:=conc_sliceZ ι b o n s;refine side _ _ h ?_ ?_ ?_ ?_ ?_ ?_<;>(simp [hc];done))
  | (simp at h;done)
end
end Go.Dt
namespace Go.Dt
theorem overwrite_get:∀(cs l:List AV) (i:Nat),l.length≤cs.length→(overwrite cs l)[i]? =if i<l.length then l[i]? else cs[i]? :=by
 intro cs
 induction cs with
 | nil=>intro l i h;cases l with
  | nil=>simp [overwrite]
  | cons x l=>simp at h
 | cons c cs ih=>
  intro l i h
  cases l with
  | nil=>simp [overwrite]
  | cons x l=>
   simp only [overwrite]
   cases i with
   | zero=>simp
   | succ i=>simpa using ih l i (by simpa using h)
theorem splice_get:∀(cs:List AV) (o:Nat) (l:List AV) (i:Nat),o+l.length≤cs.length→
  (splice cs o l)[i]? =if o≤i∧i<o+l.length then l[i - o]? else cs[i]? :=by
 intro cs
 induction cs with
 | nil=>
  intro o l i h
  have h1:l=[]:=List.eq_nil_of_length_eq_zero (by have h':=h;simp only [List.length_nil] at h';omega)
  subst h1
  cases o<;>simp [splice,overwrite]
 | cons c cs ih=>
  intro o l i h
  cases o with
  | zero=>simp only [splice];rw [overwrite_get _ _ _ (by simpa using h)];simp
  | succ o=>
   simp only [splice]
   cases i with
   | zero=>simp
   | succ i=>
    have:=ih o l i (by simp at h;omega)
    simp only [List.getElem?_cons_succ,this]
    by_cases hc:o≤i∧i<o+l.length
    ·rw [if_pos hc,if_pos (by omega)];congr 1;omega
    ·rw [if_neg hc,if_neg (by omega)]
theorem idsL_splice{ι:Nat→Loc}{A:Nat→Prop}{cs l:List AV}{o:Nat}(h:o+l.length≤cs.length)(hc:idsL ι A cs)(hl:idsL ι A l):idsL ι A (splice cs o l):=by
 refine idsL_iff.2 fun v hv=> ?_
 obtain ⟨i,hi⟩:=List.getElem?_of_mem hv
 rw [splice_get _ _ _ _ h] at hi
 split at hi
 ·exact idsL_get hl hi
 ·exact idsL_get hc hi
theorem foldl_set_get(off:Nat)(l:List Value):∀(k:Nat) (cs:Array Value) (i:Nat),off+k+l.length≤cs.size→
  ((l.zipIdx k).foldl (fun (cs:Array Value) (p:Value×Nat)=>cs.setIfInBounds (off+p.2) p.1) cs)[i]? =
   if off+k≤i∧i<off+k+l.length then l[i - (off+k)]? else cs[i]? :=by
 induction l with
 | nil=>intro k cs i h;simp;intro h1 h2;omega
 | cons v l ih=>
  intro k cs i h
  simp only [List.zipIdx_cons,List.foldl_cons]
  rw [ih (k+1) _ i (by simp at h ⊢;omega)]
  simp only [List.length_cons] at h ⊢
  by_cases h1:off+(k+1)≤i∧i<off+(k+1)+l.length
  ·rw [if_pos h1,if_pos (by omega)]
   have:i - (off+k)=(i - (off+(k+1)))+1:=by omega
   rw [this];simp
  ·rw [if_neg h1]
   by_cases h2:i=off+k
   ·subst h2
    have hlt:off+k<cs.size:=by omega
    rw [if_pos (by omega)]
    simp [hlt]
   ·rw [if_neg (by omega),Array.getElem?_setIfInBounds_ne (by omega)]
theorem splice_conc(ι:Nat→Loc)(cs l:List AV)(off:Nat)(h:off+l.length≤cs.length):
  ((concL ι l).toArray.zipIdx.foldl (fun (cs:Array Value) (p:Value×Nat)=>cs.setIfInBounds (off+p.2) p.1) (concL ι cs).toArray)=(concL ι (splice cs off l)).toArray:=by
 rw [← Array.foldl_toList]
 apply Array.ext_getElem?
 intro i
 have e:(concL ι l).toArray.zipIdx.toList=(concL ι l).zipIdx 0:=by simp
 rw [e,foldl_set_get off (concL ι l) 0 _ i (by simp;omega)]
 simp only [Nat.add_zero,concL_length,List.getElem?_toArray,concL_getElem?]
 rw [splice_get _ _ _ _ h]
 split<;>rfl
theorem run_fill{ι:Nat→Loc}{place:Nat→Option (Nat×Nat)}:∀(parts:List (Nat×AV)) (cells out:List AV),fill place cells parts= .ok out→
  Instr.fill place (concL ι cells).toArray (parts.map fun p=>(p.1,conc ι p.2))=some (concL ι out).toArray:=by
 intro parts
 induction parts with
 | nil=>intro cells out h;simp [fill] at h;subst h;simp [Instr.fill]
 | cons p parts ih=>
  obtain ⟨i,v⟩:=p
  intro cells out h
  simp only [fill] at h
  simp only [List.map_cons,Instr.fill]
  cases hp:place i with
  | none=>rw [hp] at h;simp at h
  | some q=>
   obtain ⟨off,sz⟩:=q
   rw [hp] at h
   simp only at h ⊢
   split at h
   ·rename_i hc
    have e1:(conc ι v).cells=(concL ι v.cells).toArray:=conc_cells v
    have hcond:((conc ι v).cells.size≠sz || decide (off+(conc ι v).cells.size>(concL ι cells).toArray.size))=false:=by
     rw [e1];simp;omega
    have:=ih _ _ h
    simp only [e1] at hcond ⊢
    rw [splice_conc ι cells v.cells off hc.2]
    simp only [ne_eq,List.size_toArray,concL_length] at hcond ⊢
    rw [if_neg (by simp;omega)]
    exact this
   ·simp at h
theorem fill_ids{ι:Nat→Loc}{A:Nat→Prop}{place:Nat→Option (Nat×Nat)}:∀(parts:List (Nat×AV)) (cells out:List AV),fill place cells parts= .ok out→
  idsL ι A cells→(∀p,p∈parts→ids ι A p.2)→idsL ι A out:=by
 intro parts
 induction parts with
 | nil=>intro cells out h hc _;simp [fill] at h;exact h ▸ hc
 | cons p parts ih=>
  obtain ⟨i,v⟩:=p
  intro cells out h hc hp
  simp only [fill] at h
  split at h
  ·simp at h
  ·split at h
   ·rename_i hh
    exact ih _ _ h (idsL_splice hh.2 hc (ids_cells (hp (i,v) (by simp)))) fun p hm=>hp p (by simp [hm])
   ·simp at h
section
variable {D:Tab} {P:Program} (F:Fits D P) {ι:Nat→Loc} (w:World)
theorem run_unOp{op:UnOp}{x v:AV}(h:unOp op x= .ok v):(Op.unary op (conc ι x)).run P w= .ok (conc ι v) w:=by
 unfold unOp at h
 split at h
 ·simp at h;subst h;simp [Op.unary,Op.intArith,conc,intV]
 ·simp at h;subst h;simp [Op.unary,conc,boolV]
 ·simp at h
include F
theorem run_convertV{s d:Nat}{x v:AV}(h:convertV D s d x= .ok v):(Go.convert s d (conc ι x)).run P w= .ok (conc ι v) w:=by
 simp only [convertV,bind_ok] at h
 obtain ⟨a,ha,b,hb,h⟩:=h
 simp only [Go.convert,Sem.run_bind,run_und F w ha,run_und F w hb,Result.andThen_ok]
 split at h
 ·simp at h;subst h;simp [conc,Conv.intToInt,intV]
 ·simp at h;subst h;simp [conc]
 ·simp at h;subst h;simp [conc,Conv.intToString,str]
 ·simp at h
theorem run_structPlaces:∀(fs:List Field) (ps:List (Nat×Nat)),structPlaces D fs= .ok ps→
  (fs.mapM (m:=Sem) fun f=>do pure (f.offset,← sizeOf f.type)).run P w= .ok ps w:=by
 intro fs
 induction fs with
 | nil=>intro ps h;simp [structPlaces] at h;subst h;simp
 | cons f fs ih=>
  intro ps h
  simp only [structPlaces,bind_ok,pure_ok] at h
  obtain ⟨n,hn,l,hl,rfl⟩:=h
  have:=ih _ hl
  simp at this
  simp [List.mapM_cons,run_size F w hn,this]
theorem run_build{t:Nat}{parts:List (Nat×AV)}{v:AV}(h:build D t parts= .ok v):
  (Instr.build t (parts.map fun p=>(p.1,conc ι p.2)).toArray).run P w= .ok (conc ι v) w:=by
 simp only [build,bind_ok] at h
 obtain ⟨z,hz,d,hd,h⟩:=h
 simp only [Instr.build,Sem.run_bind,run_zero F (ι:=ι) w hz,run_und F w hd,Result.andThen_ok]
 have e1:(conc ι z).cells=(concL ι z.cells).toArray:=conc_cells z
 split at h
 ·rename_i fields
  simp only [bind_ok,pure_ok] at h
  obtain ⟨ps,hps,cs,hcs,rfl⟩:=h
  have h1:=run_structPlaces F w _ _ hps
  have h2:=run_fill (ι:=ι) _ _ _ hcs
  have hm:(fields.mapM (m:=Sem) fun f=>do pure (f.offset,← sizeOf f.type))=Functor.map List.toArray (fields.toList.mapM fun f=>do pure (f.offset,← sizeOf f.type)):=by
   rw [Array.mapM_eq_mapM_toList]
  simp only [Sem.run_bind]
  rw [hm]
  simp only [Sem.run_map,h1,Result.andThen_ok,e1]
  have h3:(fun x:Nat=>ps.toArray[x]?)=fun i=>ps[i]? :=by funext i;simp
  rw [h3,h2]
  simp [conc]
 ·rename_i n elem
  simp only [bind_ok,pure_ok] at h
  obtain ⟨s,hs,cs,hcs,rfl⟩:=h
  have h2:=run_fill (ι:=ι) _ _ _ hcs
  simp only [Sem.run_bind,run_size F w hs,Result.andThen_ok,e1]
  rw [h2]
  simp [conc]
 ·simp at h
end
end Go.Dt
namespace Go.Dt
section
variable {D:Tab} {P:Program} (F:Fits D P) {ι:Nat→Loc} {A:Nat→Prop} (w:World)
theorem run_asI{x:AV}{k:IntKind}{i:Int}(h:asI x= .ok (k,i)):conc ι x= .int k i:=by
 unfold asI at h
 split at h<;>simp at h
 simp [conc,h]
theorem run_bound{x:AV}{y n:Nat}{code:BoundsCode}(h:bound x y= .ok n):
  (Instr.sliceBound (conc ι x) y code).run P w= .ok n w∧n≤y:=by
 simp only [bound,bind_ok] at h
 obtain ⟨⟨k,i⟩,hi,h⟩:=h
 split at h
 ·rename_i hc
  simp at h
  simp only [Instr.sliceBound,run_asI (ι:=ι) hi,asIntOf,Sem.run_bind,Sem.run_pure,Result.andThen_ok,Sem.run_ite]
  rw [if_pos hc]
  exact ⟨by simp [h],by omega⟩
 ·simp at h
theorem boundO_le{x:Option AV}{y d n:Nat}(h:boundO x y d= .ok n)(hd:d≤y):n≤y:=by
 cases x with
 | none=>simp [boundO] at h;omega
 | some v=>exact (run_bound (P:=default) (ι:=fun _=>default) (code:= .index) default h).2
theorem run_sliceBounds{b:Bool}{len cap m h l:Nat}{lo hi mx:Option AV}
  (hmx:(mx.isSome && hi.isNone)=false)
  (h1:boundO mx cap cap= .ok m) (h2:boundO hi m len= .ok h) (h3:boundO lo h 0= .ok l):
  (Instr.sliceBounds b len cap (lo.map (conc ι)) (hi.map (conc ι)) (mx.map (conc ι))).run P w= .ok (l,h,m) w:=by
 cases mx with
 | none=>
  simp [boundO] at h1;subst h1
  cases hi with
  | none=>
   simp [boundO] at h2;subst h2
   cases lo with
   | none=>simp [boundO] at h3;subst h3;simp [Instr.sliceBounds]
   | some lv=>simp only [boundO] at h3;simp [Instr.sliceBounds,(run_bound (ι:=ι) w h3).1]
  | some hv=>
   simp only [boundO] at h2
   cases lo with
   | none=>simp [boundO] at h3;subst h3;simp [Instr.sliceBounds,(run_bound (ι:=ι) w h2).1]
   | some lv=>simp only [boundO] at h3;simp [Instr.sliceBounds,(run_bound (ι:=ι) w h2).1,(run_bound (ι:=ι) w h3).1]
 | some mv=>
  simp only [boundO] at h1
  cases hi with
  | none=>simp at hmx
  | some hv=>
   simp only [boundO] at h2
   cases lo with
   | none=>simp [boundO] at h3;subst h3;simp [Instr.sliceBounds,(run_bound (ι:=ι) w h1).1,(run_bound (ι:=ι) w h2).1]
   | some lv=>simp only [boundO] at h3;simp [Instr.sliceBounds,(run_bound (ι:=ι) w h1).1,(run_bound (ι:=ι) w h2).1,(run_bound (ι:=ι) w h3).1]
theorem run_sliceBounds_open{b:Bool}{len cap h l:Nat}{lo hi:Option AV}(hc:len≤cap)
  (h2:boundO hi len len= .ok h) (h3:boundO lo h 0= .ok l):
  (Instr.sliceBounds b len cap (lo.map (conc ι)) (hi.map (conc ι)) none).run P w= .ok (l,h,cap) w:=by
 have h2':boundO hi cap len= .ok h:=by
  cases hi with
  | none=>simpa [boundO] using h2
  | some v=>
   simp only [boundO,bound,bind_ok] at h2 ⊢
   obtain ⟨⟨k,i⟩,hi,h2⟩:=h2
   refine ⟨(k,i),hi,?_⟩
   split at h2
   ·rename_i hcond
    rw [if_pos (by omega)];exact h2
   ·simp at h2
 exact run_sliceBounds (mx:=none) w (by simp) (by simp [boundO]) h2' h3
theorem run_sliceBounds_open3{b:Bool}{len cap m h l:Nat}{lo hi:Option AV}{mv:AV}(hc:len≤cap)(hhi:hi.isNone=false)
  (h1:bound mv len= .ok m) (h2:boundO hi m len= .ok h) (h3:boundO lo h 0= .ok l):
  (Instr.sliceBounds b len cap (lo.map (conc ι)) (hi.map (conc ι)) (some (conc ι mv))).run P w= .ok (l,h,m) w:=by
 have h1':boundO (some mv) cap cap= .ok m:=by
  simp only [boundO,bound,bind_ok] at h1 ⊢
  obtain ⟨⟨k,i⟩,hi,h1⟩:=h1
  refine ⟨(k,i),hi,?_⟩
  split at h1
  ·rw [if_pos (by omega)];exact h1
  ·simp at h1
 exact run_sliceBounds (mx:=some mv) w (by simp [hhi]) h1' h2 h3
theorem at_add(L:Loc)(o n:Nat):(L.at o).add n=L.at (o+n):=by
 unfold Addr.add Loc.at
 split
 ·rename_i h;simp [h]
 ·simp [Nat.add_assoc]
theorem extract_bytes(s:List UInt8)(l h:Nat):(⟨⟨s⟩⟩:ByteArray).extract l h=⟨⟨(s.drop l).take (h - l)⟩⟩:=by
 apply ByteArray.ext
 simp [ByteArray.data_extract,List.extract_eq_take_drop]
include F
theorem run_sliceV{t:Nat}{x v:AV}{lo hi mx:Option AV}(h:sliceV D t x lo hi mx= .ok v)(hx:ids ι A x):
  (Instr.sliceAt t (conc ι x) (lo.map (conc ι)) (hi.map (conc ι)) (mx.map (conc ι))).run P w= .ok (conc ι v) w∧ids ι A v:=by
 simp only [sliceV,bind_ok] at h
 obtain ⟨d,hd,h⟩:=h
 split at h
 ·
  rename_i s
  split at h
  ·simp at h
  ·rename_i hmx
   have hmx':mx=none:=by cases mx<;>simp_all
   subst hmx'
   simp only [bind_ok,pure_ok] at h
   obtain ⟨hh,h2,l,h3,rfl⟩:=h
   have hb:=run_sliceBounds (ι:=ι) (P:=P) (b:=false) (mx:=none) (cap:=s.length) w (by simp) (by simp [boundO]) h2 h3
   refine ⟨?_,by simp [str,ids]⟩
   have e:(⟨⟨s⟩⟩:ByteArray).size=s.length:=rfl
   simp only [Instr.sliceAt,Sem.run_bind,run_und F w hd,Result.andThen_ok,Instr.slice,conc,e]
   simp only [Option.map_none] at hb ⊢
   simp [hb,str,conc,extract_bytes]
 ·
  rename_i elem len cap
  split at h
  ·simp at h
  ·rename_i hmx
   simp only [bind_ok,pure_ok] at h
   obtain ⟨sz,hs,m,h1,hh,h2,l,h3,rfl⟩:=h
   have hb:=run_sliceBounds (ι:=ι) (P:=P) (b:=true) w (Bool.eq_false_iff.2 hmx) h1 h2 h3
   refine ⟨?_,by simp [ids]⟩
   simp only [Instr.sliceAt,Sem.run_bind,run_und F w hd,Result.andThen_ok,Instr.slice,conc,hb,run_size F w hs]
   simp
 ·
  rename_i elem b o len cap sz
  split at h
  ·simp at h
  ·rename_i hmx
   simp only [bind_ok] at h
   obtain ⟨m,h1,hh,h2,l,h3,s,hs,h⟩:=h
   split at h
   ·rename_i hsz
    simp at h;subst h
    have hb:=run_sliceBounds (ι:=ι) (P:=P) (b:=true) w (Bool.eq_false_iff.2 hmx) h1 h2 h3
    refine ⟨?_,by simpa [ids] using hx⟩
    simp only [Instr.sliceAt,Sem.run_bind,run_und F w hd,Result.andThen_ok,Instr.slice,conc,hb,run_size F w hs,Sem.run_pure]
    split
    ·rfl
    ·simp [at_add]
   ·simp at h
 ·
  rename_i elem b o len sz
  simp only [bind_ok] at h
  obtain ⟨s,hs,h⟩:=h
  split at h
  ·rename_i hsz
   obtain ⟨rfl,hpos⟩:=hsz
   obtain ⟨hA,hL,_,hfit⟩:=hx
   have hlen:len≤(ι b).capz - o / (ι b).sz:=by rw [hL];omega
   split at h
   ·rename_i mv
    split at h
    ·simp at h
    ·rename_i hhi
     simp only [bind_ok,pure_ok] at h
     obtain ⟨m,h1,hh,h2,l,h3,rfl⟩:=h
     have hb:=run_sliceBounds_open3 (ι:=ι) (P:=P) (b:=true) w hlen (Bool.eq_false_iff.2 hhi) h1 h2 h3
     refine ⟨?_,by simpa [ids] using hA⟩
     simp only [Option.map_some,Instr.sliceAt,Sem.run_bind,run_und F w hd,Result.andThen_ok,Instr.slice,conc,hb,run_size F w hs,Sem.run_pure]
     split
     ·rfl
     ·simp [at_add]
   ·simp only [bind_ok] at h
    obtain ⟨hh,h2,l,h3,h⟩:=h
    have hb:=run_sliceBounds_open (ι:=ι) (P:=P) (b:=true) w hlen h2 h3
    have hle:=boundO_le h2 (Nat.le_refl _)
    have hle':=boundO_le h3 (Nat.zero_le _)
    simp only [Option.map_none,Instr.sliceAt,Sem.run_bind,run_und F w hd,Result.andThen_ok,Instr.slice,conc,hb,run_size F w hs,Sem.run_pure]
    have hdiv:(o+l*s) / s=o / s+l:=by rw [Nat.add_mul_div_right _ _ hpos]
    split at h
    ·rename_i hl0
     simp at h;subst h;subst hl0
     refine ⟨?_,⟨hA,hL,hpos,by omega⟩⟩
     simp only [conc,Nat.zero_mul]
     split
     ·rename_i h0;simp [h0]
     ·simp [at_add]
    ·split at h
     ·rename_i hl0 hl1
      simp at h;subst h
      refine ⟨?_,⟨hA,hL,hpos,by rw [hdiv];omega⟩⟩
      simp only [conc]
      rw [if_neg (by omega)]
      simp [at_add,hL,hdiv,Nat.sub_sub]
     ·rename_i hl0 hl1
      simp at h;subst h
      have:l=len:=by omega
      have:hh=len:=by omega
      subst_vars
      refine ⟨?_,⟨hA,rfl,hpos,by omega⟩⟩
      simp only [conc,Nat.sub_self]
      split
      ·rename_i hz;simp [hz]
      ·simp [at_add]
  ·simp at h
 ·
  rename_i n elem b o
  split at h
  ·simp at h
  ·rename_i hmx
   simp only [bind_ok,pure_ok] at h
   obtain ⟨m,h1,hh,h2,l,h3,s,hs,rfl⟩:=h
   have hb:=run_sliceBounds (ι:=ι) (P:=P) (b:=false) w (Bool.eq_false_iff.2 hmx) h1 h2 h3
   refine ⟨?_,by simpa [ids] using hx⟩
   simp only [Instr.sliceAt,Sem.run_bind,run_und F w hd,Result.andThen_ok,conc,Instr.sureAddr,hb,run_size F w hs,Sem.run_pure]
   split
   ·rfl
   ·simp [at_add]
 ·simp at h
theorem run_indexAddr{t:Nat}{x ix v:AV}(h:indexAddr D t x ix= .ok v)(hx:ids ι A x):
  (Instr.indexAt t (conc ι x) (conc ι ix)).run P w= .ok (conc ι v) w∧ids ι A v:=by
 simp only [indexAddr,bind_ok] at h
 obtain ⟨⟨k,i⟩,hi,d,hd,h⟩:=h
 split at h
 ·rename_i len elem b o
  simp only [bind_ok] at h
  obtain ⟨s,hs,h⟩:=h
  split at h
  ·rename_i hc
   simp at h;subst h
   refine ⟨?_,by simpa [ids] using hx⟩
   simp [Instr.indexAt,run_asI (ι:=ι) hi,asIntOf,run_und F w hd,conc,Instr.sureAddr,hc,run_size F w hs,at_add]
  ·simp at h
 ·rename_i elem b o len cap sz
  simp only [bind_ok] at h
  obtain ⟨s,hs,h⟩:=h
  split at h
  ·rename_i hc
   simp at h;subst h
   obtain ⟨c,hcc⟩:=conc_slice ι b o len cap sz
   refine ⟨?_,by cases cap<;>simp [ids] at hx ⊢ <;>first | exact hx | exact hx.1⟩
   simp [Instr.indexAt,run_asI (ι:=ι) hi,asIntOf,run_und F w hd,hcc,hc,run_size F w hs,at_add,conc]
  ·simp at h
 ·simp at h
theorem run_indexV{t:Nat}{x ix v:AV}(h:indexV D t x ix= .ok v)(hx:ids ι A x):
  (Instr.index t (conc ι x) (conc ι ix)).run P w= .ok (conc ι v) w∧ids ι A v:=by
 simp only [indexV,bind_ok] at h
 obtain ⟨⟨k,i⟩,hi,d,hd,h⟩:=h
 split at h
 ·rename_i len elem cs
  simp only [bind_ok] at h
  obtain ⟨s,hs,h⟩:=h
  split at h
  ·rename_i hc
   refine ⟨?_,part_ids h (by simpa [ids] using hx)⟩
   simp [Instr.index,run_asI (ι:=ι) hi,asIntOf,run_und F w hd,conc,hc,run_size F w hs,run_part F (ι:=ι) w h]
  ·simp at h
 ·rename_i s
  split at h
  ·rename_i hc
   split at h
   ·rename_i b hb
    simp at h;subst h
    refine ⟨?_,by simp [intV,ids]⟩
    have hlt:i.toNat<s.length:=(List.getElem?_eq_some_iff.1 hb).1
    have e:(⟨⟨s⟩⟩:ByteArray)[i.toNat]? =some b:=by
     rw [getElem?_pos _ _ (by exact hlt)]
     exact congrArg some (List.getElem?_eq_some_iff.1 hb).2
    simp [Instr.index,run_asI (ι:=ι) hi,asIntOf,run_und F w hd,conc,hc,e,intV]
   ·simp at h
  ·simp at h
 ·simp at h
omit F in
theorem fieldOf_ok{t f:Nat}{fd:Field}(h:fieldOf D t f= .ok fd):∃fields,und D t= .ok (.struct fields)∧fields[f]? =some fd:=by
 simp only [fieldOf,bind_ok] at h
 obtain ⟨d,hd,h⟩:=h
 split at h
 ·rename_i fields
  split at h
  ·rename_i g hg
   simp at h;subst h
   exact ⟨fields,hd,by simpa using hg⟩
  ·simp at h
 ·simp at h
theorem run_fieldAddr{t f:Nat}{x v:AV}(h:fieldAddr D t x f= .ok v)(hx:ids ι A x):
  (Instr.fieldAt t (conc ι x) f).run P w= .ok (conc ι v) w∧ids ι A v:=by
 simp only [fieldAddr,bind_ok] at h
 obtain ⟨fd,hf,s,hs,h⟩:=h
 obtain ⟨fields,hu,hg⟩:=fieldOf_ok hf
 split at h
 ·split at h
  ·simp at h
  ·rename_i b o hs0
   simp at h;subst h
   refine ⟨?_,by simpa [ids] using hx⟩
   simp [Instr.fieldAt,run_und F w hu,hg,conc,Instr.sureAddr,fieldPlace,run_size F w hs,hs0,at_add]
 ·simp at h
theorem run_fieldV{t f:Nat}{x v:AV}(h:fieldV D t x f= .ok v)(hx:ids ι A x):
  (Instr.field t (conc ι x) f).run P w= .ok (conc ι v) w∧ids ι A v:=by
 simp only [fieldV,bind_ok] at h
 obtain ⟨fd,hf,h⟩:=h
 obtain ⟨fields,hu,hg⟩:=fieldOf_ok hf
 split at h
 ·refine ⟨?_,part_ids h (by simpa [ids] using hx)⟩
  simp [Instr.field,run_und F w hu,hg,conc,asAgg,run_part F (ι:=ι) w h]
 ·simp at h
theorem run_typeAssert{x v:AV}{t xt:Nat}{ok:Bool}(h:typeAssert D x t ok= .ok v)(hx:ids ι A x):
  (Instr.typeAssert (conc ι x) xt t ok).run P w= .ok (conc ι v) w∧ids ι A v:=by
 simp only [typeAssert,bind_ok] at h
 obtain ⟨d,hd,h⟩:=h
 split at h
 ·simp at h
 ·rename_i hni
  have hni':∀ms,d≠ .interface ms:=by rintro ms rfl;simp [isIfaceD] at hni
  split at h
  ·rename_i u y
   split at h
   ·rename_i hu
    subst hu
    simp at h;subst h
    refine ⟨?_,by cases ok<;>simp [ids,idsL,boolV]<;>simpa [ids] using hx⟩
    simp only [Instr.typeAssert,Sem.run_bind,run_und F w hd,Result.andThen_ok,conc]
    cases d<;>simp_all<;>cases ok<;>simp [conc,concL,boolV]
   ·rename_i hu
    split at h
    ·rename_i hok
     simp only [bind_ok,pure_ok] at h
     obtain ⟨z,hz,rfl⟩:=h
     refine ⟨?_,by simp [ids,idsL,boolV,zero_ids hz]⟩
     simp only [Instr.typeAssert,Sem.run_bind,run_und F w hd,Result.andThen_ok,conc]
     have e:¬u=t:=hu
     cases d<;>simp_all [run_zero F (ι:=ι) w hz,conc,concL,boolV]
    ·simp at h
  ·split at h
   ·rename_i hok
    simp only [bind_ok,pure_ok] at h
    obtain ⟨z,hz,rfl⟩:=h
    refine ⟨?_,by simp [ids,idsL,boolV,zero_ids hz]⟩
    simp only [Instr.typeAssert,Sem.run_bind,run_und F w hd,Result.andThen_ok,conc]
    cases d<;>simp_all [run_zero F (ι:=ι) w hz,conc,concL,boolV]
   ·simp at h
  ·simp at h
omit F in
theorem run_minMax{mx:Bool}:∀(l:List AV) (x v:AV),minMax mx x l= .ok v→
  ((concL ι l).foldlM (if mx then Builtin.max2 else Builtin.min2) (conc ι x)).run P w= .ok (conc ι v) w∧(ids ι A x→ids ι A v):=by
 intro l
 induction l with
 | nil=>intro x v h;simp [minMax] at h;subst h;simp [concL]
 | cons y l ih=>
  intro x v h
  unfold minMax at h
  split at h
  ·simp_all
  ·rename_i k a k' b l' heq
   simp at heq
   obtain ⟨rfl,rfl⟩:=heq
   obtain ⟨h1,h2⟩:=ih _ _ h
   refine ⟨?_,fun _=>h2 (by simp [intV,ids])⟩
   simp only [concL,List.foldlM_cons,Sem.run_bind,conc]
   cases mx with
   | true=>simpa [Builtin.max2,intV,conc] using h1
   | false=>simpa [Builtin.min2,intV,conc] using h1
  ·simp at h
theorem run_lenV{t:Nat}{x v:AV}{ts:Array TypeId}{ty:TypeId}(h:lenV D t x= .ok v)(ht:ts[0]? =some t):
  (Builtin.len_ ts ty #[conc ι x]).run P w= .ok (conc ι v) w∧ids ι A v:=by
 simp only [lenV,bind_ok] at h
 obtain ⟨d,hd,h⟩:=h
 split at h
 ·simp at h;subst h
  refine ⟨?_,by simp [goI,ids]⟩
  rename_i l
  have e:(⟨⟨l⟩⟩:ByteArray).size=l.length:=rfl
  simp only [Builtin.len_,ht,conc,goI,goInt]
  simp [run_und F w hd,e]
 ·simp at h;subst h
  refine ⟨?_,by simp [goI,ids]⟩
  simp [Builtin.len_,ht,run_und F w hd,conc,goI,goInt]
 ·rename_i b o n cap sz
  simp at h;subst h
  refine ⟨?_,by simp [goI,ids]⟩
  obtain ⟨c,hc⟩:=conc_slice ι b o n cap sz
  simp [Builtin.len_,ht,run_und F w hd,hc,goI,goInt]
  simp [conc]
 ·rename_i b o l sz
  simp at h;subst h
  refine ⟨?_,by simp [goI,ids]⟩
  obtain ⟨a,c,hc⟩:=conc_sliceZ ι b o l sz
  simp [Builtin.len_,ht,run_und F w hd,hc,goI,goInt]
  simp [conc]
 ·simp at h;subst h
  refine ⟨?_,by simp [goI,ids]⟩
  simp [Builtin.len_,ht,run_und F w hd,conc,goI,goInt]
 ·simp at h
theorem run_capV{t:Nat}{x v:AV}{ts:Array TypeId}{ty:TypeId}(h:capV D t x= .ok v)(ht:ts[0]? =some t):
  (Builtin.cap_ ts ty #[conc ι x]).run P w= .ok (conc ι v) w∧ids ι A v:=by
 simp only [capV,bind_ok] at h
 obtain ⟨d,hd,h⟩:=h
 split at h
 ·simp at h;subst h
  refine ⟨?_,by simp [goI,ids]⟩
  simp [Builtin.cap_,ht,run_und F w hd,conc,goI,goInt]
 ·rename_i b o n c sz
  simp at h;subst h
  refine ⟨?_,by simp [goI,ids]⟩
  simp [Builtin.cap_,ht,run_und F w hd,conc,goI,goInt]
 ·simp at h;subst h
  refine ⟨?_,by simp [goI,ids]⟩
  simp [Builtin.cap_,ht,run_und F w hd,conc,goI,goInt]
 ·simp at h
end
end Go.Dt
namespace Go.Dt
section
variable {D:Tab} {P:Program} (F:Fits D P) {ι:Nat→Loc} {A:Nat→Prop} (w:World)
theorem map_concL(ι:Nat→Loc)(e:Operand→AV)(l:List Operand):l.map (fun x=>conc ι (e x))=concL ι (l.map e):=by
 simp [concL_eq]
theorem arr_map(ι:Nat→Loc)(e:Operand→AV)(l:Array Operand):l.map (fun x=>conc ι (e x))=(concL ι (l.toList.map e)).toArray:=by
 rw [← map_concL]
 apply Array.ext'
 simp
theorem eqOp_ids{op:BinOp}{t:TypeId}{x y v:AV}(h:eqOp D op t x y= .ok v):ids ι A v:=by
 unfold eqOp at h
 split at h
 ·simp only [bind_ok,pure_ok] at h
  obtain ⟨b,hb,rfl⟩:=h
  simp [boolV,ids]
 ·simp only [bind_ok,pure_ok] at h
  obtain ⟨b,hb,rfl⟩:=h
  simp [boolV,ids]
 ·simp at h
theorem binOp_ids{op:BinOp}{t:TypeId}{x y v:AV}{c:Bool}(h:binOp D op t x y c= .ok v):ids ι A v:=by
 unfold binOp at h
 split at h
 ·unfold intOp at h
  split at h<;>(try split at h)<;>(try split at h)<;>(try split at h)<;>simp at h<;>subst h<;>simp [intV,boolV,ids]
 ·unfold strOp at h
  split at h<;>(try split at h)<;>simp at h<;>subst h<;>simp [str,boolV,ids]
 ·split at h
  ·exact eqOp_ids h
  ·simp at h
 ·split at h
  ·exact eqOp_ids h
  ·simp at h
 all_goals first
  | exact eqOp_ids h
  | (simp at h;done)
include F
theorem pureOp_run{e:Operand→AV}{o:Oper}{v:AV}(h:pureOp D e o.op= .ok v)(hid:∀x,x∈o.op.operands→ids ι A (e x)):
  (Go.execOp (fun x=>conc ι (e x)) o).run P w= .ok (.value (conc ι v)) w∧ids ι A v:=by
 unfold Go.execOp
 generalize o.op=op at h hid
 unfold pureOp at h
 split at h
 ·simp at h;subst h;exact ⟨by simp,hid _ (by simp [Op.operands])⟩
 ·simp at h;subst h;exact ⟨by simp,hid _ (by simp [Op.operands])⟩
 ·rename_i c a b
  simp only [bind_ok,pure_ok] at h
  obtain ⟨t,ht,rfl⟩:=h
  have hc:conc ι (e c)= .bool t:=by
   unfold asB at ht
   split at ht
   ·rename_i hh
    simp at ht
    simp [hh,conc,ht]
   ·simp at ht
  have ha:=hid a (by simp [Op.operands])
  have hb:=hid b (by simp [Op.operands])
  cases t<;>simp [hc,asBool,ha,hb]
 ·rename_i t parts
  have:=run_build F (ι:=ι) w h
  have e1:(parts.map fun p=>(p.1,conc ι (e p.2)))=((parts.toList.map fun p=>(p.1,e p.2)).map fun p=>(p.1,conc ι p.2)).toArray:=by
   apply Array.ext';simp
  refine ⟨?_,?_⟩
  ·show (do let v ← Instr.build t (parts.map fun p=>(p.1,conc ι (e p.2)));pure (Next.value v):Sem Next).run P w=_
   simp only [Sem.run_bind,e1,this,Result.andThen_ok,Sem.run_pure]
  ·simp only [build,bind_ok] at h
   obtain ⟨z,hz,d,hd,h⟩:=h
   have hp:∀p,p∈(parts.toList.map fun p=>(p.1,e p.2))→ids ι A p.2:=by
    intro p hp
    simp only [List.mem_map] at hp
    obtain ⟨q,hq,rfl⟩:=hp
    refine hid q.2 ?_
    simp only [Op.operands,List.mem_toArray,List.mem_map]
    exact ⟨q,hq,rfl⟩
   split at h
   ·simp only [bind_ok,pure_ok] at h
    obtain ⟨ps,hps,cs,hcs,rfl⟩:=h
    exact fill_ids _ _ _ hcs (ids_cells (zero_ids hz A)) hp
   ·simp only [bind_ok,pure_ok] at h
    obtain ⟨ps,hps,cs,hcs,rfl⟩:=h
    exact fill_ids _ _ _ hcs (ids_cells (zero_ids hz A)) hp
   ·simp at h
 ·rename_i x
  have hx:=hid x (by simp [Op.operands])
  split at h<;>simp at h<;>subst h<;>rename_i heq<;>rw [heq] at hx<;>exact ⟨by simp [heq,conc],hx⟩
 ·rename_i op t x y yt
  have:=run_binOp F (ι:=ι) w (ox:=x) (oy:=y) h
  refine ⟨?_,?_⟩
  ·simp only [Sem.run_bind] at this ⊢
   rw [this];simp
  ·exact binOp_ids h
 ·rename_i op t x
  refine ⟨by simp [run_unOp (ι:=ι) w h],?_⟩
  unfold unOp at h
  split at h<;>simp at h<;>subst h<;>simp [intV,boolV,ids]
 ·rename_i s d x
  refine ⟨by simp [run_convertV F (ι:=ι) w h],?_⟩
  simp only [convertV,bind_ok] at h
  obtain ⟨a,ha,b,hb,h⟩:=h
  split at h<;>simp at h<;>subst h<;>simp [intV,str,ids]
 ·rename_i t x
  simp only [bind_ok] at h
  obtain ⟨d,hd,h⟩:=h
  split at h
  ·simp at h
  ·rename_i hni
   simp at h;subst h
   refine ⟨?_,by simpa [ids] using hid x (by simp [Op.operands])⟩
   simp only [Instr.makeInterface,Sem.run_bind,run_und F w hd,Result.andThen_ok]
   cases d<;>simp_all [isIfaceD,conc]
 ·rename_i fn first captured
  simp at h;subst h
  refine ⟨by simp [Instr.makeFunc,conc,arr_map],?_⟩
  simp only [ids]
  refine ⟨idsL_iff.2 fun v hv=> ?_,idsL_iff.2 fun v hv=> ?_⟩
  ·simp only [List.mem_map] at hv
   obtain ⟨x,hx,rfl⟩:=hv
   exact hid x (by simp [Op.operands,Array.mem_toList_iff.1 hx])
  ·simp only [List.mem_map] at hv
   obtain ⟨x,hx,rfl⟩:=hv
   exact hid x (by simp [Op.operands,Array.mem_toList_iff.1 hx])
 ·rename_i t x lo hi mx
  have:=run_sliceV F (A:=A) (ι:=ι) w h (hid x (by simp [Op.operands]))
  have em:∀(a:Option Operand),(a.map e).map (conc ι)=a.map fun x=>conc ι (e x):=by intro a;cases a<;>rfl
  simp only [em] at this
  exact ⟨by simp [this.1],this.2⟩
 ·rename_i t x f
  have:=run_fieldAddr F (A:=A) (ι:=ι) w h (hid x (by simp [Op.operands]))
  exact ⟨by simp [this.1],this.2⟩
 ·rename_i t x f
  have:=run_fieldV F (A:=A) (ι:=ι) w h (hid x (by simp [Op.operands]))
  exact ⟨by simp [this.1],this.2⟩
 ·rename_i t x ix
  have:=run_indexAddr F (A:=A) (ι:=ι) w h (hid x (by simp [Op.operands]))
  exact ⟨by simp [this.1],this.2⟩
 ·rename_i t x ix
  have:=run_indexV F (A:=A) (ι:=ι) w h (hid x (by simp [Op.operands]))
  exact ⟨by simp [this.1],this.2⟩
 ·rename_i x xt t ok
  have:=run_typeAssert F (A:=A) (ι:=ι) (xt:=xt) w h (hid x (by simp [Op.operands]))
  exact ⟨by simp [this.1],this.2⟩
 ·rename_i t ix
  have hx:=hid t (by simp [Op.operands])
  split at h
  ·rename_i vs heq
   rw [heq] at hx
   split at h
   ·rename_i y hy
    simp at h;subst h
    refine ⟨by simp [Instr.extract,heq,conc,hy],idsL_get (by simpa [ids] using hx) hy⟩
   ·simp at h
  ·simp at h
 ·rename_i b args argTypes
  split at h
  ·rename_i t ts x hts hxs
   have ht:argTypes[0]? =some t:=by rw [← Array.getElem?_toList,hts];rfl
   have hargs:args= #[x]:=by apply Array.ext';simpa using hxs
   subst hargs
   have:=run_lenV F (A:=A) (ι:=ι) (ty:=o.type) w h ht
   refine ⟨?_,this.2⟩
   simp [resolve,invoke,Go.builtin,this.1]
  ·rename_i t ts x hts hxs
   have ht:argTypes[0]? =some t:=by rw [← Array.getElem?_toList,hts];rfl
   have hargs:args= #[x]:=by apply Array.ext';simpa using hxs
   subst hargs
   have:=run_capV F (A:=A) (ι:=ι) (ty:=o.type) w h ht
   refine ⟨?_,this.2⟩
   simp [resolve,invoke,Go.builtin,this.1]
  ·rename_i x l hxs
   have hargs:args=(x::l).toArray:=by apply Array.ext';simpa using hxs
   subst hargs
   have:=run_minMax (P:=P) (A:=A) (ι:=ι) w _ _ _ h
   refine ⟨?_,this.2 (hid x (by simp [Op.operands,Call.operands]))⟩
   have h1:=this.1
   rw [← map_concL] at h1
   simp only [Bool.false_eq_true,if_false] at h1
   simp [resolve,invoke,Go.builtin,Builtin.min_,h1]
  ·rename_i x l hxs
   have hargs:args=(x::l).toArray:=by apply Array.ext';simpa using hxs
   subst hargs
   have:=run_minMax (P:=P) (A:=A) (ι:=ι) w _ _ _ h
   refine ⟨?_,this.2 (hid x (by simp [Op.operands,Call.operands]))⟩
   have h1:=this.1
   rw [← map_concL] at h1
   simp only [if_true] at h1
   simp [resolve,invoke,Go.builtin,Builtin.max_,h1]
  ·simp at h
 ·simp at h
end
end Go.Dt
namespace Go.Dt
def concDef(ι:Nat→Loc):ADef→Deferred
 | .fn fn cap args=> {target:= .fn fn (concL ι cap).toArray,args:=(concL ι args).toArray}
 | .collected r=> {target:= .collected (ι r).block,args:= #[]}
def idsDef(ι:Nat→Loc)(A:Nat→Prop):ADef→Prop
 | .fn _ cap args=>idsL ι A cap∧idsL ι A args
 | .collected r=>A r
def concEntry(ι:Nat→Loc)(e:AV×AV×Nat):MapEntry:= {key:=conc ι e.1,val:=conc ι e.2.1,born:=e.2.2}
def concLoop(ι:Nat→Loc)(l:ALoop):Loop:=
 {state:=l.state,pending:=l.pending,fn:=l.fn,tmps:=(concL ι l.T).toArray,params:=l.params.toArray,assign:=l.assign,body:=l.body,defers:=(ι l.defers).block}
def AO.isMut:AO→Bool
 | .cells _ _ own _=>own
 | .gone=>false
 | _=>true
def ORep(ι:Nat→Loc)(A:Nat→Prop)(o:AO)(L:Loc)(w:World):Prop:=
 match o with
 | .cells cs elem own sz=>idsL ι A cs∧L.sz=sz∧∃arr fz,w.heap[L.block]? =some (.cells arr elem fz)∧
   (∀i v,cs[i]? =some v→arr[L.shift+i]? =some (conc ι v))∧(own=true→fz=(0,0)∧L.shift+L.capz*sz≤arr.size∧sz ∣ L.shift)
 | .map es clock=>L.shift=0∧w.heap[L.block]? =some (.map (es.map (concEntry ι)).toArray clock)∧∀e,e∈es→ids ι A e.1∧ids ι A e.2.1
 | .striter s pos=>L.shift=0∧w.heap[L.block]? =some (.stringIter ⟨⟨s⟩⟩ pos)
 | .mapiter m since seen stepped=>L.shift=0∧w.heap[L.block]? =some (.mapIter (m.map fun b=>(ι b).block) since seen.toArray stepped)∧∀b,m=some b→A b
 | .loop l=>L.shift=0∧w.heap[L.block]? =some (.loop (concLoop ι l))∧idsL ι A l.T∧A l.defers
 | .deferred calls=>L.shift=0∧w.heap[L.block]? =some (.deferred (calls.map fun l=>l.map (concDef ι)))∧∀l,calls=some l→∀d,d∈l→idsDef ι A d
 | .gone=>True
theorem concDef_agree{ι ι':Nat→Loc}{A:Nat→Prop}(h:∀b,A b→ι' b=ι b)(d:ADef)(hd:idsDef ι A d):concDef ι' d=concDef ι d:=by
 cases d with
 | fn f c a=>simp [concDef,concL_agree h c hd.1,concL_agree h a hd.2]
 | collected r=>simp [concDef,h r hd]
theorem idsDef_mono{ι ι':Nat→Loc}{A B:Nat→Prop}(h:∀b,A b→B b∧ι' b=ι b)(d:ADef)(hd:idsDef ι A d):idsDef ι' B d:=by
 cases d with
 | fn f c a=>exact ⟨idsL_mono h c hd.1,idsL_mono h a hd.2⟩
 | collected r=>exact (h r hd).1
theorem ORep.congr{ι:Nat→Loc}{A:Nat→Prop}{o:AO}{L:Loc}{w w':World}(h:ORep ι A o L w)(hw:w'.heap[L.block]? =w.heap[L.block]?):ORep ι A o L w':=by
 cases o<;>simp only [ORep,hw] at h ⊢ <;>exact h
theorem ORep.mono{ι ι':Nat→Loc}{A B:Nat→Prop}{o:AO}{L:Loc}{w:World}(h:ORep ι A o L w)(k:∀b,A b→B b∧ι' b=ι b):ORep ι' B o L w:=by
 have k':∀b,A b→ι' b=ι b:=fun b hb=>(k b hb).2
 cases o with
 | cells cs elem own sz=>
  obtain ⟨h1,h2,arr,fz,h3,h4,h5⟩:=h
  refine ⟨idsL_mono k cs h1,h2,arr,fz,h3,fun i v hv=> ?_,h5⟩
  rw [conc_agree k' v (idsL_get h1 hv)]
  exact h4 i v hv
 | map es clock=>
  obtain ⟨h1,h2,h3⟩:=h
  refine ⟨h1,?_,fun e he=>⟨ids_mono k _ (h3 e he).1,ids_mono k _ (h3 e he).2⟩⟩
  rw [h2]
  have:es.map (concEntry ι')=es.map (concEntry ι):=by
   apply List.map_congr_left
   intro e he
   simp [concEntry,conc_agree k' _ (h3 e he).1,conc_agree k' _ (h3 e he).2]
  rw [this]
 | striter s pos=>exact h
 | mapiter m since seen stepped=>
  obtain ⟨h1,h2,h3⟩:=h
  refine ⟨h1,?_,fun b hb=>(k b (h3 b hb)).1⟩
  rw [h2]
  cases m with
  | none=>rfl
  | some b=>simp [k' b (h3 b rfl)]
 | loop l=>
  obtain ⟨h1,h2,h3,h4⟩:=h
  refine ⟨h1,?_,idsL_mono k _ h3,(k _ h4).1⟩
  rw [h2]
  simp [concLoop,concL_agree k' _ h3,k' _ h4]
 | deferred calls=>
  obtain ⟨h1,h2,h3⟩:=h
  refine ⟨h1,?_,fun l hl d hd=>idsDef_mono k d (h3 l hl d hd)⟩
  rw [h2]
  cases calls with
  | none=>rfl
  | some l=>
   have:l.map (concDef ι')=l.map (concDef ι):=List.map_congr_left fun d hd=>concDef_agree k' d (h3 l rfl d hd)
   simp [this]
 | gone=>trivial
theorem ORep.lt{ι:Nat→Loc}{A:Nat→Prop}{o:AO}{L:Loc}{w:World}(h:ORep ι A o L w)(ho:o≠ .gone):L.block<w.heap.size:=by
 have key:∀x,w.heap[L.block]? =some x→L.block<w.heap.size:=fun x hx=>(Array.getElem?_eq_some_iff.1 hx).1
 cases o with
 | cells cs elem own sz=>obtain ⟨_,_,arr,fz,h3,_⟩:=h;exact key _ h3
 | map es clock=>exact key _ h.2.1
 | striter s pos=>exact key _ h.2
 | mapiter m since seen stepped=>exact key _ h.2.1
 | loop l=>exact key _ h.2.1
 | deferred calls=>exact key _ h.2.1
 | gone=>exact (ho rfl).elim
structure Rep(D:Tab)(ι:Nat→Loc)(σ:St)(w:World):Prop where
 len:σ.l.length=σ.n
 glob:D.nglob≤σ.n
 gloc:∀g,g<D.nglob→(ι g).block=g∧(ι g).shift=0
 obj:∀b,b<σ.n→ORep ι (· <σ.n) (σ.getO b) (ι b) w
 sep:∀b b',b<σ.n→b'<σ.n→b≠b'→(σ.getO b).isMut=true→σ.getO b'≠ .gone→(ι b).block≠(ι b').block
 mem:∀m,σ.M.mem m→D.memo m
structure Ext(ι:Nat→Loc)(σ:St)(w:World)(ι':Nat→Loc)(σ':St)(w':World):Prop where
 os:w'.os=w.os
 tape:w'.tape=w.tape
 output:w'.output=w.output
 size:w.heap.size≤w'.heap.size
 n:σ.n≤σ'.n
 agree:∀b,b<σ.n→ι' b=ι b
 frame:∀r,r<w.heap.size→(∀b,b<σ.n→(σ.getO b).isMut=true→(ι b).block≠r)→w'.heap[r]? =w.heap[r]?
 own:∀b,b<σ'.n→σ'.getO b≠ .gone→w.heap.size≤(ι' b).block∨
  ∃b0,b0<σ.n∧σ.getO b0≠ .gone∧((σ'.getO b).isMut=true→(σ.getO b0).isMut=true)∧(ι b0).block=(ι' b).block
theorem AO.isMut_ne{o:AO}(h:o.isMut=true):o≠ .gone:=by intro e;rw [e] at h;simp [AO.isMut] at h
theorem Ext.ownM{ι ι':Nat→Loc}{σ σ':St}{w w':World}(h:Ext ι σ w ι' σ' w'):∀b,b<σ'.n→(σ'.getO b).isMut=true→
  w.heap.size≤(ι' b).block∨∃b0,b0<σ.n∧(σ.getO b0).isMut=true∧(ι b0).block=(ι' b).block:=fun b hb hm=>by
 rcases h.own b hb (AO.isMut_ne hm) with h1 | ⟨b0,h1,_,h3,h4⟩
 ·exact .inl h1
 ·exact .inr ⟨b0,h1,h3 hm,h4⟩
theorem Ext.refl(ι:Nat→Loc)(σ:St)(w:World):Ext ι σ w ι σ w:=
 ⟨rfl,rfl,rfl,Nat.le_refl _,Nat.le_refl _,fun _ _=>rfl,fun _ _ _=>rfl,fun b hb hm=> .inr ⟨b,hb,hm,id,rfl⟩⟩
theorem Ext.trans{ι ι' ι'':Nat→Loc}{σ σ' σ'':St}{w w' w'':World}(h:Ext ι σ w ι' σ' w')(k:Ext ι' σ' w' ι'' σ'' w''):Ext ι σ w ι'' σ'' w'' where
 os:=k.os.trans h.os
 tape:=k.tape.trans h.tape
 output:=k.output.trans h.output
 size:=Nat.le_trans h.size k.size
 n:=Nat.le_trans h.n k.n
 agree:=fun b hb=>(k.agree b (Nat.lt_of_lt_of_le hb h.n)).trans (h.agree b hb)
 frame:=fun r hr hno=>by
  rw [k.frame r (Nat.lt_of_lt_of_le hr h.size) fun b hb hm he=> ?_]
  ·exact h.frame r hr hno
  ·rcases h.ownM b hb hm with h1 | ⟨b0,h1,h2,h3⟩
   ·omega
   ·exact hno b0 h1 h2 (h3.trans he)
 own:=fun b hb hm=>by
  rcases k.own b hb hm with h1 | ⟨b0,h1,h2,h2',h3⟩
  ·exact .inl (Nat.le_trans h.size h1)
  ·rcases h.own b0 h1 h2 with h4 | ⟨b1,h4,h5,h5',h6⟩
   ·exact .inl (h3 ▸ h4)
   ·exact .inr ⟨b1,h4,h5,fun hm=>h5' (h2' hm),h6.trans h3⟩
theorem Ext.conc{ι ι':Nat→Loc}{σ σ':St}{w w':World}(h:Ext ι σ w ι' σ' w'){v:AV}(hv:ids ι (· <σ.n) v):conc ι' v=conc ι v:=
 conc_agree h.agree v hv
theorem Ext.concL{ι ι':Nat→Loc}{σ σ':St}{w w':World}(h:Ext ι σ w ι' σ' w'){v:List AV}(hv:idsL ι (· <σ.n) v):concL ι' v=concL ι v:=
 concL_agree h.agree v hv
theorem Ext.k{ι ι':Nat→Loc}{σ σ':St}{w w':World}(h:Ext ι σ w ι' σ' w'):∀b,b<σ.n→b<σ'.n∧ι' b=ι b:=
 fun b hb=>⟨Nat.lt_of_lt_of_le hb h.n,h.agree b hb⟩
theorem Ext.ids{ι ι':Nat→Loc}{σ σ':St}{w w':World}(h:Ext ι σ w ι' σ' w'){v:AV}(hv:ids ι (· <σ.n) v):ids ι' (· <σ'.n) v:=
 ids_mono h.k v hv
theorem Ext.idsL{ι ι':Nat→Loc}{σ σ':St}{w w':World}(h:Ext ι σ w ι' σ' w'){v:List AV}(hv:idsL ι (· <σ.n) v):idsL ι' (· <σ'.n) v:=
 idsL_mono h.k v hv
theorem getO_push_old{σ:St}{o:AO}{b:Nat}(hb:b<σ.n):(σ.push o).getO b=σ.getO b:=by
 show (if b<σ.n+1 then ((o::σ.l)[σ.n+1 - 1 - b]?).getD .gone else .gone)=(if b<σ.n then (σ.l[σ.n - 1 - b]?).getD .gone else .gone)
 rw [if_pos (by omega),if_pos hb]
 have:σ.n+1 - 1 - b=(σ.n - 1 - b)+1:=by omega
 rw [this];simp
theorem getO_push_new{σ:St}{o:AO}:(σ.push o).getO σ.n=o:=by
 show (if σ.n<σ.n+1 then ((o::σ.l)[σ.n+1 - 1 - σ.n]?).getD .gone else .gone)=o
 simp
theorem getO_set_same{σ:St}{o:AO}{b:Nat}(hl:σ.l.length=σ.n)(hb:b<σ.n):(σ.set b o).getO b=o:=by
 show (if b<σ.n then ((σ.l.set (σ.n - 1 - b) o)[σ.n - 1 - b]?).getD .gone else .gone)=o
 rw [if_pos hb,List.getElem?_set_self (by omega)]
 rfl
theorem getO_set_other{σ:St}{o:AO}{b b':Nat}(hb:b<σ.n)(hne:b≠b'):(σ.set b o).getO b'=σ.getO b':=by
 show (if b'<σ.n then ((σ.l.set (σ.n - 1 - b) o)[σ.n - 1 - b']?).getD .gone else .gone)=(if b'<σ.n then (σ.l[σ.n - 1 - b']?).getD .gone else .gone)
 by_cases h:b'<σ.n
 ·rw [if_pos h,if_pos h,List.getElem?_set_ne (by omega)]
 ·rw [if_neg h,if_neg h]
def upd(ι:Nat→Loc)(n:Nat)(L:Loc):Nat→Loc:=fun b=>if b=n then L else ι b
theorem upd_new(ι:Nat→Loc)(n:Nat)(L:Loc):upd ι n L n=L:=by simp [upd]
theorem upd_old{ι:Nat→Loc}{n b:Nat}{L:Loc}(h:b≠n):upd ι n L b=ι b:=by simp [upd,h]
section
variable {D:Tab} {ι:Nat→Loc} {σ:St} {w:World}
theorem Rep.of_heap{w':World}(h:Rep D ι σ w)(hw:w'.heap=w.heap):Rep D ι σ w':=
 ⟨h.len,h.glob,h.gloc,fun b hb=>(h.obj b hb).congr (by rw [hw]),h.sep,h.mem⟩
theorem Rep.drew(h:Rep D ι σ w):Rep D ι σ w.drew:=h.of_heap rfl
theorem Ext.drew(ι:Nat→Loc)(σ:St)(w:World):Ext ι σ w ι σ w.drew:=
 ⟨rfl,rfl,rfl,Nat.le_refl _,Nat.le_refl _,fun _ _=>rfl,fun _ _ _=>rfl,fun b hb hm=> .inr ⟨b,hb,hm,id,rfl⟩⟩
theorem kpush{n:Nat}{L:Loc}:∀b,b<n→b<n+1∧upd ι n L b=ι b:=fun b hb=>⟨by omega,upd_old (by omega)⟩
theorem Rep.push(h:Rep D ι σ w){o:AO}{ob:Obj}{L:Loc}(hL:L.block=w.heap.size)
  (ho:ORep (upd ι σ.n L) (· <σ.n+1) o L (w.alloc ob)):
  Rep D (upd ι σ.n L) (σ.push o) (w.alloc ob)∧Ext ι σ w (upd ι σ.n L) (σ.push o) (w.alloc ob):=by
 have hold:∀r,r<w.heap.size→(w.alloc ob).heap[r]? =w.heap[r]? :=fun r hr=>by
  show (w.heap.push ob)[r]? =_
  rw [Array.getElem?_push,if_neg (by omega)]
 have hobj:∀b,b<σ.n→ORep (upd ι σ.n L) (· <σ.n+1) (σ.getO b) (ι b) (w.alloc ob):=fun b hb=>by
  by_cases hg:σ.getO b= .gone
  ·rw [hg];trivial
  ·exact ((h.obj b hb).mono kpush).congr (hold _ ((h.obj b hb).lt hg))
 refine ⟨⟨by simp [St.push,h.len],Nat.le_succ_of_le h.glob,fun g hg=> ?_,fun b hb=> ?_,fun b b' hb hb' hne hm hg=> ?_,h.mem⟩,?_⟩
 ·rw [upd_old (by have:=h.glob;omega)];exact h.gloc g hg
 ·by_cases he:b=σ.n
  ·subst he;rw [getO_push_new,upd_new];exact ho
  ·have hb1:b<σ.n:=by simp only [St.push] at hb;omega
   rw [getO_push_old hb1,upd_old he]
   exact hobj b hb1
 ·simp only [St.push] at hb hb'
  by_cases he:b=σ.n
  ·subst he
   have hb1:b'<σ.n:=by omega
   rw [getO_push_old hb1] at hg
   rw [upd_new,upd_old (by omega),hL]
   have:=(h.obj b' hb1).lt hg
   omega
  ·have hb1:b<σ.n:=by omega
   rw [getO_push_old hb1] at hm
   have hg1:σ.getO b≠ .gone:=by intro e;rw [e] at hm;simp [AO.isMut] at hm
   have hlt:=(h.obj b hb1).lt hg1
   by_cases he':b'=σ.n
   ·subst he';rw [upd_new,upd_old he,hL];omega
   ·have hb2:b'<σ.n:=by omega
    rw [getO_push_old hb2] at hg
    rw [upd_old he,upd_old he']
    exact h.sep b b' hb1 hb2 hne hm hg
 ·refine ⟨rfl,rfl,rfl,by simp,by simp [St.push],fun b hb=>upd_old (by omega),fun r hr _=>hold r hr,fun b hb hm=> ?_⟩
  simp only [St.push] at hb
  by_cases he:b=σ.n
  ·subst he;left;rw [upd_new,hL];exact Nat.le_refl _
  ·right
   have hb1:b<σ.n:=by omega
   rw [getO_push_old hb1] at hm ⊢
   exact ⟨b,hb1,hm,id,(by rw [upd_old he])⟩
theorem Rep.set(h:Rep D ι σ w){b:Nat}{o:AO}{w':World}(hb:b<σ.n)(hm:(σ.getO b).isMut=true)
  (hs:w'.heap.size=w.heap.size) (hw:∀r,r≠(ι b).block→w'.heap[r]? =w.heap[r]?)
  (hos:w'.os=w.os∧w'.tape=w.tape∧w'.output=w.output)
  (ho:ORep ι (· <σ.n) o (ι b) w'):Rep D ι (σ.set b o) w'∧Ext ι σ w ι (σ.set b o) w':=by
 refine ⟨⟨by simp [St.set,h.len],h.glob,h.gloc,fun b' hb'=> ?_,fun b1 b2 hb1 hb2 hne hm1 hg2=> ?_,h.mem⟩,?_⟩
 ·change b'<σ.n at hb'
  by_cases he:b=b'
  ·subst he;rw [getO_set_same h.len hb];exact ho
  ·rw [getO_set_other hb he]
   by_cases hg:σ.getO b'= .gone
   ·rw [hg];trivial
   ·exact (h.obj b' hb').congr (hw _ fun e=>h.sep b b' hb hb' he hm hg e.symm)
 ·change b1<σ.n at hb1
  change b2<σ.n at hb2
  by_cases he1:b=b1
  ·subst he1
   rw [getO_set_other hb hne] at hg2
   exact h.sep b b2 hb hb2 hne hm hg2
  ·rw [getO_set_other hb he1] at hm1
   by_cases he2:b=b2
   ·subst he2
    exact h.sep b1 b hb1 hb hne hm1 (by intro e;rw [e] at hm;simp [AO.isMut] at hm)
   ·rw [getO_set_other hb he2] at hg2
    exact h.sep b1 b2 hb1 hb2 hne hm1 hg2
 ·refine ⟨hos.1,hos.2.1,hos.2.2,by omega,Nat.le_refl _,fun _ _=>rfl,fun r hr hno=>hw r fun e=>hno b hb hm e.symm,fun b' hb' hm'=> ?_⟩
  change b'<σ.n at hb'
  right
  by_cases he:b=b'
  ·subst he;exact ⟨b,hb,AO.isMut_ne hm,fun _=>hm,rfl⟩
  ·rw [getO_set_other hb he] at hm' ⊢
   exact ⟨b',hb',hm',id,rfl⟩
theorem Rep.forget(h:Rep D ι σ w){b:Nat}(hb:b<σ.n):Rep D ι (σ.set b .gone) w:=by
 refine ⟨by simp [St.set,h.len],h.glob,h.gloc,fun b' hb'=> ?_,fun b1 b2 hb1 hb2 hne hm1 hg2=> ?_,h.mem⟩
 ·change b'<σ.n at hb'
  by_cases he:b=b'
  ·subst he;rw [getO_set_same h.len hb];trivial
  ·rw [getO_set_other hb he];exact h.obj b' hb'
 ·change b1<σ.n at hb1
  change b2<σ.n at hb2
  by_cases he1:b=b1
  ·subst he1;rw [getO_set_same h.len hb] at hm1;simp [AO.isMut] at hm1
  ·rw [getO_set_other hb he1] at hm1
   by_cases he2:b=b2
   ·subst he2;rw [getO_set_same h.len hb] at hg2;exact (hg2 rfl).elim
   ·rw [getO_set_other hb he2] at hg2
    exact h.sep b1 b2 hb1 hb2 hne hm1 hg2
end
end Go.Dt
