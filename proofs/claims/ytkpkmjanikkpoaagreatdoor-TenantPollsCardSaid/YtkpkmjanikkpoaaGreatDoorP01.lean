/-
  What the deterministic reading's values stand for. No statement of this seat stands here.
-/
import Derived.Test.YtkpkmjanikkpoaaGreatDoorP00
import Derived.Laws.Sem
import Derived.Laws.Entries
import Derived.Laws.StructEq
import Derived.ChangeKeysEq
import Derived.Orders
namespace Go.Dt

structure Loc where
  block : Nat
  shift : Nat
  capz : Nat
  sz : Nat
  deriving Inhabited

def Loc.at (L : Loc) (o : Nat) : Addr := ⟨L.block, L.shift + o, none⟩

mutual
def conc (ι : Nat → Loc) : AV → Value
  | .base v => v
  | .ptr b o => .pointer (some ((ι b).at o))
  | .slice b o len (some c) _ => .slice (some ((ι b).at o)) len c
  | .slice b o len none _ => .slice (some ((ι b).at o)) len ((ι b).capz - o / (ι b).sz)
  | .sliceZ b o l _ =>
    if (ι b).capz - o / (ι b).sz = l then .slice (some ((ι b).at o)) 0 0
    else .slice (some ((ι b).at (o + l * (ι b).sz))) 0 ((ι b).capz - o / (ι b).sz - l)
  | .mapv b => .map (some (ι b).block)
  | .func fn a c => .func fn (concL ι a).toArray (concL ι c).toArray
  | .yield l => .func (.yield (ι l).block) #[] #[]
  | .iface t v => .iface t (conc ι v)
  | .agg cs => .agg (concL ι cs).toArray
  | .tuple vs => .tuple (concL ι vs).toArray
def concL (ι : Nat → Loc) : List AV → List Value
  | [] => []
  | v :: l => conc ι v :: concL ι l
end

theorem concL_eq (ι : Nat → Loc) (l : List AV) : concL ι l = l.map (conc ι) := by
  induction l with
  | nil => simp [concL]
  | cons v l ih => simp [concL, ih]

/- the blocks of a value all lie in a set, and slices of open blocks fit them -/
mutual
def ids (ι : Nat → Loc) (A : Nat → Prop) : AV → Prop
  | .base _ => True
  | .ptr b _ => A b
  | .slice b _ _ (some _) _ => A b
  | .slice b o len none sz => A b ∧ (ι b).sz = sz ∧ 0 < sz ∧ o / sz + len ≤ (ι b).capz
  | .sliceZ b o l sz => A b ∧ (ι b).sz = sz ∧ 0 < sz ∧ o / sz + l ≤ (ι b).capz
  | .mapv b => A b
  | .func _ a c => idsL ι A a ∧ idsL ι A c
  | .yield l => A l
  | .iface _ v => ids ι A v
  | .agg cs => idsL ι A cs
  | .tuple vs => idsL ι A vs
def idsL (ι : Nat → Loc) (A : Nat → Prop) : List AV → Prop
  | [] => True
  | v :: l => ids ι A v ∧ idsL ι A l
end

theorem idsL_iff {ι : Nat → Loc} {A : Nat → Prop} {l : List AV} : idsL ι A l ↔ ∀ v, v ∈ l → ids ι A v := by
  induction l with
  | nil => simp [idsL]
  | cons v l ih => simp [idsL, ih]

mutual
theorem ids_mono {ι ι' : Nat → Loc} {A B : Nat → Prop} (h : ∀ b, A b → B b ∧ ι' b = ι b) : ∀ (v : AV), ids ι A v → ids ι' B v
  | .base _, _ => trivial
  | .ptr b _, k => (h b k).1
  | .slice b _ _ (some _) _, k => (h b k).1
  | .slice b _ _ none _, k => ⟨(h b k.1).1, by rw [(h b k.1).2]; exact k.2⟩
  | .sliceZ b _ _ _, k => ⟨(h b k.1).1, by rw [(h b k.1).2]; exact k.2⟩
  | .mapv b, k => (h b k).1
  | .func _ a c, k => ⟨idsL_mono h a k.1, idsL_mono h c k.2⟩
  | .yield l, k => (h l k).1
  | .iface _ v, k => ids_mono h v k
  | .agg cs, k => idsL_mono h cs k
  | .tuple vs, k => idsL_mono h vs k
theorem idsL_mono {ι ι' : Nat → Loc} {A B : Nat → Prop} (h : ∀ b, A b → B b ∧ ι' b = ι b) : ∀ (l : List AV), idsL ι A l → idsL ι' B l
  | [], _ => trivial
  | v :: l, k => ⟨ids_mono h v k.1, idsL_mono h l k.2⟩
end

mutual
theorem conc_agree {ι ι' : Nat → Loc} {A : Nat → Prop} (h : ∀ b, A b → ι' b = ι b) : ∀ (v : AV), ids ι A v → conc ι' v = conc ι v
  | .base _, _ => by simp [conc]
  | .ptr b _, k => by simp [conc, h b k]
  | .slice b _ _ (some _) _, k => by simp [conc, h b k]
  | .slice b _ _ none _, k => by simp [conc, h b k.1]
  | .sliceZ b _ _ _, k => by simp [conc, h b k.1]
  | .mapv b, k => by simp [conc, h b k]
  | .func _ a c, k => by simp [conc, concL_agree h a k.1, concL_agree h c k.2]
  | .yield l, k => by simp [conc, h l k]
  | .iface _ v, k => by simp [conc, conc_agree h v k]
  | .agg cs, k => by simp [conc, concL_agree h cs k]
  | .tuple vs, k => by simp [conc, concL_agree h vs k]
theorem concL_agree {ι ι' : Nat → Loc} {A : Nat → Prop} (h : ∀ b, A b → ι' b = ι b) : ∀ (l : List AV), idsL ι A l → concL ι' l = concL ι l
  | [], _ => by simp [concL]
  | v :: l, k => by simp [concL, conc_agree h v k.1, concL_agree h l k.2]
end

theorem map_base (ι : Nat → Loc) (l : List Value) : concL ι (l.map .base) = l := by
  induction l with
  | nil => simp [concL]
  | cons v l ih => simp [concL, conc, ih]

theorem conc_ofConst1 (ι : Nat → Loc) (v : Value) : conc ι (ofConst1 v) = v := by
  cases v <;> simp [ofConst1, conc, map_base]

theorem concL_ofConst1 (ι : Nat → Loc) (l : List Value) : concL ι (l.map ofConst1) = l := by
  induction l with
  | nil => simp [concL]
  | cons v l ih => simp [concL, conc_ofConst1, ih]

@[simp] theorem conc_ofConst (ι : Nat → Loc) (v : Value) : conc ι (ofConst v) = v := by
  cases v <;> simp [ofConst, conc, map_base, concL_ofConst1]

theorem idsL_base (ι : Nat → Loc) (A : Nat → Prop) (l : List Value) : idsL ι A (l.map .base) := by
  induction l with
  | nil => trivial
  | cons v l ih => exact ⟨trivial, ih⟩
theorem ids_ofConst1 (ι : Nat → Loc) (A : Nat → Prop) (v : Value) : ids ι A (ofConst1 v) := by
  cases v <;> simp [ofConst1, ids, idsL_base]
theorem idsL_ofConst1 (ι : Nat → Loc) (A : Nat → Prop) (l : List Value) : idsL ι A (l.map ofConst1) := by
  induction l with
  | nil => trivial
  | cons v l ih => exact ⟨ids_ofConst1 ι A v, ih⟩
theorem ids_ofConst (ι : Nat → Loc) (A : Nat → Prop) (v : Value) : ids ι A (ofConst v) := by
  cases v <;> simp [ofConst, ids, idsL_base, idsL_ofConst1]

@[simp] theorem conc_undef (ι : Nat → Loc) : conc ι .undef = undef := by simp [AV.undef, conc, concL, undef]
theorem ids_undef (ι : Nat → Loc) (A : Nat → Prop) : ids ι A .undef := by simp [AV.undef, ids, idsL]

@[simp] theorem bind_ok {α β : Type} {x : R α} {f : α → R β} {b : β} : (x >>= f) = .ok b ↔ ∃ a, x = .ok a ∧ f a = .ok b := by
  cases x with
  | error e => simp [bind, Except.bind]
  | ok a => simp [bind, Except.bind]
@[simp] theorem pure_ok {α : Type} {a b : α} : (pure a : R α) = .ok b ↔ a = b := by simp [pure, Except.pure]

theorem conc_oneCell {ι : Nat → Loc} {v : AV} (h : v.oneCell = true) : ∀ cs, conc ι v ≠ .agg cs ∧ conc ι v ≠ .tuple cs := by
  intro cs
  cases v with
  | base v => cases v <;> simp_all [AV.oneCell, conc]
  | slice b o len cap sz => cases cap <;> simp [conc]
  | sliceZ b o l s => simp only [conc]; split <;> simp
  | _ => simp_all [AV.oneCell, conc]

theorem conc_slice (ι : Nat → Loc) (b o len : Nat) (cap : Option Nat) (sz : Nat) :
    ∃ c, conc ι (.slice b o len cap sz) = .slice (some ((ι b).at o)) len c := by
  cases cap with
  | none => exact ⟨(ι b).capz - o / (ι b).sz, by simp only [conc]⟩
  | some c => exact ⟨c, by simp only [conc]⟩
theorem conc_sliceZ (ι : Nat → Loc) (b o l sz : Nat) : ∃ a c, conc ι (.sliceZ b o l sz) = .slice (some a) 0 c := by
  simp only [conc]
  split
  · exact ⟨_, _, rfl⟩
  · exact ⟨_, _, rfl⟩

/-- the cells of what is meant are what is meant of the cells -/
theorem conc_cells {ι : Nat → Loc} (v : AV) : (conc ι v).cells = (concL ι v.cells).toArray := by
  cases v with
  | base v => cases v <;> simp_all [conc, AV.cells, Value.cells, concL, map_base]
  | slice b o len cap sz => cases cap <;> simp [conc, Value.cells, AV.cells, concL]
  | sliceZ b o l s => simp only [conc, AV.cells, concL]; split <;> simp [Value.cells]
  | _ => simp [conc, AV.cells, Value.cells, concL]

theorem ids_cells {ι : Nat → Loc} {A : Nat → Prop} {v : AV} (h : ids ι A v) : idsL ι A v.cells := by
  cases v with
  | base v => cases v <;> simp [AV.cells, idsL, ids, idsL_base]
  | agg cs => simpa [AV.cells, ids] using h
  | _ => simpa [AV.cells, idsL] using h

@[simp] theorem concL_length (ι : Nat → Loc) (l : List AV) : (concL ι l).length = l.length := by simp [concL_eq]
@[simp] theorem concL_append (ι : Nat → Loc) (l m : List AV) : concL ι (l ++ m) = concL ι l ++ concL ι m := by simp [concL_eq]
@[simp] theorem concL_getElem? (ι : Nat → Loc) (l : List AV) (i : Nat) : (concL ι l)[i]? = (l[i]?).map (conc ι) := by simp [concL_eq]
@[simp] theorem concL_drop (ι : Nat → Loc) (l : List AV) (i : Nat) : concL ι (l.drop i) = (concL ι l).drop i := by simp [concL_eq]
@[simp] theorem concL_take (ι : Nat → Loc) (l : List AV) (i : Nat) : concL ι (l.take i) = (concL ι l).take i := by simp [concL_eq]
theorem idsL_get {ι : Nat → Loc} {A : Nat → Prop} {l : List AV} {i : Nat} {v : AV} (h : idsL ι A l) (hv : l[i]? = some v) : ids ι A v :=
  idsL_iff.1 h v (List.mem_of_getElem? hv)
theorem idsL_drop {ι : Nat → Loc} {A : Nat → Prop} {l : List AV} (h : idsL ι A l) (i : Nat) : idsL ι A (l.drop i) :=
  idsL_iff.2 fun v hv => idsL_iff.1 h v (List.mem_of_mem_drop hv)
theorem idsL_take {ι : Nat → Loc} {A : Nat → Prop} {l : List AV} (h : idsL ι A l) (i : Nat) : idsL ι A (l.take i) :=
  idsL_iff.2 fun v hv => idsL_iff.1 h v (List.mem_of_mem_take hv)
theorem idsL_append {ι : Nat → Loc} {A : Nat → Prop} {l m : List AV} : idsL ι A (l ++ m) ↔ idsL ι A l ∧ idsL ι A m := by
  simp [idsL_iff, or_imp, forall_and]
theorem idsL_set {ι : Nat → Loc} {A : Nat → Prop} {l : List AV} {v : AV} (h : idsL ι A l) (hv : ids ι A v) (i : Nat) : idsL ι A (l.set i v) :=
  idsL_iff.2 fun x hx => by
    rcases List.mem_or_eq_of_mem_set hx with h1 | h1
    · exact idsL_iff.1 h x h1
    · exact h1 ▸ hv

end Go.Dt
namespace Go.Dt

structure Fits (D : Tab) (P : Program) : Prop where
  func : ∀ i f, D.func i = some f → P.funcs[i]? = some f
  info : ∀ t i, D.info t = some i → P.info? t = some i
  eqOk : ∀ t, D.eqOk t = true → P.stoodInHeld t = false
  ext : ∀ g k, D.ext g = some k → ∃ fn, P.funcs[g]? = some fn ∧ (fn.name == "runtime.NumGoroutine") = false ∧ fn.body.isNone = true ∧ (Extern.findNext fn).isNone = true ∧ Extern.find fn = some k.sem
  depth : 10 ≤ P.depth
  mixed : P.follows .mixedOrders = true

section
variable {D : Tab} {P : Program} (F : Fits D P) {ι : Nat → Loc} (w : World)
include F

theorem inf_ok {t : Nat} {i : TypeInfo} (h : inf D t = .ok i) : P.info? t = some i := by
  unfold inf at h
  split at h <;> simp at h
  rename_i j hj
  exact F.info _ _ (h ▸ hj)

theorem und_ok {t : Nat} {d : TypeDesc} (h : und D t = .ok d) : P.underlying t = some d := by
  unfold und at h
  unfold Program.underlying
  split at h
  · rename_i i hi
    rw [F.info _ _ hi]
    rcases i with ⟨desc, a1, a2, a3, a4, a5, a6, a7, a8, a9⟩
    cases desc with
    | named nm u =>
      simp only at h ⊢
      split at h
      · rename_i j hj
        simp at h
        rw [F.info _ _ hj]
        simp [h]
      · simp at h
    | _ => simpa using h
  · simp at h

theorem run_und {t : Nat} {d : TypeDesc} (h : und D t = .ok d) : (underlying t).run P w = .ok d w := run_underlying (und_ok F h) w

theorem size_ok {t n : Nat} (h : size D t = .ok n) : ∃ i, P.info? t = some i ∧ i.size = n := by
  unfold size at h
  split at h <;> simp at h
  rename_i i hi
  exact ⟨i, F.info _ _ hi, h⟩

omit F in
theorem run_info {t : Nat} {i : TypeInfo} (h : P.info? t = some i) : (typeInfo t).run P w = .ok i w := by
  simp [typeInfo, h]

theorem run_inf {t : Nat} {i : TypeInfo} (h : inf D t = .ok i) : (typeInfo t).run P w = .ok i w := run_info w (inf_ok F h)

theorem run_size {t n : Nat} (h : size D t = .ok n) : (sizeOf t).run P w = .ok n w := by
  obtain ⟨i, hi, rfl⟩ := size_ok F h
  simp [sizeOf, run_info w hi]

theorem run_zero {t : Nat} {z : AV} (h : zero D t = .ok z) : (zeroValue t).run P w = .ok (conc ι z) w := by
  unfold zero at h
  split at h
  · rename_i i hi
    split at h
    · rename_i v hv
      simp at h
      subst h
      simp [zeroValue, run_info w (F.info _ _ hi), hv]
    · simp at h
  · simp at h

omit F in
theorem zero_ids {t : Nat} {z : AV} (h : zero D t = .ok z) (A : Nat → Prop) : ids ι A z := by
  unfold zero at h
  split at h
  · split at h
    · simp at h; subst h; exact ids_ofConst ι A _
    · simp at h
  · simp at h

theorem run_isAgg {t : Nat} {d : TypeDesc} (h : und D t = .ok d) : (isAgg t).run P w = .ok (isAggD d) w := by
  simp only [isAgg, Sem.run_bind, run_und F w h, Result.andThen_ok]
  cases d <;> simp [isAggD]

theorem run_part {t off : Nat} {cs : List AV} {v : AV} (h : part D t cs off = .ok v) :
    (Go.part t (concL ι cs).toArray off).run P w = .ok (conc ι v) w := by
  simp only [part, bind_ok] at h
  obtain ⟨d, hd, h⟩ := h
  simp only [Go.part, Sem.run_bind, run_isAgg F w hd, Result.andThen_ok]
  split at h
  · rename_i hagg
    simp only [bind_ok, pure_ok] at h
    obtain ⟨n, hn, rfl⟩ := h
    simp only [hagg, if_true, Sem.run_bind, run_size F w hn, Result.andThen_ok, Sem.run_pure, conc]
    congr 2
    simp [List.extract_eq_take_drop]
  · rename_i hagg
    have hagg' : isAggD d = false := by simpa using hagg
    simp only [hagg', Bool.false_eq_true, if_false]
    split at h
    · rename_i x hx
      simp at h
      subst h
      simp [hx]
    · simp at h

omit F in
theorem part_ids {A : Nat → Prop} {t off : Nat} {cs : List AV} {v : AV} (h : part D t cs off = .ok v) (hi : idsL ι A cs) : ids ι A v := by
  simp only [part, bind_ok] at h
  obtain ⟨d, hd, h⟩ := h
  split at h
  · simp only [bind_ok, pure_ok] at h
    obtain ⟨n, hn, rfl⟩ := h
    exact idsL_take (idsL_drop hi _) _
  · split at h
    · rename_i x hx
      simp at h
      exact h ▸ idsL_get hi hx
    · simp at h

end
end Go.Dt
namespace Go.Dt
section
variable {D : Tab} {P : Program} (F : Fits D P) {ι : Nat → Loc} (w : World)
include F

theorem run_eqFields {d : Nat} {rec_ : Nat → AV → AV → R Bool}
    (hrec : ∀ t x y b, rec_ t x y = .ok b → (Op.equalIn d t (conc ι x) (conc ι y)).run P w = .ok b w) {xs ys : List AV} :
    ∀ (fs : List Field) (b : Bool), eqFields D rec_ xs ys fs = .ok b → (Op.eqFields d (concL ι xs).toArray (concL ι ys).toArray fs).run P w = .ok b w := by
  intro fs
  induction fs with
  | nil => intro b h; simp [eqFields] at h; subst h; simp [Op.eqFields]
  | cons f fs ih =>
    intro b h
    simp only [eqFields] at h
    simp only [Op.eqFields]
    split at h
    · rename_i hn
      simp only [hn, ne_eq, not_true, if_false]
      exact ih b h
    · rename_i hn
      simp only [bind_ok] at h
      obtain ⟨x, hx, y, hy, r, hr, h⟩ := h
      simp only [hn, ne_eq, not_false_eq_true, if_true, Sem.run_bind, run_part F w hx, run_part F w hy, Result.andThen_ok, hrec _ _ _ _ hr, Sem.run_ite, Sem.run_pure]
      cases r with
      | true => simpa using ih b (by simpa using h)
      | false => simp at h; subst h; simp

theorem run_eqElems {d : Nat} {rec_ : Nat → AV → AV → R Bool}
    (hrec : ∀ t x y b, rec_ t x y = .ok b → (Op.equalIn d t (conc ι x) (conc ι y)).run P w = .ok b w) {elem n : Nat} {xs ys : List AV} :
    ∀ (m i : Nat) (b : Bool), eqElems D rec_ elem n xs ys m i = .ok b →
      (Op.eqItems d elem n (concL ι xs).toArray (concL ι ys).toArray (List.range' i m)).run P w = .ok b w := by
  intro m
  induction m with
  | zero => intro i b h; simp [eqElems] at h; subst h; simp [Op.eqItems]
  | succ m ih =>
    intro i b h
    simp only [eqElems, bind_ok] at h
    obtain ⟨x, hx, y, hy, r, hr, h⟩ := h
    simp only [List.range'_succ, Op.eqItems, Sem.run_bind, run_part F w hx, run_part F w hy, Result.andThen_ok, hrec _ _ _ _ hr, Sem.run_ite, Sem.run_pure]
    cases r with
    | true => simpa using ih (i + 1) b (by simpa using h)
    | false => simp at h; subst h; simp

theorem run_eqLeaf {d t : Nat} {ty : TypeDesc} {x y : AV} {b : Bool} (ht : und D t = .ok ty) (h : eqLeaf ty x y = .ok b) :
    (Op.equalIn (d + 1) t (conc ι x) (conc ι y)).run P w = .ok b w := by
  simp only [Op.equalIn, Sem.run_bind, run_und F w ht, Result.andThen_ok]
  unfold eqLeaf at h
  split at h <;> (try (simp at h; done)) <;> (try (simp at h; subst h; simp [conc]; done))
  · -- int
    split at h
    · rename_i k k' hk
      simp at h; subst h; simp [conc, hk]
    · simp at h
  · -- string
    simp at h; subst h
    rename_i a b
    simp only [conc]
    simp only [Sem.run_pure, Result.ok.injEq, and_true]
    show ((⟨⟨a⟩⟩ : ByteArray) == ⟨⟨b⟩⟩) = (a == b)
    rw [Go.beq_toListBytes, ByteArray.toList_eq, ByteArray.toList_eq]
  · rename_i b o len cap sz
    simp at h; subst h
    obtain ⟨c, hc⟩ := conc_slice ι b o len cap sz
    rw [hc]; simp [conc]
  · rename_i b o l sz
    simp at h; subst h
    obtain ⟨a, c, hc⟩ := conc_sliceZ ι b o l sz
    rw [hc]; simp [conc]
  · rename_i b o len cap sz _ _
    simp at h; subst h
    obtain ⟨c, hc⟩ := conc_slice ι b o len cap sz
    rw [hc]; simp [conc]
  · rename_i b o l sz _ _
    simp at h; subst h
    obtain ⟨a, c, hc⟩ := conc_sliceZ ι b o l sz
    rw [hc]; simp [conc]

theorem run_eqV : ∀ (d t : Nat) (x y : AV) (b : Bool), eqV D d t x y = .ok b → ∀ k, d ≤ k → (Op.equalIn k t (conc ι x) (conc ι y)).run P w = .ok b w := by
  intro d
  induction d with
  | zero => intro t x y b h; simp [eqV] at h
  | succ d ih =>
    intro t x y b h k hk
    obtain ⟨k, rfl⟩ : ∃ j, k = j + 1 := ⟨k - 1, by omega⟩
    have ih' : ∀ t x y b, eqV D d t x y = .ok b → (Op.equalIn k t (conc ι x) (conc ι y)).run P w = .ok b w := fun t x y b h => ih t x y b h k (by omega)
    simp only [eqV, bind_ok] at h
    obtain ⟨ty, hty, h⟩ := h
    split at h
    · rename_i fields xs ys
      split at h
      · rename_i hq
        have hu := und_ok F hty
        have hf : P.fieldsOf t = fields := by simp [Program.fieldsOf, hu]
        simp only [conc]
        rw [run_equalIn_struct w k t _ _ (by rw [hf]; exact hu) (F.eqOk _ hq), hf]
        exact run_eqFields F w ih' _ _ h
      · simp at h
    · rename_i len elem xs ys
      simp only [bind_ok] at h
      obtain ⟨n, hn, h⟩ := h
      have key := run_eqElems F w ih' _ _ _ h
      obtain ⟨i, hi, rfl⟩ := size_ok F hn
      have hc : P.cellsOf elem = i.size := by simp [Program.cellsOf, hi]
      simp only [conc]
      rw [Go.run_equalIn_array w k _ _ (und_ok F hty) hi, hc, List.range_eq_range']
      exact key
    · rename_i elem b1 o1 b2 o2
      simp only [bind_ok] at h
      obtain ⟨n, hn, h⟩ := h
      split at h
      · rename_i hc
        obtain ⟨rfl, hn0⟩ := hc
        simp at h; subst h
        simp only [Op.equalIn, Sem.run_bind, run_und F w hty, Result.andThen_ok, conc, run_size F w hn, Sem.run_ite]
        rw [if_pos hn0]
        simp only [sameAddr, Loc.at, beq_self_eq_true, if_true, Sem.run_pure]
        congr 1
        rw [Bool.eq_iff_iff]
        simp
      · simp at h
    · exact run_eqLeaf F w hty h

theorem guardFree_ok : ∀ (d t : Nat), guardFree D d t = true → ∀ k, d ≤ k → P.eqGuardType k t = false := by
  intro d
  induction d with
  | zero => intro t h; simp [guardFree] at h
  | succ d ih =>
    intro t h k hk
    obtain ⟨k, rfl⟩ : ∃ j, k = j + 1 := ⟨k - 1, by omega⟩
    unfold guardFree at h
    unfold Program.eqGuardType
    split at h
    · rename_i ms hu
      rw [und_ok F hu]
      simpa using h
    · rename_i fs hu
      rw [und_ok F hu]
      simp only [← Array.any_toList]
      clear hu
      generalize fs.toList = l at h ⊢
      induction l with
      | nil => simp
      | cons f l ihl =>
        simp only [guardFields, Bool.and_eq_true, Bool.or_eq_true, beq_iff_eq] at h
        simp only [List.any_cons, Bool.or_eq_false_iff, Bool.and_eq_false_iff, bne_eq_false_iff_eq]
        refine ⟨?_, ihl h.2⟩
        rcases h.1 with h1 | h1
        · exact .inl h1
        · exact .inr (ih _ h1 k (by omega))
    · rename_i n e hu
      rw [und_ok F hu]
      exact ih _ h k (by omega)
    · rename_i ty h1 h2 h3 hu
      rw [und_ok F hu]
      cases ty <;> simp_all
    · simp at h

end
end Go.Dt
namespace Go.Dt
section
variable {D : Tab} {P : Program} (F : Fits D P) {ι : Nat → Loc} (w : World)

theorem run_intOp {op : BinOp} {t : TypeId} {k k' : IntKind} {a b : Int} {v : AV} (h : intOp op k k' a b = .ok v) :
    (Go.binOp op t (.int k a) (.int k' b)).run P w = .ok (conc ι v) w := by
  unfold intOp at h
  split at h
  · split at h
    · simp at h
    · rename_i hb
      simp at h; subst h
      simp [Go.binOp, Op.shift, hb, intV, conc]
  · split at h
    · simp at h
    · rename_i hb
      simp at h; subst h
      simp [Go.binOp, Op.shift, hb, intV, conc]
  · split at h
    · rename_i hk
      subst hk
      split at h <;> (try (simp at h; done)) <;> (try (simp at h; subst h; simp [Go.binOp, Op.intArith, Op.intBits, Op.intCmp, intV, boolV, conc]; done))
      · split at h
        · simp at h
        · rename_i hb
          simp at h; subst h
          simp [Go.binOp, Op.intDiv, hb, intV, conc]
      · split at h
        · simp at h
        · rename_i hb
          simp at h; subst h
          simp [Go.binOp, Op.intDiv, hb, intV, conc]
    · simp at h

theorem toListBytes (a : List UInt8) : (⟨⟨a⟩⟩ : ByteArray).toList = a := by rw [ByteArray.toList_eq]

theorem run_strOp {op : BinOp} {t : TypeId} {a b : List UInt8} {v : AV} (h : strOp op a b = .ok v) :
    (Go.binOp op t (.string ⟨⟨a⟩⟩) (.string ⟨⟨b⟩⟩)).run P w = .ok (conc ι v) w := by
  unfold strOp at h
  split at h <;> (try (simp at h; done)) <;> (try (simp at h; subst h; simp [Go.binOp, Op.stringOp, boolV, conc]; done))
  split at h
  · rename_i hl
    simp at h; subst h
    have hs : (⟨⟨a⟩⟩ : ByteArray).size = a.length := rfl
    have hs' : (⟨⟨b⟩⟩ : ByteArray).size = b.length := rfl
    have hle : ¬ ((a.length : Int) + (b.length : Int) > IntKind.i64.max) := by
      simp only [IntKind.max, IntKind.signed, IntKind.bits, if_true]
      have : a.length + b.length < 2 ^ 40 := hl
      omega
    simp only [Go.binOp, Op.stringOp, hs, hs', Sem.run_ite]
    rw [if_neg (by push_cast; exact hle)]
    simp only [Sem.run_pure, str, conc]
    congr 2
  · simp at h

include F
theorem run_eqOp {op : BinOp} {t : TypeId} {x y v : AV} (h : eqOp D op t x y = .ok v)
    (hn : ∀ a b, conc ι x = .int a b → False) (hf : ∀ a b, conc ι x = .float a b → False) (hc : ∀ a b c, conc ι x = .complex a b c → False)
    (hs : ∀ a, conc ι x = .string a → False) :
    (Go.binOp op t (conc ι x) (conc ι y)).run P w = .ok (conc ι v) w := by
  unfold eqOp at h
  split at h
  · simp only [bind_ok, pure_ok] at h
    obtain ⟨b, hb, rfl⟩ := h
    have := run_eqV F (ι := ι) w 10 t x y b hb 10000 (by omega)
    have key : (Go.binOp .eql t (conc ι x) (conc ι y)) = (do pure (.bool (← Op.equal t (conc ι x) (conc ι y)))) := by
      cases hx : conc ι x <;> (first | exact (hn _ _ hx).elim | exact (hf _ _ hx).elim | exact (hc _ _ _ hx).elim | exact (hs _ hx).elim | rfl)
    rw [key]
    simp [Op.equal, Op.maxDepth, this, boolV, conc]
  · simp only [bind_ok, pure_ok] at h
    obtain ⟨b, hb, rfl⟩ := h
    have := run_eqV F (ι := ι) w 10 t x y b hb 10000 (by omega)
    have key : (Go.binOp .neq t (conc ι x) (conc ι y)) = (do pure (.bool (!(← Op.equal t (conc ι x) (conc ι y))))) := by
      cases hx : conc ι x <;> (first | exact (hn _ _ hx).elim | exact (hf _ _ hx).elim | exact (hc _ _ _ hx).elim | exact (hs _ hx).elim | rfl)
    rw [key]
    simp [Op.equal, Op.maxDepth, this, boolV, conc]
  · simp at h

omit F in
theorem run_eqGuard_none (op : BinOp) (t : TypeId) (x y : Operand) (a b : Value) (h1 : ¬ (a = .nilIface ∧ b = .nilIface)) (h2 : ∀ l, a ≠ .agg l) :
    (eqGuard op t x y a b).run P w = .ok () w := by
  cases op <;> simp [eqGuard] <;> split <;> simp_all

omit F in
theorem run_eqGuard_const (op : BinOp) (t : TypeId) (x y : Operand) (h : (isConstO x || isConstO y) = true) :
    (eqGuard op t x y .nilIface .nilIface).run P w = .ok () w := by
  cases op <;> cases x <;> cases y <;> simp_all [eqGuard, isConstO]

theorem run_binOp {op : BinOp} {t : TypeId} {x y v : AV} {ox oy : Operand} (h : binOp D op t x y (isConstO ox || isConstO oy) = .ok v) :
    ((do eqGuard op t ox oy (conc ι x) (conc ι y); Go.binOp op t (conc ι x) (conc ι y) : Sem Value)).run P w = .ok (conc ι v) w := by
  simp only [Sem.run_bind]
  have side : ∀ (x y : AV), eqOp D op t x y = .ok v → ¬ (conc ι x = .nilIface ∧ conc ι y = .nilIface) → (∀ l, conc ι x ≠ .agg l) →
      (∀ a b, conc ι x = .int a b → False) → (∀ a b, conc ι x = .float a b → False) → (∀ a b c, conc ι x = .complex a b c → False) → (∀ a, conc ι x = .string a → False) →
      ((eqGuard op t ox oy (conc ι x) (conc ι y)).run P w).andThen (fun _ w => (Go.binOp op t (conc ι x) (conc ι y)).run P w) = .ok (conc ι v) w := by
    intro x y h h1 h2 h3 h4 h5 h6
    rw [run_eqGuard_none w op t ox oy _ _ h1 h2]
    exact run_eqOp F w h h3 h4 h5 h6
  unfold binOp at h
  split at h
  · simp only [conc]
    rw [run_eqGuard_none w op t ox oy _ _ (by simp) (by simp)]
    exact run_intOp w h
  · simp only [conc]
    rw [run_eqGuard_none w op t ox oy _ _ (by simp) (by simp)]
    exact run_strOp w h
  · split at h
    · rename_i hc
      simp only [conc]
      rw [run_eqGuard_const w op t ox oy hc]
      have := run_eqOp F (ι := ι) w h (by simp [conc]) (by simp [conc]) (by simp [conc]) (by simp [conc])
      simpa [conc] using this
    · simp at h
  · split at h
    · rename_i hg
      have hg' := guardFree_ok F 10 t hg _ F.depth
      have := run_eqOp F (ι := ι) w h (by simp [conc]) (by simp [conc]) (by simp [conc]) (by simp [conc])
      simp only [conc] at this ⊢
      rw [run_eqGuard_agg w op t ox oy _ _ hg']
      exact this
    · simp at h
  all_goals first
    | (refine side _ _ h ?_ ?_ ?_ ?_ ?_ ?_ <;> (simp [conc]; done))
    | (rename_i b o n k s l c
       obtain ⟨c', hc⟩ := conc_slice ι b o n k s
       refine side _ _ h ?_ ?_ ?_ ?_ ?_ ?_ <;> (simp [hc]; done))
    | (rename_i b o n s l c
       obtain ⟨a, c', hc⟩ := conc_sliceZ ι b o n s
       refine side _ _ h ?_ ?_ ?_ ?_ ?_ ?_ <;> (simp [hc]; done))
    | (simp at h; done)
end
end Go.Dt
namespace Go.Dt

theorem foldl_set_toList (cs : Array Value) (off : Nat) (l : List Value) : ∀ (k : Nat),
    ((l.zipIdx k).foldl (fun (cs : Array Value) (p : Value × Nat) => cs.setIfInBounds (off + p.2) p.1) cs).size = cs.size := by
  induction l generalizing cs with
  | nil => intro k; simp
  | cons v l ih => intro k; simp [List.zipIdx_cons, ih]

theorem overwrite_length : ∀ (cs l : List AV), (overwrite cs l).length = cs.length := by
  intro cs
  induction cs with
  | nil => intro l; cases l <;> simp [overwrite]
  | cons c cs ih => intro l; cases l <;> simp [overwrite, ih]

theorem splice_length : ∀ (cs : List AV) (o : Nat) (l : List AV), (splice cs o l).length = cs.length := by
  intro cs
  induction cs with
  | nil => intro o l; cases o <;> simp [splice, overwrite_length]
  | cons c cs ih => intro o l; cases o <;> simp [splice, overwrite_length, ih]

theorem overwrite_get : ∀ (cs l : List AV) (i : Nat), l.length ≤ cs.length → (overwrite cs l)[i]? = if i < l.length then l[i]? else cs[i]? := by
  intro cs
  induction cs with
  | nil => intro l i h; cases l with
    | nil => simp [overwrite]
    | cons x l => simp at h
  | cons c cs ih =>
    intro l i h
    cases l with
    | nil => simp [overwrite]
    | cons x l =>
      simp only [overwrite]
      cases i with
      | zero => simp
      | succ i => simpa using ih l i (by simpa using h)

theorem splice_get : ∀ (cs : List AV) (o : Nat) (l : List AV) (i : Nat), o + l.length ≤ cs.length →
    (splice cs o l)[i]? = if o ≤ i ∧ i < o + l.length then l[i - o]? else cs[i]? := by
  intro cs
  induction cs with
  | nil =>
    intro o l i h
    have h1 : l = [] := List.eq_nil_of_length_eq_zero (by have h' := h; simp only [List.length_nil] at h'; omega)
    subst h1
    cases o <;> simp [splice, overwrite]
  | cons c cs ih =>
    intro o l i h
    cases o with
    | zero => simp only [splice]; rw [overwrite_get _ _ _ (by simpa using h)]; simp
    | succ o =>
      simp only [splice]
      cases i with
      | zero => simp
      | succ i =>
        have := ih o l i (by simp at h; omega)
        simp only [List.getElem?_cons_succ, this]
        by_cases hc : o ≤ i ∧ i < o + l.length
        · rw [if_pos hc, if_pos (by omega)]; congr 1; omega
        · rw [if_neg hc, if_neg (by omega)]

theorem idsL_splice {ι : Nat → Loc} {A : Nat → Prop} {cs l : List AV} {o : Nat} (h : o + l.length ≤ cs.length) (hc : idsL ι A cs) (hl : idsL ι A l) : idsL ι A (splice cs o l) := by
  refine idsL_iff.2 fun v hv => ?_
  obtain ⟨i, hi⟩ := List.getElem?_of_mem hv
  rw [splice_get _ _ _ _ h] at hi
  split at hi
  · exact idsL_get hl hi
  · exact idsL_get hc hi

theorem foldl_set_get (off : Nat) (l : List Value) : ∀ (k : Nat) (cs : Array Value) (i : Nat), off + k + l.length ≤ cs.size →
    ((l.zipIdx k).foldl (fun (cs : Array Value) (p : Value × Nat) => cs.setIfInBounds (off + p.2) p.1) cs)[i]? =
      if off + k ≤ i ∧ i < off + k + l.length then l[i - (off + k)]? else cs[i]? := by
  induction l with
  | nil => intro k cs i h; simp; intro h1 h2; omega
  | cons v l ih =>
    intro k cs i h
    simp only [List.zipIdx_cons, List.foldl_cons]
    rw [ih (k + 1) _ i (by simp at h ⊢; omega)]
    simp only [List.length_cons] at h ⊢
    by_cases h1 : off + (k + 1) ≤ i ∧ i < off + (k + 1) + l.length
    · rw [if_pos h1, if_pos (by omega)]
      have : i - (off + k) = (i - (off + (k + 1))) + 1 := by omega
      rw [this]; simp
    · rw [if_neg h1]
      by_cases h2 : i = off + k
      · subst h2
        have hlt : off + k < cs.size := by omega
        rw [if_pos (by omega)]
        simp [hlt]
      · rw [if_neg (by omega), Array.getElem?_setIfInBounds_ne (by omega)]

theorem splice_conc (ι : Nat → Loc) (cs l : List AV) (off : Nat) (h : off + l.length ≤ cs.length) :
    ((concL ι l).toArray.zipIdx.foldl (fun (cs : Array Value) (p : Value × Nat) => cs.setIfInBounds (off + p.2) p.1) (concL ι cs).toArray) = (concL ι (splice cs off l)).toArray := by
  rw [← Array.foldl_toList]
  apply Array.ext_getElem?
  intro i
  have e : (concL ι l).toArray.zipIdx.toList = (concL ι l).zipIdx 0 := by simp
  rw [e, foldl_set_get off (concL ι l) 0 _ i (by simp; omega)]
  simp only [Nat.add_zero, concL_length, List.getElem?_toArray, concL_getElem?]
  rw [splice_get _ _ _ _ h]
  split <;> rfl

theorem run_fill {ι : Nat → Loc} {place : Nat → Option (Nat × Nat)} : ∀ (parts : List (Nat × AV)) (cells out : List AV), fill place cells parts = .ok out →
    Instr.fill place (concL ι cells).toArray (parts.map fun p => (p.1, conc ι p.2)) = some (concL ι out).toArray := by
  intro parts
  induction parts with
  | nil => intro cells out h; simp [fill] at h; subst h; simp [Instr.fill]
  | cons p parts ih =>
    obtain ⟨i, v⟩ := p
    intro cells out h
    simp only [fill] at h
    simp only [List.map_cons, Instr.fill]
    cases hp : place i with
    | none => rw [hp] at h; simp at h
    | some q =>
      obtain ⟨off, sz⟩ := q
      rw [hp] at h
      simp only at h ⊢
      split at h
      · rename_i hc
        have e1 : (conc ι v).cells = (concL ι v.cells).toArray := conc_cells v
        have hcond : ((conc ι v).cells.size ≠ sz || decide (off + (conc ι v).cells.size > (concL ι cells).toArray.size)) = false := by
          rw [e1]; simp; omega
        have := ih _ _ h
        simp only [e1] at hcond ⊢
        rw [splice_conc ι cells v.cells off hc.2]
        simp only [ne_eq, List.size_toArray, concL_length] at hcond ⊢
        rw [if_neg (by simp; omega)]
        exact this
      · simp at h

theorem fill_ids {ι : Nat → Loc} {A : Nat → Prop} {place : Nat → Option (Nat × Nat)} : ∀ (parts : List (Nat × AV)) (cells out : List AV), fill place cells parts = .ok out →
    idsL ι A cells → (∀ p, p ∈ parts → ids ι A p.2) → idsL ι A out := by
  intro parts
  induction parts with
  | nil => intro cells out h hc _; simp [fill] at h; exact h ▸ hc
  | cons p parts ih =>
    obtain ⟨i, v⟩ := p
    intro cells out h hc hp
    simp only [fill] at h
    split at h
    · simp at h
    · split at h
      · rename_i hh
        exact ih _ _ h (idsL_splice hh.2 hc (ids_cells (hp (i, v) (by simp)))) fun p hm => hp p (by simp [hm])
      · simp at h

theorem fill_length {place : Nat → Option (Nat × Nat)} : ∀ (parts : List (Nat × AV)) (cells out : List AV), fill place cells parts = .ok out → out.length = cells.length := by
  intro parts
  induction parts with
  | nil => intro cells out h; simp [fill] at h; subst h; rfl
  | cons p parts ih =>
    obtain ⟨i, v⟩ := p
    intro cells out h
    simp only [fill] at h
    split at h
    · simp at h
    · split at h
      · rw [ih _ _ h, splice_length]
      · simp at h

section
variable {D : Tab} {P : Program} (F : Fits D P) {ι : Nat → Loc} (w : World)

theorem run_unOp {op : UnOp} {x v : AV} (h : unOp op x = .ok v) : (Op.unary op (conc ι x)).run P w = .ok (conc ι v) w := by
  unfold unOp at h
  split at h
  · simp at h; subst h; simp [Op.unary, Op.intArith, conc, intV]
  · simp at h; subst h; simp [Op.unary, conc, boolV]
  · simp at h

include F
theorem run_convertV {s d : Nat} {x v : AV} (h : convertV D s d x = .ok v) : (Go.convert s d (conc ι x)).run P w = .ok (conc ι v) w := by
  simp only [convertV, bind_ok] at h
  obtain ⟨a, ha, b, hb, h⟩ := h
  simp only [Go.convert, Sem.run_bind, run_und F w ha, run_und F w hb, Result.andThen_ok]
  split at h
  · simp at h; subst h; simp [conc, Conv.intToInt, intV]
  · simp at h; subst h; simp [conc]
  · simp at h; subst h; simp [conc, Conv.intToString, str]
  · simp at h

theorem run_structPlaces : ∀ (fs : List Field) (ps : List (Nat × Nat)), structPlaces D fs = .ok ps →
    (fs.mapM (m := Sem) fun f => do pure (f.offset, ← sizeOf f.type)).run P w = .ok ps w := by
  intro fs
  induction fs with
  | nil => intro ps h; simp [structPlaces] at h; subst h; simp
  | cons f fs ih =>
    intro ps h
    simp only [structPlaces, bind_ok, pure_ok] at h
    obtain ⟨n, hn, l, hl, rfl⟩ := h
    have := ih _ hl
    simp at this
    simp [List.mapM_cons, run_size F w hn, this]

theorem run_build {t : Nat} {parts : List (Nat × AV)} {v : AV} (h : build D t parts = .ok v) :
    (Instr.build t (parts.map fun p => (p.1, conc ι p.2)).toArray).run P w = .ok (conc ι v) w := by
  simp only [build, bind_ok] at h
  obtain ⟨z, hz, d, hd, h⟩ := h
  simp only [Instr.build, Sem.run_bind, run_zero F (ι := ι) w hz, run_und F w hd, Result.andThen_ok]
  have e1 : (conc ι z).cells = (concL ι z.cells).toArray := conc_cells z
  split at h
  · rename_i fields
    simp only [bind_ok, pure_ok] at h
    obtain ⟨ps, hps, cs, hcs, rfl⟩ := h
    have h1 := run_structPlaces F w _ _ hps
    have h2 := run_fill (ι := ι) _ _ _ hcs
    have hm : (fields.mapM (m := Sem) fun f => do pure (f.offset, ← sizeOf f.type)) = Functor.map List.toArray (fields.toList.mapM fun f => do pure (f.offset, ← sizeOf f.type)) := by
      rw [Array.mapM_eq_mapM_toList]
    simp only [Sem.run_bind]
    rw [hm]
    simp only [Sem.run_map, h1, Result.andThen_ok, e1]
    have h3 : (fun x : Nat => ps.toArray[x]?) = fun i => ps[i]? := by funext i; simp
    rw [h3, h2]
    simp [conc]
  · rename_i n elem
    simp only [bind_ok, pure_ok] at h
    obtain ⟨s, hs, cs, hcs, rfl⟩ := h
    have h2 := run_fill (ι := ι) _ _ _ hcs
    simp only [Sem.run_bind, run_size F w hs, Result.andThen_ok, e1]
    rw [h2]
    simp [conc]
  · simp at h

end
end Go.Dt
namespace Go.Dt
section
variable {D : Tab} {P : Program} (F : Fits D P) {ι : Nat → Loc} {A : Nat → Prop} (w : World)

theorem run_asI {x : AV} {k : IntKind} {i : Int} (h : asI x = .ok (k, i)) : conc ι x = .int k i := by
  unfold asI at h
  split at h <;> simp at h
  simp [conc, h]

theorem run_bound {x : AV} {y n : Nat} {code : BoundsCode} (h : bound x y = .ok n) :
    (Instr.sliceBound (conc ι x) y code).run P w = .ok n w ∧ n ≤ y := by
  simp only [bound, bind_ok] at h
  obtain ⟨⟨k, i⟩, hi, h⟩ := h
  split at h
  · rename_i hc
    simp at h
    simp only [Instr.sliceBound, run_asI (ι := ι) hi, asIntOf, Sem.run_bind, Sem.run_pure, Result.andThen_ok, Sem.run_ite]
    rw [if_pos hc]
    exact ⟨by simp [h], by omega⟩
  · simp at h

theorem boundO_le {x : Option AV} {y d n : Nat} (h : boundO x y d = .ok n) (hd : d ≤ y) : n ≤ y := by
  cases x with
  | none => simp [boundO] at h; omega
  | some v => exact (run_bound (P := default) (ι := fun _ => default) (code := .index) default h).2

theorem run_sliceBounds {b : Bool} {len cap m h l : Nat} {lo hi mx : Option AV}
    (hmx : (mx.isSome && hi.isNone) = false)
    (h1 : boundO mx cap cap = .ok m) (h2 : boundO hi m len = .ok h) (h3 : boundO lo h 0 = .ok l) :
    (Instr.sliceBounds b len cap (lo.map (conc ι)) (hi.map (conc ι)) (mx.map (conc ι))).run P w = .ok (l, h, m) w := by
  cases mx with
  | none =>
    simp [boundO] at h1; subst h1
    cases hi with
    | none =>
      simp [boundO] at h2; subst h2
      cases lo with
      | none => simp [boundO] at h3; subst h3; simp [Instr.sliceBounds]
      | some lv => simp only [boundO] at h3; simp [Instr.sliceBounds, (run_bound (ι := ι) w h3).1]
    | some hv =>
      simp only [boundO] at h2
      cases lo with
      | none => simp [boundO] at h3; subst h3; simp [Instr.sliceBounds, (run_bound (ι := ι) w h2).1]
      | some lv => simp only [boundO] at h3; simp [Instr.sliceBounds, (run_bound (ι := ι) w h2).1, (run_bound (ι := ι) w h3).1]
  | some mv =>
    simp only [boundO] at h1
    cases hi with
    | none => simp at hmx
    | some hv =>
      simp only [boundO] at h2
      cases lo with
      | none => simp [boundO] at h3; subst h3; simp [Instr.sliceBounds, (run_bound (ι := ι) w h1).1, (run_bound (ι := ι) w h2).1]
      | some lv => simp only [boundO] at h3; simp [Instr.sliceBounds, (run_bound (ι := ι) w h1).1, (run_bound (ι := ι) w h2).1, (run_bound (ι := ι) w h3).1]

/-- bounds within the length of an open slice are bounds within its capacity -/
theorem run_sliceBounds_open {b : Bool} {len cap h l : Nat} {lo hi : Option AV} (hc : len ≤ cap)
    (h2 : boundO hi len len = .ok h) (h3 : boundO lo h 0 = .ok l) :
    (Instr.sliceBounds b len cap (lo.map (conc ι)) (hi.map (conc ι)) none).run P w = .ok (l, h, cap) w := by
  have h2' : boundO hi cap len = .ok h := by
    cases hi with
    | none => simpa [boundO] using h2
    | some v =>
      simp only [boundO, bound, bind_ok] at h2 ⊢
      obtain ⟨⟨k, i⟩, hi, h2⟩ := h2
      refine ⟨(k, i), hi, ?_⟩
      split at h2
      · rename_i hcond
        rw [if_pos (by omega)]; exact h2
      · simp at h2
  exact run_sliceBounds (mx := none) w (by simp) (by simp [boundO]) h2' h3

theorem run_sliceBounds_open3 {b : Bool} {len cap m h l : Nat} {lo hi : Option AV} {mv : AV} (hc : len ≤ cap) (hhi : hi.isNone = false)
    (h1 : bound mv len = .ok m) (h2 : boundO hi m len = .ok h) (h3 : boundO lo h 0 = .ok l) :
    (Instr.sliceBounds b len cap (lo.map (conc ι)) (hi.map (conc ι)) (some (conc ι mv))).run P w = .ok (l, h, m) w := by
  have h1' : boundO (some mv) cap cap = .ok m := by
    simp only [boundO, bound, bind_ok] at h1 ⊢
    obtain ⟨⟨k, i⟩, hi, h1⟩ := h1
    refine ⟨(k, i), hi, ?_⟩
    split at h1
    · rw [if_pos (by omega)]; exact h1
    · simp at h1
  exact run_sliceBounds (mx := some mv) w (by simp [hhi]) h1' h2 h3

theorem at_add (L : Loc) (o n : Nat) : (L.at o).add n = L.at (o + n) := by
  unfold Addr.add Loc.at
  split
  · rename_i h; simp [h]
  · simp [Nat.add_assoc]

theorem extract_bytes (s : List UInt8) (l h : Nat) : (⟨⟨s⟩⟩ : ByteArray).extract l h = ⟨⟨(s.drop l).take (h - l)⟩⟩ := by
  apply ByteArray.ext
  simp [ByteArray.data_extract, List.extract_eq_take_drop]

include F
theorem run_sliceV {t : Nat} {x v : AV} {lo hi mx : Option AV} (h : sliceV D t x lo hi mx = .ok v) (hx : ids ι A x) :
    (Instr.sliceAt t (conc ι x) (lo.map (conc ι)) (hi.map (conc ι)) (mx.map (conc ι))).run P w = .ok (conc ι v) w ∧ ids ι A v := by
  simp only [sliceV, bind_ok] at h
  obtain ⟨d, hd, h⟩ := h
  split at h
  · -- string
    rename_i s
    split at h
    · simp at h
    · rename_i hmx
      have hmx' : mx = none := by cases mx <;> simp_all
      subst hmx'
      simp only [bind_ok, pure_ok] at h
      obtain ⟨hh, h2, l, h3, rfl⟩ := h
      have hb := run_sliceBounds (ι := ι) (P := P) (b := false) (mx := none) (cap := s.length) w (by simp) (by simp [boundO]) h2 h3
      refine ⟨?_, by simp [str, ids]⟩
      have e : (⟨⟨s⟩⟩ : ByteArray).size = s.length := rfl
      simp only [Instr.sliceAt, Sem.run_bind, run_und F w hd, Result.andThen_ok, Instr.slice, conc, e]
      simp only [Option.map_none] at hb ⊢
      simp [hb, str, conc, extract_bytes]
  · -- nil slice
    rename_i elem len cap
    split at h
    · simp at h
    · rename_i hmx
      simp only [bind_ok, pure_ok] at h
      obtain ⟨sz, hs, m, h1, hh, h2, l, h3, rfl⟩ := h
      have hb := run_sliceBounds (ι := ι) (P := P) (b := true) w (Bool.eq_false_iff.2 hmx) h1 h2 h3
      refine ⟨?_, by simp [ids]⟩
      simp only [Instr.sliceAt, Sem.run_bind, run_und F w hd, Result.andThen_ok, Instr.slice, conc, hb, run_size F w hs]
      simp
  · -- a slice whose capacity is known
    rename_i elem b o len cap sz
    split at h
    · simp at h
    · rename_i hmx
      simp only [bind_ok] at h
      obtain ⟨m, h1, hh, h2, l, h3, s, hs, h⟩ := h
      split at h
      · rename_i hsz
        simp at h; subst h
        have hb := run_sliceBounds (ι := ι) (P := P) (b := true) w (Bool.eq_false_iff.2 hmx) h1 h2 h3
        refine ⟨?_, by simpa [ids] using hx⟩
        simp only [Instr.sliceAt, Sem.run_bind, run_und F w hd, Result.andThen_ok, Instr.slice, conc, hb, run_size F w hs, Sem.run_pure]
        split
        · rfl
        · simp [at_add]
      · simp at h
  · -- an open slice
    rename_i elem b o len sz
    simp only [bind_ok] at h
    obtain ⟨s, hs, h⟩ := h
    split at h
    · rename_i hsz
      obtain ⟨rfl, hpos⟩ := hsz
      obtain ⟨hA, hL, _, hfit⟩ := hx
      have hlen : len ≤ (ι b).capz - o / (ι b).sz := by rw [hL]; omega
      split at h
      · rename_i mv
        split at h
        · simp at h
        · rename_i hhi
          simp only [bind_ok, pure_ok] at h
          obtain ⟨m, h1, hh, h2, l, h3, rfl⟩ := h
          have hb := run_sliceBounds_open3 (ι := ι) (P := P) (b := true) w hlen (Bool.eq_false_iff.2 hhi) h1 h2 h3
          refine ⟨?_, by simpa [ids] using hA⟩
          simp only [Option.map_some, Instr.sliceAt, Sem.run_bind, run_und F w hd, Result.andThen_ok, Instr.slice, conc, hb, run_size F w hs, Sem.run_pure]
          split
          · rfl
          · simp [at_add]
      · simp only [bind_ok] at h
        obtain ⟨hh, h2, l, h3, h⟩ := h
        have hb := run_sliceBounds_open (ι := ι) (P := P) (b := true) w hlen h2 h3
        have hle := boundO_le h2 (Nat.le_refl _)
        have hle' := boundO_le h3 (Nat.zero_le _)
        simp only [Option.map_none, Instr.sliceAt, Sem.run_bind, run_und F w hd, Result.andThen_ok, Instr.slice, conc, hb, run_size F w hs, Sem.run_pure]
        have hdiv : (o + l * s) / s = o / s + l := by rw [Nat.add_mul_div_right _ _ hpos]
        split at h
        · rename_i hl0
          simp at h; subst h; subst hl0
          refine ⟨?_, ⟨hA, hL, hpos, by omega⟩⟩
          simp only [conc, Nat.zero_mul]
          split
          · rename_i h0; simp [h0]
          · simp [at_add]
        · split at h
          · rename_i hl0 hl1
            simp at h; subst h
            refine ⟨?_, ⟨hA, hL, hpos, by rw [hdiv]; omega⟩⟩
            simp only [conc]
            rw [if_neg (by omega)]
            simp [at_add, hL, hdiv, Nat.sub_sub]
          · rename_i hl0 hl1
            simp at h; subst h
            have : l = len := by omega
            have : hh = len := by omega
            subst_vars
            refine ⟨?_, ⟨hA, rfl, hpos, by omega⟩⟩
            simp only [conc, Nat.sub_self]
            split
            · rename_i hz; simp [hz]
            · simp [at_add]
    · simp at h
  · -- an array's address
    rename_i n elem b o
    split at h
    · simp at h
    · rename_i hmx
      simp only [bind_ok, pure_ok] at h
      obtain ⟨m, h1, hh, h2, l, h3, s, hs, rfl⟩ := h
      have hb := run_sliceBounds (ι := ι) (P := P) (b := false) w (Bool.eq_false_iff.2 hmx) h1 h2 h3
      refine ⟨?_, by simpa [ids] using hx⟩
      simp only [Instr.sliceAt, Sem.run_bind, run_und F w hd, Result.andThen_ok, conc, Instr.sureAddr, hb, run_size F w hs, Sem.run_pure]
      split
      · rfl
      · simp [at_add]
  · simp at h

theorem run_indexAddr {t : Nat} {x ix v : AV} (h : indexAddr D t x ix = .ok v) (hx : ids ι A x) :
    (Instr.indexAt t (conc ι x) (conc ι ix)).run P w = .ok (conc ι v) w ∧ ids ι A v := by
  simp only [indexAddr, bind_ok] at h
  obtain ⟨⟨k, i⟩, hi, d, hd, h⟩ := h
  split at h
  · rename_i len elem b o
    simp only [bind_ok] at h
    obtain ⟨s, hs, h⟩ := h
    split at h
    · rename_i hc
      simp at h; subst h
      refine ⟨?_, by simpa [ids] using hx⟩
      simp [Instr.indexAt, run_asI (ι := ι) hi, asIntOf, run_und F w hd, conc, Instr.sureAddr, hc, run_size F w hs, at_add]
    · simp at h
  · rename_i elem b o len cap sz
    simp only [bind_ok] at h
    obtain ⟨s, hs, h⟩ := h
    split at h
    · rename_i hc
      simp at h; subst h
      obtain ⟨c, hcc⟩ := conc_slice ι b o len cap sz
      refine ⟨?_, by cases cap <;> simp [ids] at hx ⊢ <;> first | exact hx | exact hx.1⟩
      simp [Instr.indexAt, run_asI (ι := ι) hi, asIntOf, run_und F w hd, hcc, hc, run_size F w hs, at_add, conc]
    · simp at h
  · simp at h

theorem run_indexV {t : Nat} {x ix v : AV} (h : indexV D t x ix = .ok v) (hx : ids ι A x) :
    (Instr.index t (conc ι x) (conc ι ix)).run P w = .ok (conc ι v) w ∧ ids ι A v := by
  simp only [indexV, bind_ok] at h
  obtain ⟨⟨k, i⟩, hi, d, hd, h⟩ := h
  split at h
  · rename_i len elem cs
    simp only [bind_ok] at h
    obtain ⟨s, hs, h⟩ := h
    split at h
    · rename_i hc
      refine ⟨?_, part_ids h (by simpa [ids] using hx)⟩
      simp [Instr.index, run_asI (ι := ι) hi, asIntOf, run_und F w hd, conc, hc, run_size F w hs, run_part F (ι := ι) w h]
    · simp at h
  · rename_i s
    split at h
    · rename_i hc
      split at h
      · rename_i b hb
        simp at h; subst h
        refine ⟨?_, by simp [intV, ids]⟩
        have hlt : i.toNat < s.length := (List.getElem?_eq_some_iff.1 hb).1
        have e : (⟨⟨s⟩⟩ : ByteArray)[i.toNat]? = some b := by
          rw [getElem?_pos _ _ (by exact hlt)]
          exact congrArg some (List.getElem?_eq_some_iff.1 hb).2
        simp [Instr.index, run_asI (ι := ι) hi, asIntOf, run_und F w hd, conc, hc, e, intV]
      · simp at h
    · simp at h
  · simp at h

omit F in
theorem fieldOf_ok {t f : Nat} {fd : Field} (h : fieldOf D t f = .ok fd) : ∃ fields, und D t = .ok (.struct fields) ∧ fields[f]? = some fd := by
  simp only [fieldOf, bind_ok] at h
  obtain ⟨d, hd, h⟩ := h
  split at h
  · rename_i fields
    split at h
    · rename_i g hg
      simp at h; subst h
      exact ⟨fields, hd, by simpa using hg⟩
    · simp at h
  · simp at h

theorem run_fieldAddr {t f : Nat} {x v : AV} (h : fieldAddr D t x f = .ok v) (hx : ids ι A x) :
    (Instr.fieldAt t (conc ι x) f).run P w = .ok (conc ι v) w ∧ ids ι A v := by
  simp only [fieldAddr, bind_ok] at h
  obtain ⟨fd, hf, s, hs, h⟩ := h
  obtain ⟨fields, hu, hg⟩ := fieldOf_ok hf
  split at h
  · split at h
    · simp at h
    · rename_i b o hs0
      simp at h; subst h
      refine ⟨?_, by simpa [ids] using hx⟩
      simp [Instr.fieldAt, run_und F w hu, hg, conc, Instr.sureAddr, fieldPlace, run_size F w hs, hs0, at_add]
  · simp at h

theorem run_fieldV {t f : Nat} {x v : AV} (h : fieldV D t x f = .ok v) (hx : ids ι A x) :
    (Instr.field t (conc ι x) f).run P w = .ok (conc ι v) w ∧ ids ι A v := by
  simp only [fieldV, bind_ok] at h
  obtain ⟨fd, hf, h⟩ := h
  obtain ⟨fields, hu, hg⟩ := fieldOf_ok hf
  split at h
  · refine ⟨?_, part_ids h (by simpa [ids] using hx)⟩
    simp [Instr.field, run_und F w hu, hg, conc, asAgg, run_part F (ι := ι) w h]
  · simp at h

theorem run_typeAssert {x v : AV} {t xt : Nat} {ok : Bool} (h : typeAssert D x t ok = .ok v) (hx : ids ι A x) :
    (Instr.typeAssert (conc ι x) xt t ok).run P w = .ok (conc ι v) w ∧ ids ι A v := by
  simp only [typeAssert, bind_ok] at h
  obtain ⟨d, hd, h⟩ := h
  split at h
  · simp at h
  · rename_i hni
    have hni' : ∀ ms, d ≠ .interface ms := by rintro ms rfl; simp [isIfaceD] at hni
    split at h
    · rename_i u y
      split at h
      · rename_i hu
        subst hu
        simp at h; subst h
        refine ⟨?_, by cases ok <;> simp [ids, idsL, boolV] <;> simpa [ids] using hx⟩
        simp only [Instr.typeAssert, Sem.run_bind, run_und F w hd, Result.andThen_ok, conc]
        cases d <;> simp_all <;> cases ok <;> simp [conc, concL, boolV]
      · rename_i hu
        split at h
        · rename_i hok
          simp only [bind_ok, pure_ok] at h
          obtain ⟨z, hz, rfl⟩ := h
          refine ⟨?_, by simp [ids, idsL, boolV, zero_ids hz]⟩
          simp only [Instr.typeAssert, Sem.run_bind, run_und F w hd, Result.andThen_ok, conc]
          have e : ¬ u = t := hu
          cases d <;> simp_all [run_zero F (ι := ι) w hz, conc, concL, boolV]
        · simp at h
    · split at h
      · rename_i hok
        simp only [bind_ok, pure_ok] at h
        obtain ⟨z, hz, rfl⟩ := h
        refine ⟨?_, by simp [ids, idsL, boolV, zero_ids hz]⟩
        simp only [Instr.typeAssert, Sem.run_bind, run_und F w hd, Result.andThen_ok, conc]
        cases d <;> simp_all [run_zero F (ι := ι) w hz, conc, concL, boolV]
      · simp at h
    · simp at h

omit F in
theorem run_minMax {mx : Bool} : ∀ (l : List AV) (x v : AV), minMax mx x l = .ok v →
    ((concL ι l).foldlM (if mx then Builtin.max2 else Builtin.min2) (conc ι x)).run P w = .ok (conc ι v) w ∧ (ids ι A x → ids ι A v) := by
  intro l
  induction l with
  | nil => intro x v h; simp [minMax] at h; subst h; simp [concL]
  | cons y l ih =>
    intro x v h
    unfold minMax at h
    split at h
    · simp_all
    · rename_i k a k' b l' heq
      simp at heq
      obtain ⟨rfl, rfl⟩ := heq
      obtain ⟨h1, h2⟩ := ih _ _ h
      refine ⟨?_, fun _ => h2 (by simp [intV, ids])⟩
      simp only [concL, List.foldlM_cons, Sem.run_bind, conc]
      cases mx with
      | true => simpa [Builtin.max2, intV, conc] using h1
      | false => simpa [Builtin.min2, intV, conc] using h1
    · simp at h

theorem run_lenV {t : Nat} {x v : AV} {ts : Array TypeId} {ty : TypeId} (h : lenV D t x = .ok v) (ht : ts[0]? = some t) :
    (Builtin.len_ ts ty #[conc ι x]).run P w = .ok (conc ι v) w ∧ ids ι A v := by
  simp only [lenV, bind_ok] at h
  obtain ⟨d, hd, h⟩ := h
  split at h
  · simp at h; subst h
    refine ⟨?_, by simp [goI, ids]⟩
    rename_i l
    have e : (⟨⟨l⟩⟩ : ByteArray).size = l.length := rfl
    simp only [Builtin.len_, ht, conc, goI, goInt]
    simp [run_und F w hd, e]
  · simp at h; subst h
    refine ⟨?_, by simp [goI, ids]⟩
    simp [Builtin.len_, ht, run_und F w hd, conc, goI, goInt]
  · rename_i b o n cap sz
    simp at h; subst h
    refine ⟨?_, by simp [goI, ids]⟩
    obtain ⟨c, hc⟩ := conc_slice ι b o n cap sz
    simp [Builtin.len_, ht, run_und F w hd, hc, goI, goInt]
    simp [conc]
  · rename_i b o l sz
    simp at h; subst h
    refine ⟨?_, by simp [goI, ids]⟩
    obtain ⟨a, c, hc⟩ := conc_sliceZ ι b o l sz
    simp [Builtin.len_, ht, run_und F w hd, hc, goI, goInt]
    simp [conc]
  · simp at h; subst h
    refine ⟨?_, by simp [goI, ids]⟩
    simp [Builtin.len_, ht, run_und F w hd, conc, goI, goInt]
  · simp at h

theorem run_capV {t : Nat} {x v : AV} {ts : Array TypeId} {ty : TypeId} (h : capV D t x = .ok v) (ht : ts[0]? = some t) :
    (Builtin.cap_ ts ty #[conc ι x]).run P w = .ok (conc ι v) w ∧ ids ι A v := by
  simp only [capV, bind_ok] at h
  obtain ⟨d, hd, h⟩ := h
  split at h
  · simp at h; subst h
    refine ⟨?_, by simp [goI, ids]⟩
    simp [Builtin.cap_, ht, run_und F w hd, conc, goI, goInt]
  · rename_i b o n c sz
    simp at h; subst h
    refine ⟨?_, by simp [goI, ids]⟩
    simp [Builtin.cap_, ht, run_und F w hd, conc, goI, goInt]
  · simp at h; subst h
    refine ⟨?_, by simp [goI, ids]⟩
    simp [Builtin.cap_, ht, run_und F w hd, conc, goI, goInt]
  · simp at h
end
end Go.Dt
namespace Go.Dt
section
variable {D : Tab} {P : Program} (F : Fits D P) {ι : Nat → Loc} {A : Nat → Prop} (w : World)

theorem map_concL (ι : Nat → Loc) (e : Operand → AV) (l : List Operand) : l.map (fun x => conc ι (e x)) = concL ι (l.map e) := by
  simp [concL_eq]

theorem arr_map (ι : Nat → Loc) (e : Operand → AV) (l : Array Operand) : l.map (fun x => conc ι (e x)) = (concL ι (l.toList.map e)).toArray := by
  rw [← map_concL]
  apply Array.ext'
  simp

theorem eqOp_ids {op : BinOp} {t : TypeId} {x y v : AV} (h : eqOp D op t x y = .ok v) : ids ι A v := by
  unfold eqOp at h
  split at h
  · simp only [bind_ok, pure_ok] at h
    obtain ⟨b, hb, rfl⟩ := h
    simp [boolV, ids]
  · simp only [bind_ok, pure_ok] at h
    obtain ⟨b, hb, rfl⟩ := h
    simp [boolV, ids]
  · simp at h

theorem binOp_ids {op : BinOp} {t : TypeId} {x y v : AV} {c : Bool} (h : binOp D op t x y c = .ok v) : ids ι A v := by
  unfold binOp at h
  split at h
  · unfold intOp at h
    split at h <;> (try split at h) <;> (try split at h) <;> (try split at h) <;> simp at h <;> subst h <;> simp [intV, boolV, ids]
  · unfold strOp at h
    split at h <;> (try split at h) <;> simp at h <;> subst h <;> simp [str, boolV, ids]
  · split at h
    · exact eqOp_ids h
    · simp at h
  · split at h
    · exact eqOp_ids h
    · simp at h
  all_goals first
    | exact eqOp_ids h
    | (simp at h; done)

include F
theorem pureOp_run {e : Operand → AV} {o : Oper} {v : AV} (h : pureOp D e o.op = .ok v) (hid : ∀ x, x ∈ o.op.operands → ids ι A (e x)) :
    (Go.execOp (fun x => conc ι (e x)) o).run P w = .ok (.value (conc ι v)) w ∧ ids ι A v := by
  unfold Go.execOp
  generalize o.op = op at h hid
  unfold pureOp at h
  split at h
  · simp at h; subst h; exact ⟨by simp, hid _ (by simp [Op.operands])⟩
  · simp at h; subst h; exact ⟨by simp, hid _ (by simp [Op.operands])⟩
  · rename_i c a b
    simp only [bind_ok, pure_ok] at h
    obtain ⟨t, ht, rfl⟩ := h
    have hc : conc ι (e c) = .bool t := by
      unfold asB at ht
      split at ht
      · rename_i hh
        simp at ht
        simp [hh, conc, ht]
      · simp at ht
    have ha := hid a (by simp [Op.operands])
    have hb := hid b (by simp [Op.operands])
    cases t <;> simp [hc, asBool, ha, hb]
  · rename_i t parts
    have := run_build F (ι := ι) w h
    have e1 : (parts.map fun p => (p.1, conc ι (e p.2))) = ((parts.toList.map fun p => (p.1, e p.2)).map fun p => (p.1, conc ι p.2)).toArray := by
      apply Array.ext'; simp
    refine ⟨?_, ?_⟩
    · show (do let v ← Instr.build t (parts.map fun p => (p.1, conc ι (e p.2))); pure (Next.value v) : Sem Next).run P w = _
      simp only [Sem.run_bind, e1, this, Result.andThen_ok, Sem.run_pure]
    · simp only [build, bind_ok] at h
      obtain ⟨z, hz, d, hd, h⟩ := h
      have hp : ∀ p, p ∈ (parts.toList.map fun p => (p.1, e p.2)) → ids ι A p.2 := by
        intro p hp
        simp only [List.mem_map] at hp
        obtain ⟨q, hq, rfl⟩ := hp
        refine hid q.2 ?_
        simp only [Op.operands, List.mem_toArray, List.mem_map]
        exact ⟨q, hq, rfl⟩
      split at h
      · simp only [bind_ok, pure_ok] at h
        obtain ⟨ps, hps, cs, hcs, rfl⟩ := h
        exact fill_ids _ _ _ hcs (ids_cells (zero_ids hz A)) hp
      · simp only [bind_ok, pure_ok] at h
        obtain ⟨ps, hps, cs, hcs, rfl⟩ := h
        exact fill_ids _ _ _ hcs (ids_cells (zero_ids hz A)) hp
      · simp at h
  · rename_i x
    have hx := hid x (by simp [Op.operands])
    split at h <;> simp at h <;> subst h <;> rename_i heq <;> rw [heq] at hx <;> exact ⟨by simp [heq, conc], hx⟩
  · rename_i op t x y yt
    have := run_binOp F (ι := ι) w (ox := x) (oy := y) h
    refine ⟨?_, ?_⟩
    · simp only [Sem.run_bind] at this ⊢
      rw [this]; simp
    · exact binOp_ids h
  · rename_i op t x
    refine ⟨by simp [run_unOp (ι := ι) w h], ?_⟩
    unfold unOp at h
    split at h <;> simp at h <;> subst h <;> simp [intV, boolV, ids]
  · rename_i s d x
    refine ⟨by simp [run_convertV F (ι := ι) w h], ?_⟩
    simp only [convertV, bind_ok] at h
    obtain ⟨a, ha, b, hb, h⟩ := h
    split at h <;> simp at h <;> subst h <;> simp [intV, str, ids]
  · rename_i t x
    simp only [bind_ok] at h
    obtain ⟨d, hd, h⟩ := h
    split at h
    · simp at h
    · rename_i hni
      simp at h; subst h
      refine ⟨?_, by simpa [ids] using hid x (by simp [Op.operands])⟩
      simp only [Instr.makeInterface, Sem.run_bind, run_und F w hd, Result.andThen_ok]
      cases d <;> simp_all [isIfaceD, conc]
  · rename_i fn first captured
    simp at h; subst h
    refine ⟨by simp [Instr.makeFunc, conc, arr_map], ?_⟩
    simp only [ids]
    refine ⟨idsL_iff.2 fun v hv => ?_, idsL_iff.2 fun v hv => ?_⟩
    · simp only [List.mem_map] at hv
      obtain ⟨x, hx, rfl⟩ := hv
      exact hid x (by simp [Op.operands, Array.mem_toList_iff.1 hx])
    · simp only [List.mem_map] at hv
      obtain ⟨x, hx, rfl⟩ := hv
      exact hid x (by simp [Op.operands, Array.mem_toList_iff.1 hx])
  · rename_i t x lo hi mx
    have := run_sliceV F (A := A) (ι := ι) w h (hid x (by simp [Op.operands]))
    have em : ∀ (a : Option Operand), (a.map e).map (conc ι) = a.map fun x => conc ι (e x) := by intro a; cases a <;> rfl
    simp only [em] at this
    exact ⟨by simp [this.1], this.2⟩
  · rename_i t x f
    have := run_fieldAddr F (A := A) (ι := ι) w h (hid x (by simp [Op.operands]))
    exact ⟨by simp [this.1], this.2⟩
  · rename_i t x f
    have := run_fieldV F (A := A) (ι := ι) w h (hid x (by simp [Op.operands]))
    exact ⟨by simp [this.1], this.2⟩
  · rename_i t x ix
    have := run_indexAddr F (A := A) (ι := ι) w h (hid x (by simp [Op.operands]))
    exact ⟨by simp [this.1], this.2⟩
  · rename_i t x ix
    have := run_indexV F (A := A) (ι := ι) w h (hid x (by simp [Op.operands]))
    exact ⟨by simp [this.1], this.2⟩
  · rename_i x xt t ok
    have := run_typeAssert F (A := A) (ι := ι) (xt := xt) w h (hid x (by simp [Op.operands]))
    exact ⟨by simp [this.1], this.2⟩
  · rename_i t ix
    have hx := hid t (by simp [Op.operands])
    split at h
    · rename_i vs heq
      rw [heq] at hx
      split at h
      · rename_i y hy
        simp at h; subst h
        refine ⟨by simp [Instr.extract, heq, conc, hy], idsL_get (by simpa [ids] using hx) hy⟩
      · simp at h
    · simp at h
  · rename_i b args argTypes
    split at h
    · rename_i t ts x hts hxs
      have ht : argTypes[0]? = some t := by rw [← Array.getElem?_toList, hts]; rfl
      have hargs : args = #[x] := by apply Array.ext'; simpa using hxs
      subst hargs
      have := run_lenV F (A := A) (ι := ι) (ty := o.type) w h ht
      refine ⟨?_, this.2⟩
      simp [resolve, invoke, Go.builtin, this.1]
    · rename_i t ts x hts hxs
      have ht : argTypes[0]? = some t := by rw [← Array.getElem?_toList, hts]; rfl
      have hargs : args = #[x] := by apply Array.ext'; simpa using hxs
      subst hargs
      have := run_capV F (A := A) (ι := ι) (ty := o.type) w h ht
      refine ⟨?_, this.2⟩
      simp [resolve, invoke, Go.builtin, this.1]
    · rename_i x l hxs
      have hargs : args = (x :: l).toArray := by apply Array.ext'; simpa using hxs
      subst hargs
      have := run_minMax (P := P) (A := A) (ι := ι) w _ _ _ h
      refine ⟨?_, this.2 (hid x (by simp [Op.operands, Call.operands]))⟩
      have h1 := this.1
      rw [← map_concL] at h1
      simp only [Bool.false_eq_true, if_false] at h1
      simp [resolve, invoke, Go.builtin, Builtin.min_, h1]
    · rename_i x l hxs
      have hargs : args = (x :: l).toArray := by apply Array.ext'; simpa using hxs
      subst hargs
      have := run_minMax (P := P) (A := A) (ι := ι) w _ _ _ h
      refine ⟨?_, this.2 (hid x (by simp [Op.operands, Call.operands]))⟩
      have h1 := this.1
      rw [← map_concL] at h1
      simp only [if_true] at h1
      simp [resolve, invoke, Go.builtin, Builtin.max_, h1]
    · simp at h
  · simp at h
end
end Go.Dt
