/-
  What the deterministic reading's values stand for. No statement of this seat stands here.
-/
import Derived.Test.YtolakgfoodndpaaGreatDoorDtRun
namespace Go.Dt

structure Loc where
  block : Nat
  shift : Nat
  capz : Nat
  sz : Nat
  deriving Inhabited

def Loc.at (L : Loc) (o : Nat) : Addr := ⟨L.block, L.shift + o, none⟩

mutual
def conc (ι : Nat → Loc) : AV → Value
  | .base v => v
  | .ptr b o => .pointer (some ((ι b).at o))
  | .slice b o len (some c) _ => .slice (some ((ι b).at o)) len c
  | .slice b o len none _ => .slice (some ((ι b).at o)) len ((ι b).capz - o / (ι b).sz)
  | .sliceZ b o l _ =>
    if (ι b).capz - o / (ι b).sz = l then .slice (some ((ι b).at o)) 0 0
    else .slice (some ((ι b).at (o + l * (ι b).sz))) 0 ((ι b).capz - o / (ι b).sz - l)
  | .mapv b => .map (some (ι b).block)
  | .func fn a c => .func fn (concL ι a).toArray (concL ι c).toArray
  | .yield l => .func (.yield (ι l).block) #[] #[]
  | .iface t v => .iface t (conc ι v)
  | .agg cs => .agg (concL ι cs).toArray
  | .tuple vs => .tuple (concL ι vs).toArray
def concL (ι : Nat → Loc) : List AV → List Value
  | [] => []
  | v :: l => conc ι v :: concL ι l
end

theorem concL_eq (ι : Nat → Loc) (l : List AV) : concL ι l = l.map (conc ι) := by
  induction l with
  | nil => simp [concL]
  | cons v l ih => simp [concL, ih]

/- the blocks of a value all lie in a set, and slices of open blocks fit them -/
mutual
def ids (ι : Nat → Loc) (A : Nat → Prop) : AV → Prop
  | .base _ => True
  | .ptr b _ => A b
  | .slice b _ _ (some _) _ => A b
  | .slice b o len none sz => A b ∧ (ι b).sz = sz ∧ 0 < sz ∧ o / sz + len ≤ (ι b).capz
  | .sliceZ b o l sz => A b ∧ (ι b).sz = sz ∧ 0 < sz ∧ o / sz + l ≤ (ι b).capz
  | .mapv b => A b
  | .func _ a c => idsL ι A a ∧ idsL ι A c
  | .yield l => A l
  | .iface _ v => ids ι A v
  | .agg cs => idsL ι A cs
  | .tuple vs => idsL ι A vs
def idsL (ι : Nat → Loc) (A : Nat → Prop) : List AV → Prop
  | [] => True
  | v :: l => ids ι A v ∧ idsL ι A l
end

theorem idsL_iff {ι : Nat → Loc} {A : Nat → Prop} {l : List AV} : idsL ι A l ↔ ∀ v, v ∈ l → ids ι A v := by
  induction l with
  | nil => simp [idsL]
  | cons v l ih => simp [idsL, ih]

mutual
theorem ids_mono {ι ι' : Nat → Loc} {A B : Nat → Prop} (h : ∀ b, A b → B b ∧ ι' b = ι b) : ∀ (v : AV), ids ι A v → ids ι' B v
  | .base _, _ => trivial
  | .ptr b _, k => (h b k).1
  | .slice b _ _ (some _) _, k => (h b k).1
  | .slice b _ _ none _, k => ⟨(h b k.1).1, by rw [(h b k.1).2]; exact k.2⟩
  | .sliceZ b _ _ _, k => ⟨(h b k.1).1, by rw [(h b k.1).2]; exact k.2⟩
  | .mapv b, k => (h b k).1
  | .func _ a c, k => ⟨idsL_mono h a k.1, idsL_mono h c k.2⟩
  | .yield l, k => (h l k).1
  | .iface _ v, k => ids_mono h v k
  | .agg cs, k => idsL_mono h cs k
  | .tuple vs, k => idsL_mono h vs k
theorem idsL_mono {ι ι' : Nat → Loc} {A B : Nat → Prop} (h : ∀ b, A b → B b ∧ ι' b = ι b) : ∀ (l : List AV), idsL ι A l → idsL ι' B l
  | [], _ => trivial
  | v :: l, k => ⟨ids_mono h v k.1, idsL_mono h l k.2⟩
end

mutual
theorem conc_agree {ι ι' : Nat → Loc} {A : Nat → Prop} (h : ∀ b, A b → ι' b = ι b) : ∀ (v : AV), ids ι A v → conc ι' v = conc ι v
  | .base _, _ => by simp [conc]
  | .ptr b _, k => by simp [conc, h b k]
  | .slice b _ _ (some _) _, k => by simp [conc, h b k]
  | .slice b _ _ none _, k => by simp [conc, h b k.1]
  | .sliceZ b _ _ _, k => by simp [conc, h b k.1]
  | .mapv b, k => by simp [conc, h b k]
  | .func _ a c, k => by simp [conc, concL_agree h a k.1, concL_agree h c k.2]
  | .yield l, k => by simp [conc, h l k]
  | .iface _ v, k => by simp [conc, conc_agree h v k]
  | .agg cs, k => by simp [conc, concL_agree h cs k]
  | .tuple vs, k => by simp [conc, concL_agree h vs k]
theorem concL_agree {ι ι' : Nat → Loc} {A : Nat → Prop} (h : ∀ b, A b → ι' b = ι b) : ∀ (l : List AV), idsL ι A l → concL ι' l = concL ι l
  | [], _ => by simp [concL]
  | v :: l, k => by simp [concL, conc_agree h v k.1, concL_agree h l k.2]
end

theorem map_base (ι : Nat → Loc) (l : List Value) : concL ι (l.map .base) = l := by
  induction l with
  | nil => simp [concL]
  | cons v l ih => simp [concL, conc, ih]

theorem conc_ofConst1 (ι : Nat → Loc) (v : Value) : conc ι (ofConst1 v) = v := by
  cases v <;> simp [ofConst1, conc, map_base]

theorem concL_ofConst1 (ι : Nat → Loc) (l : List Value) : concL ι (l.map ofConst1) = l := by
  induction l with
  | nil => simp [concL]
  | cons v l ih => simp [concL, conc_ofConst1, ih]

@[simp] theorem conc_ofConst (ι : Nat → Loc) (v : Value) : conc ι (ofConst v) = v := by
  cases v <;> simp [ofConst, conc, map_base, concL_ofConst1]

theorem idsL_base (ι : Nat → Loc) (A : Nat → Prop) (l : List Value) : idsL ι A (l.map .base) := by
  induction l with
  | nil => trivial
  | cons v l ih => exact ⟨trivial, ih⟩
theorem ids_ofConst1 (ι : Nat → Loc) (A : Nat → Prop) (v : Value) : ids ι A (ofConst1 v) := by
  cases v <;> simp [ofConst1, ids, idsL_base]
theorem idsL_ofConst1 (ι : Nat → Loc) (A : Nat → Prop) (l : List Value) : idsL ι A (l.map ofConst1) := by
  induction l with
  | nil => trivial
  | cons v l ih => exact ⟨ids_ofConst1 ι A v, ih⟩
theorem ids_ofConst (ι : Nat → Loc) (A : Nat → Prop) (v : Value) : ids ι A (ofConst v) := by
  cases v <;> simp [ofConst, ids, idsL_base, idsL_ofConst1]

@[simp] theorem conc_undef (ι : Nat → Loc) : conc ι .undef = undef := by simp [AV.undef, conc, concL, undef]
theorem ids_undef (ι : Nat → Loc) (A : Nat → Prop) : ids ι A .undef := by simp [AV.undef, ids, idsL]

@[simp] theorem bind_ok {α β : Type} {x : R α} {f : α → R β} {b : β} : (x >>= f) = .ok b ↔ ∃ a, x = .ok a ∧ f a = .ok b := by
  cases x with
  | error e => simp [bind, Except.bind]
  | ok a => simp [bind, Except.bind]
@[simp] theorem pure_ok {α : Type} {a b : α} : (pure a : R α) = .ok b ↔ a = b := by simp [pure, Except.pure]

theorem conc_oneCell {ι : Nat → Loc} {v : AV} (h : v.oneCell = true) : ∀ cs, conc ι v ≠ .agg cs ∧ conc ι v ≠ .tuple cs := by
  intro cs
  cases v with
  | base v => cases v <;> simp_all [AV.oneCell, conc]
  | slice b o len cap sz => cases cap <;> simp [conc]
  | sliceZ b o l s => simp only [conc]; split <;> simp
  | _ => simp_all [AV.oneCell, conc]

theorem conc_slice (ι : Nat → Loc) (b o len : Nat) (cap : Option Nat) (sz : Nat) :
    ∃ c, conc ι (.slice b o len cap sz) = .slice (some ((ι b).at o)) len c := by
  cases cap with
  | none => exact ⟨(ι b).capz - o / (ι b).sz, by simp only [conc]⟩
  | some c => exact ⟨c, by simp only [conc]⟩
theorem conc_sliceZ (ι : Nat → Loc) (b o l sz : Nat) : ∃ a c, conc ι (.sliceZ b o l sz) = .slice (some a) 0 c := by
  simp only [conc]
  split
  · exact ⟨_, _, rfl⟩
  · exact ⟨_, _, rfl⟩

/-- the cells of what is meant are what is meant of the cells -/
theorem conc_cells {ι : Nat → Loc} (v : AV) : (conc ι v).cells = (concL ι v.cells).toArray := by
  cases v with
  | base v => cases v <;> simp_all [conc, AV.cells, Value.cells, concL, map_base]
  | slice b o len cap sz => cases cap <;> simp [conc, Value.cells, AV.cells, concL]
  | sliceZ b o l s => simp only [conc, AV.cells, concL]; split <;> simp [Value.cells]
  | _ => simp [conc, AV.cells, Value.cells, concL]

theorem ids_cells {ι : Nat → Loc} {A : Nat → Prop} {v : AV} (h : ids ι A v) : idsL ι A v.cells := by
  cases v with
  | base v => cases v <;> simp [AV.cells, idsL, ids, idsL_base]
  | agg cs => simpa [AV.cells, ids] using h
  | _ => simpa [AV.cells, idsL] using h

@[simp] theorem concL_length (ι : Nat → Loc) (l : List AV) : (concL ι l).length = l.length := by simp [concL_eq]
@[simp] theorem concL_append (ι : Nat → Loc) (l m : List AV) : concL ι (l ++ m) = concL ι l ++ concL ι m := by simp [concL_eq]
@[simp] theorem concL_getElem? (ι : Nat → Loc) (l : List AV) (i : Nat) : (concL ι l)[i]? = (l[i]?).map (conc ι) := by simp [concL_eq]
@[simp] theorem concL_drop (ι : Nat → Loc) (l : List AV) (i : Nat) : concL ι (l.drop i) = (concL ι l).drop i := by simp [concL_eq]
@[simp] theorem concL_take (ι : Nat → Loc) (l : List AV) (i : Nat) : concL ι (l.take i) = (concL ι l).take i := by simp [concL_eq]
theorem idsL_get {ι : Nat → Loc} {A : Nat → Prop} {l : List AV} {i : Nat} {v : AV} (h : idsL ι A l) (hv : l[i]? = some v) : ids ι A v :=
  idsL_iff.1 h v (List.mem_of_getElem? hv)
theorem idsL_drop {ι : Nat → Loc} {A : Nat → Prop} {l : List AV} (h : idsL ι A l) (i : Nat) : idsL ι A (l.drop i) :=
  idsL_iff.2 fun v hv => idsL_iff.1 h v (List.mem_of_mem_drop hv)
theorem idsL_take {ι : Nat → Loc} {A : Nat → Prop} {l : List AV} (h : idsL ι A l) (i : Nat) : idsL ι A (l.take i) :=
  idsL_iff.2 fun v hv => idsL_iff.1 h v (List.mem_of_mem_take hv)
theorem idsL_append {ι : Nat → Loc} {A : Nat → Prop} {l m : List AV} : idsL ι A (l ++ m) ↔ idsL ι A l ∧ idsL ι A m := by
  simp [idsL_iff, or_imp, forall_and]
theorem idsL_set {ι : Nat → Loc} {A : Nat → Prop} {l : List AV} {v : AV} (h : idsL ι A l) (hv : ids ι A v) (i : Nat) : idsL ι A (l.set i v) :=
  idsL_iff.2 fun x hx => by
    rcases List.mem_or_eq_of_mem_set hx with h1 | h1
    · exact idsL_iff.1 h x h1
    · exact h1 ▸ hv

end Go.Dt
