/-
  Operations that ask nothing of memory, continued. No statement of this seat stands here.
-/
import Derived.Test.YtolakgfoodndpaaGreatDoorDtPop2
namespace Go.Dt
section
variable {D : Tab} {P : Program} (F : Fits D P) {ι : Nat → Loc} {A : Nat → Prop} (w : World)

theorem run_asI {x : AV} {k : IntKind} {i : Int} (h : asI x = .ok (k, i)) : conc ι x = .int k i := by
  unfold asI at h
  split at h <;> simp at h
  simp [conc, h]

theorem run_bound {x : AV} {y n : Nat} {code : BoundsCode} (h : bound x y = .ok n) :
    (Instr.sliceBound (conc ι x) y code).run P w = .ok n w ∧ n ≤ y := by
  simp only [bound, bind_ok] at h
  obtain ⟨⟨k, i⟩, hi, h⟩ := h
  split at h
  · rename_i hc
    simp at h
    simp only [Instr.sliceBound, run_asI (ι := ι) hi, asIntOf, Sem.run_bind, Sem.run_pure, Result.andThen_ok, Sem.run_ite]
    rw [if_pos hc]
    exact ⟨by simp [h], by omega⟩
  · simp at h

theorem boundO_le {x : Option AV} {y d n : Nat} (h : boundO x y d = .ok n) (hd : d ≤ y) : n ≤ y := by
  cases x with
  | none => simp [boundO] at h; omega
  | some v => exact (run_bound (P := default) (ι := fun _ => default) (code := .index) default h).2

theorem run_sliceBounds {b : Bool} {len cap m h l : Nat} {lo hi mx : Option AV}
    (hmx : (mx.isSome && hi.isNone) = false)
    (h1 : boundO mx cap cap = .ok m) (h2 : boundO hi m len = .ok h) (h3 : boundO lo h 0 = .ok l) :
    (Instr.sliceBounds b len cap (lo.map (conc ι)) (hi.map (conc ι)) (mx.map (conc ι))).run P w = .ok (l, h, m) w := by
  cases mx with
  | none =>
    simp [boundO] at h1; subst h1
    cases hi with
    | none =>
      simp [boundO] at h2; subst h2
      cases lo with
      | none => simp [boundO] at h3; subst h3; simp [Instr.sliceBounds]
      | some lv => simp only [boundO] at h3; simp [Instr.sliceBounds, (run_bound (ι := ι) w h3).1]
    | some hv =>
      simp only [boundO] at h2
      cases lo with
      | none => simp [boundO] at h3; subst h3; simp [Instr.sliceBounds, (run_bound (ι := ι) w h2).1]
      | some lv => simp only [boundO] at h3; simp [Instr.sliceBounds, (run_bound (ι := ι) w h2).1, (run_bound (ι := ι) w h3).1]
  | some mv =>
    simp only [boundO] at h1
    cases hi with
    | none => simp at hmx
    | some hv =>
      simp only [boundO] at h2
      cases lo with
      | none => simp [boundO] at h3; subst h3; simp [Instr.sliceBounds, (run_bound (ι := ι) w h1).1, (run_bound (ι := ι) w h2).1]
      | some lv => simp only [boundO] at h3; simp [Instr.sliceBounds, (run_bound (ι := ι) w h1).1, (run_bound (ι := ι) w h2).1, (run_bound (ι := ι) w h3).1]

/-- bounds within the length of an open slice are bounds within its capacity -/
theorem run_sliceBounds_open {b : Bool} {len cap h l : Nat} {lo hi : Option AV} (hc : len ≤ cap)
    (h2 : boundO hi len len = .ok h) (h3 : boundO lo h 0 = .ok l) :
    (Instr.sliceBounds b len cap (lo.map (conc ι)) (hi.map (conc ι)) none).run P w = .ok (l, h, cap) w := by
  have h2' : boundO hi cap len = .ok h := by
    cases hi with
    | none => simpa [boundO] using h2
    | some v =>
      simp only [boundO, bound, bind_ok] at h2 ⊢
      obtain ⟨⟨k, i⟩, hi, h2⟩ := h2
      refine ⟨(k, i), hi, ?_⟩
      split at h2
      · rename_i hcond
        rw [if_pos (by omega)]; exact h2
      · simp at h2
  exact run_sliceBounds (mx := none) w (by simp) (by simp [boundO]) h2' h3

theorem run_sliceBounds_open3 {b : Bool} {len cap m h l : Nat} {lo hi : Option AV} {mv : AV} (hc : len ≤ cap) (hhi : hi.isNone = false)
    (h1 : bound mv len = .ok m) (h2 : boundO hi m len = .ok h) (h3 : boundO lo h 0 = .ok l) :
    (Instr.sliceBounds b len cap (lo.map (conc ι)) (hi.map (conc ι)) (some (conc ι mv))).run P w = .ok (l, h, m) w := by
  have h1' : boundO (some mv) cap cap = .ok m := by
    simp only [boundO, bound, bind_ok] at h1 ⊢
    obtain ⟨⟨k, i⟩, hi, h1⟩ := h1
    refine ⟨(k, i), hi, ?_⟩
    split at h1
    · rw [if_pos (by omega)]; exact h1
    · simp at h1
  exact run_sliceBounds (mx := some mv) w (by simp [hhi]) h1' h2 h3

theorem at_add (L : Loc) (o n : Nat) : (L.at o).add n = L.at (o + n) := by
  unfold Addr.add Loc.at
  split
  · rename_i h; simp [h]
  · simp [Nat.add_assoc]

theorem extract_bytes (s : List UInt8) (l h : Nat) : (⟨⟨s⟩⟩ : ByteArray).extract l h = ⟨⟨(s.drop l).take (h - l)⟩⟩ := by
  apply ByteArray.ext
  simp [ByteArray.data_extract, List.extract_eq_take_drop]

include F
theorem run_sliceV {t : Nat} {x v : AV} {lo hi mx : Option AV} (h : sliceV D t x lo hi mx = .ok v) (hx : ids ι A x) :
    (Instr.sliceAt t (conc ι x) (lo.map (conc ι)) (hi.map (conc ι)) (mx.map (conc ι))).run P w = .ok (conc ι v) w ∧ ids ι A v := by
  simp only [sliceV, bind_ok] at h
  obtain ⟨d, hd, h⟩ := h
  split at h
  · -- string
    rename_i s
    split at h
    · simp at h
    · rename_i hmx
      have hmx' : mx = none := by cases mx <;> simp_all
      subst hmx'
      simp only [bind_ok, pure_ok] at h
      obtain ⟨hh, h2, l, h3, rfl⟩ := h
      have hb := run_sliceBounds (ι := ι) (P := P) (b := false) (mx := none) (cap := s.length) w (by simp) (by simp [boundO]) h2 h3
      refine ⟨?_, by simp [str, ids]⟩
      have e : (⟨⟨s⟩⟩ : ByteArray).size = s.length := rfl
      simp only [Instr.sliceAt, Sem.run_bind, run_und F w hd, Result.andThen_ok, Instr.slice, conc, e]
      simp only [Option.map_none] at hb ⊢
      simp [hb, str, conc, extract_bytes]
  · -- nil slice
    rename_i elem len cap
    split at h
    · simp at h
    · rename_i hmx
      simp only [bind_ok, pure_ok] at h
      obtain ⟨sz, hs, m, h1, hh, h2, l, h3, rfl⟩ := h
      have hb := run_sliceBounds (ι := ι) (P := P) (b := true) w (Bool.eq_false_iff.2 hmx) h1 h2 h3
      refine ⟨?_, by simp [ids]⟩
      simp only [Instr.sliceAt, Sem.run_bind, run_und F w hd, Result.andThen_ok, Instr.slice, conc, hb, run_size F w hs]
      simp
  · -- a slice whose capacity is known
    rename_i elem b o len cap sz
    split at h
    · simp at h
    · rename_i hmx
      simp only [bind_ok] at h
      obtain ⟨m, h1, hh, h2, l, h3, s, hs, h⟩ := h
      split at h
      · rename_i hsz
        simp at h; subst h
        have hb := run_sliceBounds (ι := ι) (P := P) (b := true) w (Bool.eq_false_iff.2 hmx) h1 h2 h3
        refine ⟨?_, by simpa [ids] using hx⟩
        simp only [Instr.sliceAt, Sem.run_bind, run_und F w hd, Result.andThen_ok, Instr.slice, conc, hb, run_size F w hs, Sem.run_pure]
        split
        · rfl
        · simp [at_add]
      · simp at h
  · -- an open slice
    rename_i elem b o len sz
    simp only [bind_ok] at h
    obtain ⟨s, hs, h⟩ := h
    split at h
    · rename_i hsz
      obtain ⟨rfl, hpos⟩ := hsz
      obtain ⟨hA, hL, _, hfit⟩ := hx
      have hlen : len ≤ (ι b).capz - o / (ι b).sz := by rw [hL]; omega
      split at h
      · rename_i mv
        split at h
        · simp at h
        · rename_i hhi
          simp only [bind_ok, pure_ok] at h
          obtain ⟨m, h1, hh, h2, l, h3, rfl⟩ := h
          have hb := run_sliceBounds_open3 (ι := ι) (P := P) (b := true) w hlen (Bool.eq_false_iff.2 hhi) h1 h2 h3
          refine ⟨?_, by simpa [ids] using hA⟩
          simp only [Option.map_some, Instr.sliceAt, Sem.run_bind, run_und F w hd, Result.andThen_ok, Instr.slice, conc, hb, run_size F w hs, Sem.run_pure]
          split
          · rfl
          · simp [at_add]
      · simp only [bind_ok, pure_ok] at h
        obtain ⟨hh, h2, l, h3, h⟩ := h
        have hb := run_sliceBounds_open (ι := ι) (P := P) (b := true) w hlen h2 h3
        have hle := boundO_le h2 (Nat.le_refl _)
        have hle' := boundO_le h3 (Nat.zero_le _)
        simp only [Option.map_none, Instr.sliceAt, Sem.run_bind, run_und F w hd, Result.andThen_ok, Instr.slice, conc, hb, run_size F w hs, Sem.run_pure]
        have hdiv : (o + l * s) / s = o / s + l := by rw [Nat.add_mul_div_right _ _ hpos]
        split at h
        · rename_i hl0
          simp at h; subst h; subst hl0
          refine ⟨?_, ⟨hA, hL, hpos, by omega⟩⟩
          simp only [conc, Nat.zero_mul]
          split
          · rename_i h0; simp [h0]
          · simp [at_add]
        · split at h
          · rename_i hl0 hl1
            simp at h; subst h
            refine ⟨?_, ⟨hA, hL, hpos, by rw [hdiv]; omega⟩⟩
            simp only [conc]
            rw [if_neg (by omega)]
            simp [at_add, hL, hdiv, Nat.sub_sub]
          · rename_i hl0 hl1
            simp at h; subst h
            have : l = len := by omega
            have : hh = len := by omega
            subst_vars
            refine ⟨?_, ⟨hA, rfl, hpos, by omega⟩⟩
            simp only [conc, Nat.sub_self]
            split
            · rename_i hz; simp [hz]
            · simp [at_add]
    · simp at h
  · -- an array's address
    rename_i n elem b o
    split at h
    · simp at h
    · rename_i hmx
      simp only [bind_ok, pure_ok] at h
      obtain ⟨m, h1, hh, h2, l, h3, s, hs, rfl⟩ := h
      have hb := run_sliceBounds (ι := ι) (P := P) (b := false) w (Bool.eq_false_iff.2 hmx) h1 h2 h3
      refine ⟨?_, by simpa [ids] using hx⟩
      simp only [Instr.sliceAt, Sem.run_bind, run_und F w hd, Result.andThen_ok, conc, Instr.sureAddr, hb, run_size F w hs, Sem.run_pure]
      split
      · rfl
      · simp [at_add]
  · simp at h

theorem run_indexAddr {t : Nat} {x ix v : AV} (h : indexAddr D t x ix = .ok v) (hx : ids ι A x) :
    (Instr.indexAt t (conc ι x) (conc ι ix)).run P w = .ok (conc ι v) w ∧ ids ι A v := by
  simp only [indexAddr, bind_ok] at h
  obtain ⟨⟨k, i⟩, hi, d, hd, h⟩ := h
  split at h
  · rename_i len elem b o
    simp only [bind_ok] at h
    obtain ⟨s, hs, h⟩ := h
    split at h
    · rename_i hc
      simp at h; subst h
      refine ⟨?_, by simpa [ids] using hx⟩
      simp [Instr.indexAt, run_asI (ι := ι) hi, asIntOf, run_und F w hd, conc, Instr.sureAddr, hc, run_size F w hs, at_add]
    · simp at h
  · rename_i elem b o len cap sz
    simp only [bind_ok] at h
    obtain ⟨s, hs, h⟩ := h
    split at h
    · rename_i hc
      simp at h; subst h
      obtain ⟨c, hcc⟩ := conc_slice ι b o len cap sz
      refine ⟨?_, by cases cap <;> simp [ids] at hx ⊢ <;> first | exact hx | exact hx.1⟩
      simp [Instr.indexAt, run_asI (ι := ι) hi, asIntOf, run_und F w hd, hcc, hc, run_size F w hs, at_add, conc]
    · simp at h
  · simp at h

theorem run_indexV {t : Nat} {x ix v : AV} (h : indexV D t x ix = .ok v) (hx : ids ι A x) :
    (Instr.index t (conc ι x) (conc ι ix)).run P w = .ok (conc ι v) w ∧ ids ι A v := by
  simp only [indexV, bind_ok] at h
  obtain ⟨⟨k, i⟩, hi, d, hd, h⟩ := h
  split at h
  · rename_i len elem cs
    simp only [bind_ok] at h
    obtain ⟨s, hs, h⟩ := h
    split at h
    · rename_i hc
      refine ⟨?_, part_ids h (by simpa [ids] using hx)⟩
      simp [Instr.index, run_asI (ι := ι) hi, asIntOf, run_und F w hd, conc, hc, run_size F w hs, run_part F (ι := ι) w h]
    · simp at h
  · rename_i s
    split at h
    · rename_i hc
      split at h
      · rename_i b hb
        simp at h; subst h
        refine ⟨?_, by simp [intV, ids]⟩
        have hlt : i.toNat < s.length := (List.getElem?_eq_some_iff.1 hb).1
        have e : (⟨⟨s⟩⟩ : ByteArray)[i.toNat]? = some b := by
          rw [getElem?_pos _ _ (by exact hlt)]
          exact congrArg some (List.getElem?_eq_some_iff.1 hb).2
        simp [Instr.index, run_asI (ι := ι) hi, asIntOf, run_und F w hd, conc, hc, e, intV]
      · simp at h
    · simp at h
  · simp at h

omit F in
theorem fieldOf_ok {t f : Nat} {fd : Field} (h : fieldOf D t f = .ok fd) : ∃ fields, und D t = .ok (.struct fields) ∧ fields[f]? = some fd := by
  simp only [fieldOf, bind_ok] at h
  obtain ⟨d, hd, h⟩ := h
  split at h
  · rename_i fields
    split at h
    · rename_i g hg
      simp at h; subst h
      exact ⟨fields, hd, by simpa using hg⟩
    · simp at h
  · simp at h

theorem run_fieldAddr {t f : Nat} {x v : AV} (h : fieldAddr D t x f = .ok v) (hx : ids ι A x) :
    (Instr.fieldAt t (conc ι x) f).run P w = .ok (conc ι v) w ∧ ids ι A v := by
  simp only [fieldAddr, bind_ok] at h
  obtain ⟨fd, hf, s, hs, h⟩ := h
  obtain ⟨fields, hu, hg⟩ := fieldOf_ok hf
  split at h
  · split at h
    · simp at h
    · rename_i b o hs0
      simp at h; subst h
      refine ⟨?_, by simpa [ids] using hx⟩
      simp [Instr.fieldAt, run_und F w hu, hg, conc, Instr.sureAddr, fieldPlace, run_size F w hs, hs0, at_add]
  · simp at h

theorem run_fieldV {t f : Nat} {x v : AV} (h : fieldV D t x f = .ok v) (hx : ids ι A x) :
    (Instr.field t (conc ι x) f).run P w = .ok (conc ι v) w ∧ ids ι A v := by
  simp only [fieldV, bind_ok] at h
  obtain ⟨fd, hf, h⟩ := h
  obtain ⟨fields, hu, hg⟩ := fieldOf_ok hf
  split at h
  · refine ⟨?_, part_ids h (by simpa [ids] using hx)⟩
    simp [Instr.field, run_und F w hu, hg, conc, asAgg, run_part F (ι := ι) w h]
  · simp at h

theorem run_typeAssert {x v : AV} {t xt : Nat} {ok : Bool} (h : typeAssert D x t ok = .ok v) (hx : ids ι A x) :
    (Instr.typeAssert (conc ι x) xt t ok).run P w = .ok (conc ι v) w ∧ ids ι A v := by
  simp only [typeAssert, bind_ok] at h
  obtain ⟨d, hd, h⟩ := h
  split at h
  · simp at h
  · rename_i hni
    have hni' : ∀ ms, d ≠ .interface ms := by rintro ms rfl; simp [isIfaceD] at hni
    split at h
    · rename_i u y
      split at h
      · rename_i hu
        subst hu
        simp at h; subst h
        refine ⟨?_, by cases ok <;> simp [ids, idsL, boolV] <;> simpa [ids] using hx⟩
        simp only [Instr.typeAssert, Sem.run_bind, run_und F w hd, Result.andThen_ok, conc]
        cases d <;> simp_all <;> cases ok <;> simp [conc, concL, boolV]
      · rename_i hu
        split at h
        · rename_i hok
          simp only [bind_ok, pure_ok] at h
          obtain ⟨z, hz, rfl⟩ := h
          refine ⟨?_, by simp [ids, idsL, boolV, zero_ids hz]⟩
          simp only [Instr.typeAssert, Sem.run_bind, run_und F w hd, Result.andThen_ok, conc]
          have e : ¬ u = t := hu
          cases d <;> simp_all [run_zero F (ι := ι) w hz, conc, concL, boolV]
        · simp at h
    · split at h
      · rename_i hok
        simp only [bind_ok, pure_ok] at h
        obtain ⟨z, hz, rfl⟩ := h
        refine ⟨?_, by simp [ids, idsL, boolV, zero_ids hz]⟩
        simp only [Instr.typeAssert, Sem.run_bind, run_und F w hd, Result.andThen_ok, conc]
        cases d <;> simp_all [run_zero F (ι := ι) w hz, conc, concL, boolV]
      · simp at h
    · simp at h

omit F in
theorem run_minMax {mx : Bool} : ∀ (l : List AV) (x v : AV), minMax mx x l = .ok v →
    ((concL ι l).foldlM (if mx then Builtin.max2 else Builtin.min2) (conc ι x)).run P w = .ok (conc ι v) w ∧ (ids ι A x → ids ι A v) := by
  intro l
  induction l with
  | nil => intro x v h; simp [minMax] at h; subst h; simp [concL]
  | cons y l ih =>
    intro x v h
    unfold minMax at h
    split at h
    · simp_all
    · rename_i k a k' b l' heq
      simp at heq
      obtain ⟨rfl, rfl⟩ := heq
      obtain ⟨h1, h2⟩ := ih _ _ h
      refine ⟨?_, fun _ => h2 (by simp [intV, ids])⟩
      simp only [concL, List.foldlM_cons, Sem.run_bind, conc]
      cases mx with
      | true => simpa [Builtin.max2, intV, conc] using h1
      | false => simpa [Builtin.min2, intV, conc] using h1
    · simp at h

theorem run_lenV {t : Nat} {x v : AV} {ts : Array TypeId} {ty : TypeId} (h : lenV D t x = .ok v) (ht : ts[0]? = some t) :
    (Builtin.len_ ts ty #[conc ι x]).run P w = .ok (conc ι v) w ∧ ids ι A v := by
  simp only [lenV, bind_ok] at h
  obtain ⟨d, hd, h⟩ := h
  split at h
  · simp at h; subst h
    refine ⟨?_, by simp [goI, ids]⟩
    rename_i l
    have e : (⟨⟨l⟩⟩ : ByteArray).size = l.length := rfl
    simp only [Builtin.len_, ht, Sem.run_bind, run_und F w hd, conc, Result.andThen_ok, goI, goInt, e]
    simp [run_und F w hd, e]
  · simp at h; subst h
    refine ⟨?_, by simp [goI, ids]⟩
    simp [Builtin.len_, ht, run_und F w hd, conc, goI, goInt]
  · rename_i b o n cap sz
    simp at h; subst h
    refine ⟨?_, by simp [goI, ids]⟩
    obtain ⟨c, hc⟩ := conc_slice ι b o n cap sz
    simp [Builtin.len_, ht, run_und F w hd, hc, goI, goInt]
    simp [conc]
  · rename_i b o l sz
    simp at h; subst h
    refine ⟨?_, by simp [goI, ids]⟩
    obtain ⟨a, c, hc⟩ := conc_sliceZ ι b o l sz
    simp [Builtin.len_, ht, run_und F w hd, hc, goI, goInt]
    simp [conc]
  · simp at h; subst h
    refine ⟨?_, by simp [goI, ids]⟩
    simp [Builtin.len_, ht, run_und F w hd, conc, goI, goInt]
  · simp at h
end
end Go.Dt
