/-
  The staged reading says no more than the plain one: operations. No statement of this seat stands here.
-/
import Derived.Test.YtolakgfoodndpaaGreatDoorDtLe
namespace Go.Dt

theorem nthL_eq : ∀ (l : List AV) (i : Nat), nthL l i = match l[i]? with | some v => .ok v | none => .error "load"
  | [], i => rfl
  | v :: l, 0 => rfl
  | v :: l, i + 1 => by
    have : nthL (v :: l) (i + 1) = nthL l i := rfl
    rw [this, nthL_eq l i]
    simp
theorem nthO_eq : ∀ (l : List AO) (i : Nat), nthO l i = (l[i]?).getD .gone
  | [], i => rfl
  | v :: l, 0 => rfl
  | v :: l, i + 1 => by
    have : nthO (v :: l) (i + 1) = nthO l i := rfl
    rw [this, nthO_eq l i]
    simp
theorem setO_eq : ∀ (l : List AO) (i : Nat) (o : AO), setO l i o = l.set i o
  | [], i, o => rfl
  | v :: l, 0, o => rfl
  | v :: l, i + 1, o => by
    have : setO (v :: l) (i + 1) o = v :: setO l i o := rfl
    rw [this, setO_eq l i]
    rfl
theorem lenL_eq : ∀ l : List AV, lenL l = l.length
  | [] => rfl
  | v :: l => by
    have : lenL (v :: l) = (lenL l).succ := rfl
    rw [this, lenL_eq l]
    rfl

theorem dropS_eq : ∀ (l : List AV) (o : Nat), dropS l o = l.drop o
  | [], o => by simp [dropS]
  | v :: l, 0 => rfl
  | v :: l, o + 1 => by
    have : dropS (v :: l) (o + 1) = dropS l o := rfl
    rw [this, dropS_eq l o]
    rfl
theorem grabS_eq : ∀ (l : List AV) (k : Nat), grabS l k = if k ≤ l.length then .ok (l.take k) else .error "takeN"
  | [], 0 => rfl
  | [], k + 1 => rfl
  | v :: l, 0 => rfl
  | v :: l, k + 1 => by
    have : grabS (v :: l) (k + 1) = match grabS l k with | .ok l => .ok (v :: l) | .error e => .error e := rfl
    rw [this, grabS_eq l k]
    by_cases h : k ≤ l.length <;> simp [h]
theorem grabAll_eq (l : List AV) (k : Nat) : grabAll l k = if k ≤ l.length then .ok (l.take k) else .error "takeN" := by
  unfold grabAll
  rw [beq_eq, lenL_eq, grabS_eq]
  by_cases h : l.length = k
  · subst h; simp
  · simp [h]
theorem takeS_eq (cs : List AV) (o k : Nat) : takeS cs o k = takeN cs o k := by
  unfold takeS takeN
  have hl : ((cs.drop o).take k).length = k ↔ k ≤ (cs.drop o).length := by rw [List.length_take]; omega
  rw [beq_eq, grabAll_eq, grabAll_eq, dropS_eq]
  by_cases ho : o = 0
  · subst ho
    simp only [List.drop_zero] at hl ⊢
    simp only [decide_true, cond_true, hl]
  · simp only [ho, decide_false, cond_false, hl]

theorem nth_getO {n b : Nat} {l : List AO} {M : MTree} (h : b < n) : nthO l (Nat.sub (Nat.sub n 1) b) = (⟨n, l, M⟩ : St).getO b := by
  rw [nthO_eq]
  unfold St.getO
  simp only [h, if_true]
  rfl

section
variable {D : Tab}

theorem intC_ok {op : BinOp} {g : IntKind → Int → Int → AV} (h : intC op = some g) (k : IntKind) (a b : Int) : intOp op k k a b = .ok (g k a b) := by
  cases op <;> simp [intC] at h <;> subst h <;> simp [intOp, wrapS_eq, ltI_eq, eqI_eq, intV, boolV]
  all_goals first | rfl | (by_cases e : a ≤ b <;> simp [e] <;> omega) | (by_cases e : b ≤ a <;> simp [e] <;> omega) | (by_cases e : a = b <;> simp [e])

theorem binC_le (op : BinOp) (t : Nat) (c : Bool) (x y : AV) : Le ((binC D op t c).run x y) (binOp D op t x y c) := by
  unfold binC
  split
  · rename_i g hg
    simp only
    split
    · split
      · split
        · split
          · rename_i k a _ _ k' b
            rw [same_eq]
            by_cases hk : k = k'
            · subst hk
              simp only [decide_true, cond_true]
              refine Le.of_eq ?_
              simp only [binOp]
              exact (intC_ok hg k a b).symm
            · simp only [hk, decide_false, cond_false]
              exact Le.error
          · exact Le.refl _
        · exact Le.refl _
      · exact Le.refl _
    · exact Le.refl _
  · exact Le.refl _

theorem unC_le (op : UnOp) (x : AV) : Le ((unC op).run x) (unOp op x) := by
  unfold unC
  split
  · simp only
    split
    · split
      · exact Le.refl _
      · exact Le.refl _
    · exact Le.refl _
  · exact Le.refl _

theorem fieldAddrC_le (t f : Nat) (x : AV) : Le ((fieldAddrC D t f).run x) (fieldAddr D t x f) := by
  unfold fieldAddrC
  split
  · rename_i fd hfd
    split
    · rename_i s hs
      rw [beq_eq]
      by_cases h0 : s = 0
      · simp only [h0, decide_true, cond_true]; exact Le.refl _
      · simp only [h0, decide_false, cond_false]
        split
        · refine Le.of_eq ?_
          simp [fieldAddr, hfd, hs, h0, bind, Except.bind, pure, Except.pure]
        · exact Le.error
    · exact Le.refl _
  · exact Le.refl _

theorem indexAddrC_le (t : Nat) (x ix : AV) : Le ((indexAddrC D t).run x ix) (indexAddr D t x ix) := by
  unfold indexAddrC
  split
  · rename_i d hd
    split
    · rename_i len elem
      split
      · rename_i s hs
        simp only
        split
        · split
          · split
            · split
              · rename_i b o _ _ k _ i
                rw [blt_eq]
                by_cases hi : i < len
                · simp only [hi, decide_true, cond_true]
                  refine Le.of_eq ?_
                  simp [indexAddr, asI, hd, hs, bind, Except.bind, pure, Except.pure, hi]
                · simp only [hi, decide_false, cond_false]; exact Le.error
              · exact Le.error
            · exact Le.refl _
          · exact Le.refl _
        · exact Le.refl _
      · exact Le.refl _
    · rename_i elem
      split
      · rename_i s hs
        simp only
        split
        · split
          · split
            · split
              · rename_i b o len cap sz _ _ k _ i
                rw [blt_eq]
                by_cases hi : i < len
                · simp only [hi, decide_true, cond_true]
                  refine Le.of_eq ?_
                  simp [indexAddr, asI, hd, hs, bind, Except.bind, pure, Except.pure, hi]
                · simp only [hi, decide_false, cond_false]; exact Le.error
              · exact Le.error
            · exact Le.refl _
          · exact Le.refl _
        · exact Le.refl _
      · exact Le.refl _
    · exact Le.refl _
  · exact Le.refl _

theorem loadC_le (t : Nat) (σ : St) (a : AV) : Le ((loadC D t).run σ a) (loadV D σ t a) := by
  unfold loadC
  split
  · rename_i d hd
    cases hagg : isAggD d with
    | true =>
      simp only [cond_true]
      split
      · rename_i k hk
        simp only
        split
        · rename_i b o
          obtain ⟨n, l, M⟩ := σ
          simp only
          rw [blt_eq]
          by_cases hb : b < n
          · simp only [hb, decide_true, cond_true]
            rw [nth_getO (M := M) hb]
            split
            · rename_i cs e ow sz hob
              have h1 : cellsOf ⟨n, l, M⟩ b = .ok cs := by simp [cellsOf, hb, hob]
              refine Le.of_eq ?_
              rw [takeS_eq]
              simp only [loadV, h1, hd, bind, Except.bind, hagg, if_true, hk]
              cases takeN cs o k <;> rfl
            · exact Le.error
          · simp only [hb, decide_false, cond_false]; exact Le.error
        · exact Le.error
      · exact Le.refl _
    | false =>
      simp only [cond_false]
      split
      · rename_i b o
        obtain ⟨n, l, M⟩ := σ
        simp only
        rw [blt_eq]
        by_cases hb : b < n
        · simp only [hb, decide_true, cond_true]
          rw [nth_getO (M := M) hb]
          split
          · rename_i cs e ow sz hob
            refine Le.of_eq ?_
            have h1 : cellsOf ⟨n, l, M⟩ b = .ok cs := by simp [cellsOf, hb, hob]
            simp only [loadV, h1, hd, bind, Except.bind, hagg, Bool.false_eq_true, if_false]
            rw [nthL_eq]
            rfl
          · exact Le.error
        · simp only [hb, decide_false, cond_false]; exact Le.error
      · exact Le.error
  · exact Le.refl _

theorem pureC_le {n : Nat} {T : RT} {L : List AV} (h : TR n T L) (op : Op) : Le ((pureC D n op).run T) (pureOp D (evalO D L) op) := by
  unfold pureC
  split
  · simp only [pureOp, h.ev]; exact Le.refl _
  · simp only [pureOp, h.ev]; exact Le.refl _
  · simp only [pureOp, h.ev]
    split
    · rename_i v hv
      split
      · rename_i t
        refine Le.of_eq ?_
        rw [hv]
        cases t <;> rfl
      · exact Le.error
    · exact Le.error
  · simp only [pureOp, h.ev]; exact binC_le _ _ _ _ _
  · simp only [pureOp, h.ev]; exact unC_le _ _
  · simp only [pureOp, h.ev]; exact fieldAddrC_le _ _ _
  · simp only [pureOp, h.ev]; exact indexAddrC_le _ _ _
  · simp only [pureOp, h.ev]
    split
    · rename_i vs hvs
      refine Le.of_eq ?_
      rw [hvs]
      rfl
    · exact Le.error
  · simp only [h.opds]; exact Le.refl _

theorem readC_le {n : Nat} {T : RT} {L : List AV} (h : TR n T L) (σ : St) (op : Op) : Le ((readC D n op).run σ T) (readOp D σ (evalO D L) op) := by
  unfold readC
  split
  · simp only [readOp, h.ev]; exact loadC_le _ _ _
  · simp only [h.opds]; exact Le.refl _

theorem setC_eq : ∀ (l : List AV) (i : Nat) (x : AV), setC l i x = if i < l.length then some (l.set i x) else none
  | [], i, x => rfl
  | v :: l, 0, x => rfl
  | v :: l, i + 1, x => by
    have : setC (v :: l) (i + 1) x = match setC l i x with | some l' => some (v :: l') | none => none := rfl
    rw [this, setC_eq l i x]
    by_cases hi : i < l.length <;> simp [hi]

theorem splice_one : ∀ (l : List AV) (i : Nat) (x : AV), i < l.length → splice l i [x] = l.set i x
  | [], i, x, h => by simp at h
  | v :: l, 0, x, _ => by simp [splice, overwrite]
  | v :: l, i + 1, x, h => by
    simp only [splice, List.set_cons_succ]
    rw [splice_one l i x (by simpa using h)]

theorem cells_one {x : AV} (h : x.oneCell = true) : x.cells = [x] := by
  cases x with
  | base v => cases v <;> simp_all [AV.oneCell, AV.cells]
  | _ => simp_all [AV.oneCell, AV.cells]

theorem storeC_le (t : Nat) (σ : St) (a x : AV) : Le ((storeC D t).run σ a x) (storeV D σ t a x) := by
  unfold storeC
  split
  · rename_i m hm
    rw [beq_eq]
    by_cases h1 : m = 1
    · simp only [h1, decide_true, cond_true]
      cases hx : x.oneCell with
      | false => simp only [cond_false]; exact Le.refl _
      | true =>
        simp only [cond_true]
        split
        · rename_i b o
          obtain ⟨n, l, M⟩ := σ
          simp only
          rw [blt_eq]
          by_cases hb : b < n
          · simp only [hb, decide_true, cond_true]
            rw [nth_getO (M := M) hb]
            split
            · rename_i cs e ow sz hob
              cases ow with
              | false => simp only [cond_false]; exact Le.error
              | true =>
                simp only [cond_true]
                rw [setC_eq]
                by_cases ho : o < cs.length
                · simp only [ho, if_true]
                  refine Le.of_eq ?_
                  have hle : o + 1 ≤ cs.length := ho
                  simp [storeV, hm, h1, cells_one hx, storeCells, hb, hob, hx, bind, Except.bind, splice_one _ _ _ ho, hle, setO_eq, St.set]
                · simp only [ho, if_false]; exact Le.error
            · exact Le.error
          · simp only [hb, decide_false, cond_false]; exact Le.error
        · exact Le.error
    · simp only [h1, decide_false, cond_false]; exact Le.refl _
  · exact Le.refl _

theorem argsC_eq {n : Nat} {T : RT} {L : List AV} (h : TR n T L) : ∀ l : List Operand, argsC D n l T = l.map (evalO D L)
  | [] => rfl
  | x :: l => by
    have : argsC D n (x :: l) T = (opd D n x).run T :: argsC D n l T := rfl
    rw [this, h.ev, argsC_eq h l]
    rfl

theorem enters_ext {f : FuncId} (h : enters D f = true) : D.ext f = none := by
  unfold enters at h
  split at h
  · cases h
  · assumption
theorem enters_ok {f : FuncId} (h : enters D f = true) (args : List AV) : callFn D f args = .ok (.enter f args) := by
  unfold enters at h
  split at h
  · cases h
  split at h
  · rename_i nx hnx
    unfold callFn at hnx ⊢
    split at hnx
    · split at hnx
      · simp at hnx
      · rename_i fn _ hn
        split at hnx
        · rename_i hb
          rw [if_neg hn, if_pos hb]
        · simp at hnx
    · simp at hnx
  · simp at h

theorem callC_le {n : Nat} {T : RT} {L : List AV} (h : TR n T L) (σ : St) (c : Call) : Le ((callC D n c).run σ T) (actOp D σ (evalO D L) (.call c)) := by
  unfold callC
  split
  · rename_i f hf
    split
    · rename_i g
      cases he : enters D g with
      | false => simp only [cond_false, h.opds]; exact Le.refl _
      | true =>
        simp only [cond_true]
        refine Le.of_eq ?_
        obtain ⟨callee, args, tys⟩ := c
        simp only at hf
        subst hf
        simp only [actOp, evalO, extOf, enters_ext he, callV, invokeT, List.append_nil, List.nil_append]
        rw [enters_ok he, argsC_eq h]
        rfl
    · simp only [h.opds]; exact Le.refl _
  · simp only [h.opds]; exact Le.refl _

theorem actC_le {n : Nat} {T : RT} {L : List AV} (h : TR n T L) (σ : St) (op : Op) : Le ((actC D n op).run σ T) (actOp D σ (evalO D L) op) := by
  unfold actC
  split
  · rename_i t a x
    simp only [actOp, h.ev]
    refine Le.step (storeC_le t σ (evalO D L a) (evalO D L x)) (fun e he => ⟨e, by rw [he]⟩) fun a ha => ?_
    rw [ha]
    exact Le.refl _
  · exact callC_le h σ _
  · simp only [h.opds]; exact Le.refl _

end
end Go.Dt
