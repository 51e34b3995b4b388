/-
  A part of the proof. No statement of this seat stands here.
-/
import Derived.Test.YtkpkmjanikkpoaaGreatDoorP20
namespace Go.Dt
theorem DpL.split {σ : St} {lo hi : Nat} : ∀ {a b : List Tt} {l : List AV}, DpL σ lo hi (a ++ b) l → ∃ l1 l2, l = l1 ++ l2 ∧ DpL σ lo hi a l1 ∧ DpL σ lo hi b l2
  | [], b, l, h => ⟨[], l, rfl, by simp only [DpL], h⟩
  | t :: a, b, l, h => by
    rw [List.cons_append, DpL] at h
    obtain ⟨x, r, rfl, h1, h2⟩ := h
    obtain ⟨l1, l2, rfl, h3, h4⟩ := DpL.split h2
    refine ⟨x :: l1, l2, rfl, ?_, h4⟩
    rw [DpL]
    exact ⟨x, l1, rfl, h1, h3⟩
end Go.Dt
namespace Go.Proofs.YtkpkmjanikkpoaaGreatDoor
open Go Go.Dt
set_option maxRecDepth 100000

theorem rows_of {σ : St} {lo hi : Nat} : ∀ {qs : List (Nat × Int)} {l : List AV}, DpL σ lo hi (qs.flatMap fun p => x0 p.1 p.2) l → ∃ rows, l = rows.flatten ∧ RowsQ x0 σ lo hi rows qs
  | [], l, h => by
    simp only [List.flatMap_nil, DpL] at h
    exact ⟨[], h, trivial⟩
  | q :: qs, l, h => by
    rw [List.flatMap_cons] at h
    obtain ⟨l1, l2, rfl, h1, h2⟩ := h.split
    obtain ⟨rows, rfl, h3⟩ := rows_of h2
    exact ⟨l1 :: rows, rfl, h1, h3⟩
theorem ql_of {σ : St} {lo hi : Nat} (hn : hi ≤ σ.n) : ∀ {qs : List (Nat × Int)} {qv : AV}, Dp σ lo hi (qT qs) qv → QL x0 σ lo hi qv qs
  | [], qv, h => by
    rw [qT, N, Dp] at h
    exact ⟨.inl ⟨h, rfl⟩⟩
  | q :: qs, qv, h => by
    rw [qT, Dp] at h
    obtain ⟨b, l, rfl, h1, h2, h3, h4, h5⟩ := h
    obtain ⟨rows, rfl, h6⟩ := rows_of h5
    exact ⟨.inr ⟨b, none, rows, [], rfl, h1, h2, ⟨by omega, by simpa using h3⟩, h6⟩⟩

/- the queries -/
theorem chQ_len (j : Nat) : ∀ n, (chQ j n).length = n
  | 0 => rfl
  | n + 1 => by rw [chQ, List.length_append, chQ_len j n]; rfl
theorem chQ_mem (j : Nat) : ∀ n, ∀ q ∈ chQ j n, q.1 < 6 ∧ 1 ≤ q.2 ∧ q.2 ≤ (n : Int)
  | 0, q, h => by simp [chQ] at h
  | n + 1, q, h => by
    rw [chQ] at h
    rcases List.mem_append.1 h with h | h
    · have := chQ_mem j n q h
      exact ⟨this.1, this.2.1, by omega⟩
    · rw [List.mem_singleton.1 h]
      exact ⟨Nat.mod_lt _ (by omega), by simp only; omega, by simp only; omega⟩
theorem chQ_nd (j : Nat) : ∀ n, ((chQ j n).map (·.2)).Nodup
  | 0 => by simp [chQ]
  | n + 1 => by
    rw [chQ, List.map_append, List.nodup_append]
    refine ⟨chQ_nd j n, by simp, ?_⟩
    intro a ha b hb
    obtain ⟨q, hq, rfl⟩ := List.mem_map.1 ha
    have h1 := (chQ_mem j n q hq).2.2
    simp only [List.map_cons, List.map_nil, List.mem_singleton] at hb
    subst hb
    intro h
    rw [h] at h1
    omega
theorem chQ_numb (j n : Nat) (hn : n ≤ 4) : Numb (n : Int) (chQ j n) :=
  ⟨fun q hq => by have := chQ_mem j n q hq; exact ⟨this.1, this.2.1, by omega⟩, fun q hq => (chQ_mem j n q hq).2.2, chQ_nd j n⟩
theorem cut_numb {had : Int} {qs : List (Nat × Int)} (h : Numb had qs) {p : Nat} {q : Nat × Int} (hq : qs[p]? = some q) : Numb had (cut p qs ++ [q]) := by
  have hp : p < qs.length := (List.getElem?_eq_some_iff.1 hq).1
  have hs : qs = qs.take p ++ (q :: qs.drop (p + 1)) := by
    have h1 := (List.take_append_drop p qs).symm
    have h2 : qs.drop p = q :: qs.drop (p + 1) := by
      rw [List.drop_eq_getElem_cons hp]
      congr 1
      rw [List.getElem?_eq_getElem hp] at hq
      exact Option.some.inj hq
    rw [h2] at h1
    exact h1
  have hm : ∀ x ∈ cut p qs ++ [q], x ∈ qs := by
    intro x hx
    rcases List.mem_append.1 hx with hx | hx
    · rcases List.mem_append.1 hx with hx | hx
      · exact List.mem_of_mem_take hx
      · exact List.mem_of_mem_drop hx
    · rw [List.mem_singleton.1 hx]; exact List.mem_of_getElem? hq
  refine ⟨fun x hx => h.ok x (hm x hx), fun x hx => h.le x (hm x hx), ?_⟩
  have hnd := h.nd
  rw [hs, List.map_append, List.map_cons] at hnd
  rw [cut, List.append_assoc, List.map_append, List.map_append]
  have hperm : ((qs.take p).map (·.2) ++ ((qs.drop (p + 1)).map (·.2) ++ [q].map (·.2))).Perm ((qs.take p).map (·.2) ++ (q.2 :: (qs.drop (p + 1)).map (·.2))) :=
    List.Perm.append_left _ List.perm_append_comm
  exact hperm.nodup_iff.2 hnd
theorem cut_get {qs : List (Nat × Int)} {p i : Nat} {q : Nat × Int} (hp : p < qs.length) (hi : i < qs.length) (hne : i ≠ p) : (cut p qs ++ [q])[if i < p then i else i - 1]? = qs[i]? := by
  have hl := cut_len p qs hp
  by_cases h : i < p
  · rw [if_pos h, List.getElem?_append_left (by omega), cut, List.getElem?_append_left (by rw [List.length_take]; omega), List.getElem?_take, if_pos h]
  · rw [if_neg h, List.getElem?_append_left (by omega), cut, List.getElem?_append_right (by rw [List.length_take]; omega), List.length_take, List.getElem?_drop]
    congr 1; omega

/- the items -/
def itm (ns : List Int) : List Int := (ns.take 8).map fun c => 1 + c % 99
theorem itm_len (ns : List Int) : (itm ns).length = min 8 ns.length := by rw [itm, List.length_map, List.length_take]
theorem itm_ok (ns : List Int) : ∀ c ∈ itm ns, okC c := by
  intro c hc
  obtain ⟨n, _, rfl⟩ := List.mem_map.1 hc
  have h0 := Int.emod_nonneg n (b := 99) (by omega)
  have h1 := Int.emod_lt_of_pos n (b := 99) (by omega)
  exact ⟨by omega, by omega⟩
theorem itm_get {ns : List Int} {i : Nat} {n : Int} (h : ns[i]? = some n) (h8 : i < 8) : (itm ns)[i]? = some (1 + n % 99) := by
  rw [itm, List.getElem?_map, List.getElem?_take, if_pos h8, h]; rfl
theorem build48 (c : Int) : Dt.build tab 48 [(0, intV .i64 2), (1, intV .i64 1), (5, intV .i64 18), (6, intV .i64 c)] = .ok (.agg (itV c)) := by kernel_rfl

theorem loopB {rv nv a0 a1 a2 qv : AV} {ns : List Int} {had : Int} {b9 b10 lo : Nat} (hlo : b10 + 2 ≤ lo) :
    ∀ (m i : Nat), i + m = (itm ns).length → ∀ (T : Rg) (S : St) (iv : AV), Inv S b9 b10 rv nv ns had qv → lo ≤ S.n → IV S lo S.n iv ((itm ns).take i) → RgA T a0 a1 a2 nv b9 b10 → T 16 = iv → T 17 = intV .i64 (i : Int) →
    ∃ T' S' iv', loopLim (dd tab W V 183 c3_1_1_1_1_1_1_1_1_0_1_0_0) T S = .ok (.exit 2 T' S') ∧ IV S' lo S'.n iv' (itm ns) ∧ RgA T' a0 a1 a2 nv b9 b10 ∧ T' 16 = iv' ∧ Up lo S S' := by
  have hl := itm_len ns
  intro m
  induction m with
  | zero =>
    intro i hm T S iv I hS hI R t16 t17
    have e := ec3_1_1_1_1_1_1_1_1_0_1_0_0 kOc T S
    rw [List.take_of_length_le (by omega)] at hI
    have fin : ∀ T1 : Rg, RgA T1 a0 a1 a2 nv b9 b10 → T1 16 = iv → denK tab W V 183 c3_1_1_1_1_1_1_1_1_0_1_0_0 kOc T S = .ok (.exit 2 T1 S) → ∃ T' S' iv', loopLim (dd tab W V 183 c3_1_1_1_1_1_1_1_1_0_1_0_0) T S = .ok (.exit 2 T' S') ∧ IV S' lo S'.n iv' (itm ns) ∧ RgA T' a0 a1 a2 nv b9 b10 ∧ T' 16 = iv' ∧ Up lo S S' :=
      fun T1 r1 r2 e1 => ⟨T1, S, iv, loop_exit (dd_of tab W V 183 e1), hI, r1, r2, (Gw.refl S).up _⟩
    by_cases h : i < ns.length
    · have d1 : decide ((i : Int) < (ns.length : Int)) = true := by simp; omega
      have d2 : decide ((i : Int) < 8) = false := by simp; omega
      simp (decide := true) only [mv_eq, g1_eq, g2_eq, g4_eq, bindR_val, condR_boolV, condT, condF, isBoolV_t, pickV_boolV, binOp_int, intOp_add, intOp_lss, kOc_nxt, kOc_exit, R.t3, t16, t17, I.nm.lenV, d1, d2] at e
      refine fin _ ?_ ?_ e
      · constructor <;> simp (decide := true) only [puts_cons, puts_nil, putE_ne, R.t0, R.t1, R.t2, R.t3, R.t9, R.t10, R.t11]
      · simp (decide := true) only [puts_cons, puts_nil, putE_ne, t16]
    · have d1 : decide ((i : Int) < (ns.length : Int)) = false := by simp; omega
      simp (decide := true) only [mv_eq, g1_eq, g2_eq, g4_eq, bindR_val, condR_boolV, condF, isBoolV_t, pickV_boolV, binOp_int, intOp_add, intOp_lss, kOc_nxt, kOc_exit, R.t3, t16, t17, I.nm.lenV, d1] at e
      refine fin _ ?_ ?_ e
      · constructor <;> simp (decide := true) only [puts_cons, puts_nil, putE_ne, R.t0, R.t1, R.t2, R.t3, R.t9, R.t10, R.t11]
      · simp (decide := true) only [puts_cons, puts_nil, putE_ne, t16]
  | succ m ih =>
    intro i hm T S iv I hS hI R t16 t17
    have h8 : i < 8 := by omega
    have hil : i < ns.length := by omega
    obtain ⟨n, hn⟩ : ∃ n, ns[i]? = some n := ⟨_, List.getElem?_eq_getElem hil⟩
    obtain ⟨p, q1, q2⟩ := I.nm.get hn
    have hc := itm_get hn h8
    have w7 := W7 n 99 (by omega) (by omega) S
    have h0 := Int.emod_nonneg n (b := 99) (by omega)
    have h1 := Int.emod_lt_of_pos n (b := 99) (by omega)
    have wc : IntKind.i64.wrap (1 + n % 99) = 1 + n % 99 := wrapI (by omega) (by omega)
    obtain ⟨c, hcc⟩ : ∃ c, c = 1 + n % 99 := ⟨_, rfl⟩
    rw [← hcc] at wc hc
    have hB := At.new S (.cells (itV c) 48 true 7)
    have gB := Gw.push S (.cells (itV c) 48 true 7)
    have hsrc : srcCells (S.push (.cells (itV c) 48 true 7)) 7 (.slice S.n 0 1 (some 1) 7) = .ok (itR [c], [c].length) :=
      IL.src (lo := 0) (hi := S.n + 1) ⟨.inr ⟨S.n, some 1, [], rfl, Nat.zero_le _, by omega, by simpa [itR] using hB⟩⟩
    obtain ⟨b2, s15, q1', q2', q3, q4, q5, q6⟩ := appI (WF.push I.wf _) ((hI.gw gB).le (Nat.le_refl _) (hi' := (S.push (.cells (itV c) 48 true 7)).n) (by rw [push_n]; omega)).ic hsrc (by simp) (by rw [List.length_take]; simp; omega) (Nat.le_refl _)
    rw [push_n] at q2' q4
    have ht : (itm ns).take (i + 1) = (itm ns).take i ++ [c] := by rw [List.take_add_one, hc]; rfl
    rw [← ht] at q1' q5
    have U15 : Up lo S s15 := (gB.up lo).trans q6
    have I15 := I.up U15 hlo
    have V15 : IV s15 lo s15.n (.slice b2 0 ((itm ns).take (i + 1)).length none 7) ((itm ns).take (i + 1)) := ⟨.inr ⟨b2, rfl, by omega, q3, q5⟩⟩
    have e := ec3_1_1_1_1_1_1_1_1_0_1_0_0 kOc T S
    have d1 : decide ((i : Int) < (ns.length : Int)) = true := by simp; omega
    have d2 : decide ((i : Int) < 8) = true := by simp; omega
    have w1 : IntKind.i64.wrap ((i : Int) + 1) = ((i + 1 : Nat) : Int) := by rw [wrapI (by omega) (by omega)]; omega
    simp (decide := true) only [mv_eq, g1_eq, g2_eq, g4_eq, bindR_val, retK_ret, condR_boolV, condT, isBoolV_t, pickV_boolV, binOp_int, intOp_add, intOp_lss, kOc_nxt, kOc_exit, R.t3, t16, t17, I.nm.lenV, d1, d2, q1, q2, w7, ← hcc, wc, build48, bs7, q1', w1] at e
    obtain ⟨T1, e1, R1, k16, k17⟩ : ∃ T1, denK tab W V 183 c3_1_1_1_1_1_1_1_1_0_1_0_0 kOc T S = .ok (.nxt T1 s15) ∧ RgA T1 a0 a1 a2 nv b9 b10 ∧ T1 16 = .slice b2 0 ((itm ns).take (i + 1)).length none 7 ∧ T1 17 = intV .i64 ((i + 1 : Nat) : Int) := by
      refine ⟨_, e, ?_, ?_, ?_⟩
      · constructor <;> simp (decide := true) only [puts_cons, puts_nil, putE_ne, R.t0, R.t1, R.t2, R.t3, R.t9, R.t10, R.t11]
      · simp (decide := true) only [puts_cons, puts_nil, putE_same, putE_ne]
      · simp (decide := true) only [puts_cons, puts_nil, putE_same]
    obtain ⟨T', S', iv', z1, z2, z3, z4, z5⟩ := ih (i + 1) (by omega) T1 s15 _ I15 (Nat.le_trans hS U15.n) V15 R1 k16 k17
    exact ⟨T', S', iv', loop_next (dd_of tab W V 183 e1) z1, z2, z3, z4, U15.trans z5⟩
end Go.Proofs.YtkpkmjanikkpoaaGreatDoor
namespace Go.Proofs.YtkpkmjanikkpoaaGreatDoor
open Go Go.Dt
set_option maxRecDepth 100000
theorem x3_1_1_1_1_1_1_1_1_1_1_1_1_0_0_0 {ρ : Type} (kk : Rg → St → R ρ) (T : Rg) (l : List St) (s : St) : drawK tab W V 183 o3_1_1_1_1_1_1_1_1_1_1_1_1_0_0 kk p3_1_1_1_1_1_1_1_1_1_1_1_1_0_0_0 l T s = stepK tab W V 183 o3_1_1_1_1_1_1_1_1_1_1_1_1_0_0 (PlanItem.mk 0 0 false) (drawK tab W V 183 o3_1_1_1_1_1_1_1_1_1_1_1_1_0_0 kk p3_1_1_1_1_1_1_1_1_1_1_1_1_0_0_1) l T s := drawK_cons _ _ _ _ _ _ _ _ _ _ _
theorem y3_1_1_1_1_1_1_1_1_1_1_1_1_0_0_0 {ρ : Type} (F : List St → Rg → St → R ρ) (T : Rg) (n0 s : St) : stepK tab W V 183 o3_1_1_1_1_1_1_1_1_1_1_1_1_0_0 (PlanItem.mk 0 0 false) F [n0] T s =
  bindR (.ok (T 21)) fun v0 => F [n0] (puts 183 T [(102, v0)]) s := by kernel_rfl
theorem x3_1_1_1_1_1_1_1_1_1_1_1_1_0_0_1 {ρ : Type} (kk : Rg → St → R ρ) (T : Rg) (l : List St) (s : St) : drawK tab W V 183 o3_1_1_1_1_1_1_1_1_1_1_1_1_0_0 kk p3_1_1_1_1_1_1_1_1_1_1_1_1_0_0_1 l T s = stepK tab W V 183 o3_1_1_1_1_1_1_1_1_1_1_1_1_0_0 (PlanItem.mk 1 0 false) (drawK tab W V 183 o3_1_1_1_1_1_1_1_1_1_1_1_1_0_0 kk p3_1_1_1_1_1_1_1_1_1_1_1_1_0_0_2) l T s := drawK_cons _ _ _ _ _ _ _ _ _ _ _
theorem y3_1_1_1_1_1_1_1_1_1_1_1_1_0_0_1 {ρ : Type} (F : List St → Rg → St → R ρ) (T : Rg) (n0 s : St) : stepK tab W V 183 o3_1_1_1_1_1_1_1_1_1_1_1_1_0_0 (PlanItem.mk 1 0 false) F [n0] T s =
  bindR (Dt.binOp tab .neq 39 (T 102) (intV .i64 0) true) fun v0 => F [n0] (puts 183 T [(103, v0)]) s := by kernel_rfl
theorem x3_1_1_1_1_1_1_1_1_1_1_1_1_0_0_2 {ρ : Type} (kk : Rg → St → R ρ) (T : Rg) (l : List St) (s : St) : drawK tab W V 183 o3_1_1_1_1_1_1_1_1_1_1_1_1_0_0 kk p3_1_1_1_1_1_1_1_1_1_1_1_1_0_0_2 l T s = stepK tab W V 183 o3_1_1_1_1_1_1_1_1_1_1_1_1_0_0 (PlanItem.mk 2 0 false) (drawK tab W V 183 o3_1_1_1_1_1_1_1_1_1_1_1_1_0_0 kk p3_1_1_1_1_1_1_1_1_1_1_1_1_0_0_3) l T s := drawK_cons _ _ _ _ _ _ _ _ _ _ _
theorem y3_1_1_1_1_1_1_1_1_1_1_1_1_0_0_2 {ρ : Type} (F : List St → Rg → St → R ρ) (T : Rg) (n0 s : St) : stepK tab W V 183 o3_1_1_1_1_1_1_1_1_1_1_1_1_0_0 (PlanItem.mk 2 0 false) F [n0] T s =
  bindR (.ok (T 103)) fun v0 => F [n0] (puts 183 T [(104, v0)]) s := by kernel_rfl
theorem x3_1_1_1_1_1_1_1_1_1_1_1_1_0_0_3 {ρ : Type} (kk : Rg → St → R ρ) (T : Rg) (l : List St) (s : St) : drawK tab W V 183 o3_1_1_1_1_1_1_1_1_1_1_1_1_0_0 kk p3_1_1_1_1_1_1_1_1_1_1_1_1_0_0_3 l T s = stepK tab W V 183 o3_1_1_1_1_1_1_1_1_1_1_1_1_0_0 (PlanItem.mk 3 0 false) (drawK tab W V 183 o3_1_1_1_1_1_1_1_1_1_1_1_1_0_0 kk p3_1_1_1_1_1_1_1_1_1_1_1_1_0_0_4) l T s := drawK_cons _ _ _ _ _ _ _ _ _ _ _
theorem y3_1_1_1_1_1_1_1_1_1_1_1_1_0_0_3 {ρ : Type} (F : List St → Rg → St → R ρ) (T : Rg) (n0 s : St) : stepK tab W V 183 o3_1_1_1_1_1_1_1_1_1_1_1_1_0_0 (PlanItem.mk 3 0 false) F [n0] T s =
  boolM (isBoolV (T 104) false) (bindR (fieldAddr tab 29 (T 20) 3) fun v0 => F [n0] (puts 183 T [(105, v0)]) s) (F [n0] (puts 183 T [(105, AV.undef)]) s) := by kernel_rfl
theorem x3_1_1_1_1_1_1_1_1_1_1_1_1_0_0_4 {ρ : Type} (kk : Rg → St → R ρ) (T : Rg) (l : List St) (s : St) : drawK tab W V 183 o3_1_1_1_1_1_1_1_1_1_1_1_1_0_0 kk p3_1_1_1_1_1_1_1_1_1_1_1_1_0_0_4 l T s = stepK tab W V 183 o3_1_1_1_1_1_1_1_1_1_1_1_1_0_0 (PlanItem.mk 4 0 false) (drawK tab W V 183 o3_1_1_1_1_1_1_1_1_1_1_1_1_0_0 kk p3_1_1_1_1_1_1_1_1_1_1_1_1_0_0_5) l T s := drawK_cons _ _ _ _ _ _ _ _ _ _ _
theorem y3_1_1_1_1_1_1_1_1_1_1_1_1_0_0_4 {ρ : Type} (F : List St → Rg → St → R ρ) (T : Rg) (n0 s : St) : stepK tab W V 183 o3_1_1_1_1_1_1_1_1_1_1_1_1_0_0 (PlanItem.mk 4 0 false) F [n0] T s =
  boolM (isBoolV (T 104) false) (bindR (loadV tab s 24 (T 105)) fun v0 => bif (sameR (loadV tab n0 24 (T 105)) v0 && true) then F [n0] (puts 183 T [(106, v0)]) s else .error "unstable read") (F [n0] (puts 183 T [(106, AV.undef)]) s) := by kernel_rfl
theorem x3_1_1_1_1_1_1_1_1_1_1_1_1_0_0_5 {ρ : Type} (kk : Rg → St → R ρ) (T : Rg) (l : List St) (s : St) : drawK tab W V 183 o3_1_1_1_1_1_1_1_1_1_1_1_1_0_0 kk p3_1_1_1_1_1_1_1_1_1_1_1_1_0_0_5 l T s = stepK tab W V 183 o3_1_1_1_1_1_1_1_1_1_1_1_1_0_0 (PlanItem.mk 5 0 false) (drawK tab W V 183 o3_1_1_1_1_1_1_1_1_1_1_1_1_0_0 kk p3_1_1_1_1_1_1_1_1_1_1_1_1_0_0_6) l T s := drawK_cons _ _ _ _ _ _ _ _ _ _ _
theorem y3_1_1_1_1_1_1_1_1_1_1_1_1_0_0_5 {ρ : Type} (F : List St → Rg → St → R ρ) (T : Rg) (n0 s : St) : stepK tab W V 183 o3_1_1_1_1_1_1_1_1_1_1_1_1_0_0 (PlanItem.mk 5 0 false) F [n0] T s =
  boolM (isBoolV (T 104) false) (bindR (lenV tab 24 (T 106)) fun v0 => F [n0] (puts 183 T [(107, v0)]) s) (F [n0] (puts 183 T [(107, AV.undef)]) s) := by kernel_rfl
theorem x3_1_1_1_1_1_1_1_1_1_1_1_1_0_0_6 {ρ : Type} (kk : Rg → St → R ρ) (T : Rg) (l : List St) (s : St) : drawK tab W V 183 o3_1_1_1_1_1_1_1_1_1_1_1_1_0_0 kk p3_1_1_1_1_1_1_1_1_1_1_1_1_0_0_6 l T s = stepK tab W V 183 o3_1_1_1_1_1_1_1_1_1_1_1_1_0_0 (PlanItem.mk 6 0 false) (drawK tab W V 183 o3_1_1_1_1_1_1_1_1_1_1_1_1_0_0 kk p3_1_1_1_1_1_1_1_1_1_1_1_1_0_0_7) l T s := drawK_cons _ _ _ _ _ _ _ _ _ _ _
theorem y3_1_1_1_1_1_1_1_1_1_1_1_1_0_0_6 {ρ : Type} (F : List St → Rg → St → R ρ) (T : Rg) (n0 s : St) : stepK tab W V 183 o3_1_1_1_1_1_1_1_1_1_1_1_1_0_0 (PlanItem.mk 6 0 false) F [n0] T s =
  boolM (isBoolV (T 104) false) (bindR (fieldAddr tab 29 (T 9) 3) fun v0 => F [n0] (puts 183 T [(108, v0)]) s) (F [n0] (puts 183 T [(108, AV.undef)]) s) := by kernel_rfl
theorem x3_1_1_1_1_1_1_1_1_1_1_1_1_0_0_7 {ρ : Type} (kk : Rg → St → R ρ) (T : Rg) (l : List St) (s : St) : drawK tab W V 183 o3_1_1_1_1_1_1_1_1_1_1_1_1_0_0 kk p3_1_1_1_1_1_1_1_1_1_1_1_1_0_0_7 l T s = stepK tab W V 183 o3_1_1_1_1_1_1_1_1_1_1_1_1_0_0 (PlanItem.mk 7 0 false) (drawK tab W V 183 o3_1_1_1_1_1_1_1_1_1_1_1_1_0_0 kk p3_1_1_1_1_1_1_1_1_1_1_1_1_0_0_8) l T s := drawK_cons _ _ _ _ _ _ _ _ _ _ _
theorem y3_1_1_1_1_1_1_1_1_1_1_1_1_0_0_7 {ρ : Type} (F : List St → Rg → St → R ρ) (T : Rg) (n0 s : St) : stepK tab W V 183 o3_1_1_1_1_1_1_1_1_1_1_1_1_0_0 (PlanItem.mk 7 0 false) F [n0] T s =
  boolM (isBoolV (T 104) false) (bindR (loadV tab s 24 (T 108)) fun v0 => bif (sameR (loadV tab n0 24 (T 108)) v0 && true) then F [n0] (puts 183 T [(109, v0)]) s else .error "unstable read") (F [n0] (puts 183 T [(109, AV.undef)]) s) := by kernel_rfl
theorem x3_1_1_1_1_1_1_1_1_1_1_1_1_0_0_8 {ρ : Type} (kk : Rg → St → R ρ) (T : Rg) (l : List St) (s : St) : drawK tab W V 183 o3_1_1_1_1_1_1_1_1_1_1_1_1_0_0 kk p3_1_1_1_1_1_1_1_1_1_1_1_1_0_0_8 l T s = stepK tab W V 183 o3_1_1_1_1_1_1_1_1_1_1_1_1_0_0 (PlanItem.mk 8 0 false) (drawK tab W V 183 o3_1_1_1_1_1_1_1_1_1_1_1_1_0_0 kk p3_1_1_1_1_1_1_1_1_1_1_1_1_0_0_9) l T s := drawK_cons _ _ _ _ _ _ _ _ _ _ _
theorem y3_1_1_1_1_1_1_1_1_1_1_1_1_0_0_8 {ρ : Type} (F : List St → Rg → St → R ρ) (T : Rg) (n0 s : St) : stepK tab W V 183 o3_1_1_1_1_1_1_1_1_1_1_1_1_0_0 (PlanItem.mk 8 0 false) F [n0] T s =
  boolM (isBoolV (T 104) false) (bindR (lenV tab 24 (T 109)) fun v0 => F [n0] (puts 183 T [(110, v0)]) s) (F [n0] (puts 183 T [(110, AV.undef)]) s) := by kernel_rfl
theorem x3_1_1_1_1_1_1_1_1_1_1_1_1_0_0_9 {ρ : Type} (kk : Rg → St → R ρ) (T : Rg) (l : List St) (s : St) : drawK tab W V 183 o3_1_1_1_1_1_1_1_1_1_1_1_1_0_0 kk p3_1_1_1_1_1_1_1_1_1_1_1_1_0_0_9 l T s = stepK tab W V 183 o3_1_1_1_1_1_1_1_1_1_1_1_1_0_0 (PlanItem.mk 9 0 false) (drawK tab W V 183 o3_1_1_1_1_1_1_1_1_1_1_1_1_0_0 kk p3_1_1_1_1_1_1_1_1_1_1_1_1_0_0_10) l T s := drawK_cons _ _ _ _ _ _ _ _ _ _ _
theorem y3_1_1_1_1_1_1_1_1_1_1_1_1_0_0_9 {ρ : Type} (F : List St → Rg → St → R ρ) (T : Rg) (n0 s : St) : stepK tab W V 183 o3_1_1_1_1_1_1_1_1_1_1_1_1_0_0 (PlanItem.mk 9 0 false) F [n0] T s =
  boolM (isBoolV (T 104) false) (bindR (Dt.binOp tab .neq 3 (T 107) (T 110) false) fun v0 => F [n0] (puts 183 T [(111, v0)]) s) (F [n0] (puts 183 T [(111, AV.undef)]) s) := by kernel_rfl
theorem x3_1_1_1_1_1_1_1_1_1_1_1_1_0_0_10 {ρ : Type} (kk : Rg → St → R ρ) (T : Rg) (l : List St) (s : St) : drawK tab W V 183 o3_1_1_1_1_1_1_1_1_1_1_1_1_0_0 kk p3_1_1_1_1_1_1_1_1_1_1_1_1_0_0_10 l T s = stepK tab W V 183 o3_1_1_1_1_1_1_1_1_1_1_1_1_0_0 (PlanItem.mk 10 0 false) (drawK tab W V 183 o3_1_1_1_1_1_1_1_1_1_1_1_1_0_0 kk p3_1_1_1_1_1_1_1_1_1_1_1_1_0_0_11) l T s := drawK_cons _ _ _ _ _ _ _ _ _ _ _
theorem y3_1_1_1_1_1_1_1_1_1_1_1_1_0_0_10 {ρ : Type} (F : List St → Rg → St → R ρ) (T : Rg) (n0 s : St) : stepK tab W V 183 o3_1_1_1_1_1_1_1_1_1_1_1_1_0_0 (PlanItem.mk 10 0 false) F [n0] T s =
  bindR (pickV (T 104) (boolV true) (T 111)) fun v0 => F [n0] (puts 183 T [(112, v0)]) s := by kernel_rfl
theorem x3_1_1_1_1_1_1_1_1_1_1_1_1_0_0_11 {ρ : Type} (kk : Rg → St → R ρ) (T : Rg) (l : List St) (s : St) : drawK tab W V 183 o3_1_1_1_1_1_1_1_1_1_1_1_1_0_0 kk p3_1_1_1_1_1_1_1_1_1_1_1_1_0_0_11 l T s = stepK tab W V 183 o3_1_1_1_1_1_1_1_1_1_1_1_1_0_0 (PlanItem.mk 11 0 false) (drawK tab W V 183 o3_1_1_1_1_1_1_1_1_1_1_1_1_0_0 kk p3_1_1_1_1_1_1_1_1_1_1_1_1_0_0_12) l T s := drawK_cons _ _ _ _ _ _ _ _ _ _ _
theorem y3_1_1_1_1_1_1_1_1_1_1_1_1_0_0_11 {ρ : Type} (F : List St → Rg → St → R ρ) (T : Rg) (n0 s : St) : stepK tab W V 183 o3_1_1_1_1_1_1_1_1_1_1_1_1_0_0 (PlanItem.mk 11 0 false) F [n0] T s =
  bindR (.ok (T 112)) fun v0 => F [n0] (puts 183 T [(113, v0)]) s := by kernel_rfl
theorem x3_1_1_1_1_1_1_1_1_1_1_1_1_0_0_12 {ρ : Type} (kk : Rg → St → R ρ) (T : Rg) (l : List St) (s : St) : drawK tab W V 183 o3_1_1_1_1_1_1_1_1_1_1_1_1_0_0 kk p3_1_1_1_1_1_1_1_1_1_1_1_1_0_0_12 l T s = stepK tab W V 183 o3_1_1_1_1_1_1_1_1_1_1_1_1_0_0 (PlanItem.mk 12 0 false) (drawK tab W V 183 o3_1_1_1_1_1_1_1_1_1_1_1_1_0_0 kk p3_1_1_1_1_1_1_1_1_1_1_1_1_0_0_13) l T s := drawK_cons _ _ _ _ _ _ _ _ _ _ _
theorem y3_1_1_1_1_1_1_1_1_1_1_1_1_0_0_12 {ρ : Type} (F : List St → Rg → St → R ρ) (T : Rg) (n0 s : St) : stepK tab W V 183 o3_1_1_1_1_1_1_1_1_1_1_1_1_0_0 (PlanItem.mk 12 0 false) F [n0] T s =
  boolM (isBoolV (T 113) false) (bindR (fieldAddr tab 29 (T 20) 3) fun v0 => F [n0] (puts 183 T [(114, v0)]) s) (F [n0] (puts 183 T [(114, AV.undef)]) s) := by kernel_rfl
theorem x3_1_1_1_1_1_1_1_1_1_1_1_1_0_0_13 {ρ : Type} (kk : Rg → St → R ρ) (T : Rg) (l : List St) (s : St) : drawK tab W V 183 o3_1_1_1_1_1_1_1_1_1_1_1_1_0_0 kk p3_1_1_1_1_1_1_1_1_1_1_1_1_0_0_13 l T s = stepK tab W V 183 o3_1_1_1_1_1_1_1_1_1_1_1_1_0_0 (PlanItem.mk 13 0 false) (drawK tab W V 183 o3_1_1_1_1_1_1_1_1_1_1_1_1_0_0 kk p3_1_1_1_1_1_1_1_1_1_1_1_1_0_0_14) l T s := drawK_cons _ _ _ _ _ _ _ _ _ _ _
theorem y3_1_1_1_1_1_1_1_1_1_1_1_1_0_0_13 {ρ : Type} (F : List St → Rg → St → R ρ) (T : Rg) (n0 s : St) : stepK tab W V 183 o3_1_1_1_1_1_1_1_1_1_1_1_1_0_0 (PlanItem.mk 13 0 false) F [n0] T s =
  boolM (isBoolV (T 113) false) (bindR (loadV tab s 24 (T 114)) fun v0 => bif (sameR (loadV tab n0 24 (T 114)) v0 && true) then F [n0] (puts 183 T [(115, v0)]) s else .error "unstable read") (F [n0] (puts 183 T [(115, AV.undef)]) s) := by kernel_rfl
theorem x3_1_1_1_1_1_1_1_1_1_1_1_1_0_0_14 {ρ : Type} (kk : Rg → St → R ρ) (T : Rg) (l : List St) (s : St) : drawK tab W V 183 o3_1_1_1_1_1_1_1_1_1_1_1_1_0_0 kk p3_1_1_1_1_1_1_1_1_1_1_1_1_0_0_14 l T s = stepK tab W V 183 o3_1_1_1_1_1_1_1_1_1_1_1_1_0_0 (PlanItem.mk 14 0 false) (drawK tab W V 183 o3_1_1_1_1_1_1_1_1_1_1_1_1_0_0 kk p3_1_1_1_1_1_1_1_1_1_1_1_1_0_0_15) l T s := drawK_cons _ _ _ _ _ _ _ _ _ _ _
theorem y3_1_1_1_1_1_1_1_1_1_1_1_1_0_0_14 {ρ : Type} (F : List St → Rg → St → R ρ) (T : Rg) (n0 s : St) : stepK tab W V 183 o3_1_1_1_1_1_1_1_1_1_1_1_1_0_0 (PlanItem.mk 14 0 false) F [n0] T s =
  boolM (isBoolV (T 113) false) (bindR (fieldAddr tab 29 (T 20) 3) fun v0 => F [n0] (puts 183 T [(116, v0)]) s) (F [n0] (puts 183 T [(116, AV.undef)]) s) := by kernel_rfl
theorem x3_1_1_1_1_1_1_1_1_1_1_1_1_0_0_15 {ρ : Type} (kk : Rg → St → R ρ) (T : Rg) (l : List St) (s : St) : drawK tab W V 183 o3_1_1_1_1_1_1_1_1_1_1_1_1_0_0 kk p3_1_1_1_1_1_1_1_1_1_1_1_1_0_0_15 l T s = stepK tab W V 183 o3_1_1_1_1_1_1_1_1_1_1_1_1_0_0 (PlanItem.mk 15 0 false) (drawK tab W V 183 o3_1_1_1_1_1_1_1_1_1_1_1_1_0_0 kk p3_1_1_1_1_1_1_1_1_1_1_1_1_0_0_16) l T s := drawK_cons _ _ _ _ _ _ _ _ _ _ _
theorem y3_1_1_1_1_1_1_1_1_1_1_1_1_0_0_15 {ρ : Type} (F : List St → Rg → St → R ρ) (T : Rg) (n0 s : St) : stepK tab W V 183 o3_1_1_1_1_1_1_1_1_1_1_1_1_0_0 (PlanItem.mk 15 0 false) F [n0] T s =
  boolM (isBoolV (T 113) false) (bindR (loadV tab s 24 (T 116)) fun v0 => bif (sameR (loadV tab n0 24 (T 116)) v0 && true) then F [n0] (puts 183 T [(117, v0)]) s else .error "unstable read") (F [n0] (puts 183 T [(117, AV.undef)]) s) := by kernel_rfl
theorem x3_1_1_1_1_1_1_1_1_1_1_1_1_0_0_16 {ρ : Type} (kk : Rg → St → R ρ) (T : Rg) (l : List St) (s : St) : drawK tab W V 183 o3_1_1_1_1_1_1_1_1_1_1_1_1_0_0 kk p3_1_1_1_1_1_1_1_1_1_1_1_1_0_0_16 l T s = stepK tab W V 183 o3_1_1_1_1_1_1_1_1_1_1_1_1_0_0 (PlanItem.mk 16 0 false) (drawK tab W V 183 o3_1_1_1_1_1_1_1_1_1_1_1_1_0_0 kk p3_1_1_1_1_1_1_1_1_1_1_1_1_0_0_17) l T s := drawK_cons _ _ _ _ _ _ _ _ _ _ _
theorem y3_1_1_1_1_1_1_1_1_1_1_1_1_0_0_16 {ρ : Type} (F : List St → Rg → St → R ρ) (T : Rg) (n0 s : St) : stepK tab W V 183 o3_1_1_1_1_1_1_1_1_1_1_1_1_0_0 (PlanItem.mk 16 0 false) F [n0] T s =
  boolM (isBoolV (T 113) false) (bindR (lenV tab 24 (T 117)) fun v0 => F [n0] (puts 183 T [(118, v0)]) s) (F [n0] (puts 183 T [(118, AV.undef)]) s) := by kernel_rfl
theorem x3_1_1_1_1_1_1_1_1_1_1_1_1_0_0_17 {ρ : Type} (kk : Rg → St → R ρ) (T : Rg) (l : List St) (s : St) : drawK tab W V 183 o3_1_1_1_1_1_1_1_1_1_1_1_1_0_0 kk p3_1_1_1_1_1_1_1_1_1_1_1_1_0_0_17 l T s = stepK tab W V 183 o3_1_1_1_1_1_1_1_1_1_1_1_1_0_0 (PlanItem.mk 17 0 false) (drawK tab W V 183 o3_1_1_1_1_1_1_1_1_1_1_1_1_0_0 kk p3_1_1_1_1_1_1_1_1_1_1_1_1_0_0_18) l T s := drawK_cons _ _ _ _ _ _ _ _ _ _ _
theorem y3_1_1_1_1_1_1_1_1_1_1_1_1_0_0_17 {ρ : Type} (F : List St → Rg → St → R ρ) (T : Rg) (n0 s : St) : stepK tab W V 183 o3_1_1_1_1_1_1_1_1_1_1_1_1_0_0 (PlanItem.mk 17 0 false) F [n0] T s =
  boolM (isBoolV (T 113) false) (bindR (Dt.binOp tab .sub 3 (T 118) (intV .i64 1) true) fun v0 => F [n0] (puts 183 T [(119, v0)]) s) (F [n0] (puts 183 T [(119, AV.undef)]) s) := by kernel_rfl
theorem x3_1_1_1_1_1_1_1_1_1_1_1_1_0_0_18 {ρ : Type} (kk : Rg → St → R ρ) (T : Rg) (l : List St) (s : St) : drawK tab W V 183 o3_1_1_1_1_1_1_1_1_1_1_1_1_0_0 kk p3_1_1_1_1_1_1_1_1_1_1_1_1_0_0_18 l T s = stepK tab W V 183 o3_1_1_1_1_1_1_1_1_1_1_1_1_0_0 (PlanItem.mk 18 0 false) (drawK tab W V 183 o3_1_1_1_1_1_1_1_1_1_1_1_1_0_0 kk p3_1_1_1_1_1_1_1_1_1_1_1_1_0_0_19) l T s := drawK_cons _ _ _ _ _ _ _ _ _ _ _
theorem y3_1_1_1_1_1_1_1_1_1_1_1_1_0_0_18 {ρ : Type} (F : List St → Rg → St → R ρ) (T : Rg) (n0 s : St) : stepK tab W V 183 o3_1_1_1_1_1_1_1_1_1_1_1_1_0_0 (PlanItem.mk 18 0 false) F [n0] T s =
  boolM (isBoolV (T 113) false) (bindR (indexAddr tab 24 (T 115) (T 119)) fun v0 => F [n0] (puts 183 T [(120, v0)]) s) (F [n0] (puts 183 T [(120, AV.undef)]) s) := by kernel_rfl
theorem x3_1_1_1_1_1_1_1_1_1_1_1_1_0_0_19 {ρ : Type} (kk : Rg → St → R ρ) (T : Rg) (l : List St) (s : St) : drawK tab W V 183 o3_1_1_1_1_1_1_1_1_1_1_1_1_0_0 kk p3_1_1_1_1_1_1_1_1_1_1_1_1_0_0_19 l T s = stepK tab W V 183 o3_1_1_1_1_1_1_1_1_1_1_1_1_0_0 (PlanItem.mk 19 0 false) (drawK tab W V 183 o3_1_1_1_1_1_1_1_1_1_1_1_1_0_0 kk p3_1_1_1_1_1_1_1_1_1_1_1_1_0_0_20) l T s := drawK_cons _ _ _ _ _ _ _ _ _ _ _
theorem y3_1_1_1_1_1_1_1_1_1_1_1_1_0_0_19 {ρ : Type} (F : List St → Rg → St → R ρ) (T : Rg) (n0 s : St) : stepK tab W V 183 o3_1_1_1_1_1_1_1_1_1_1_1_1_0_0 (PlanItem.mk 19 0 false) F [n0] T s =
  boolM (isBoolV (T 113) false) (bindR (loadV tab s 71 (T 120)) fun v0 => bif (sameR (loadV tab n0 71 (T 120)) v0 && true) then F [n0] (puts 183 T [(121, v0)]) s else .error "unstable read") (F [n0] (puts 183 T [(121, AV.undef)]) s) := by kernel_rfl
theorem x3_1_1_1_1_1_1_1_1_1_1_1_1_0_0_20 {ρ : Type} (kk : Rg → St → R ρ) (T : Rg) (l : List St) (s : St) : drawK tab W V 183 o3_1_1_1_1_1_1_1_1_1_1_1_1_0_0 kk p3_1_1_1_1_1_1_1_1_1_1_1_1_0_0_20 l T s = stepK tab W V 183 o3_1_1_1_1_1_1_1_1_1_1_1_1_0_0 (PlanItem.mk 20 0 false) (drawK tab W V 183 o3_1_1_1_1_1_1_1_1_1_1_1_1_0_0 kk p3_1_1_1_1_1_1_1_1_1_1_1_1_0_0_21) l T s := drawK_cons _ _ _ _ _ _ _ _ _ _ _
theorem y3_1_1_1_1_1_1_1_1_1_1_1_1_0_0_20 {ρ : Type} (F : List St → Rg → St → R ρ) (T : Rg) (n0 s : St) : stepK tab W V 183 o3_1_1_1_1_1_1_1_1_1_1_1_1_0_0 (PlanItem.mk 20 0 false) F [n0] T s =
  boolM (isBoolV (T 113) false) (bindR (loadV tab s 71 (T 19)) fun v0 => bif (sameR (loadV tab n0 71 (T 19)) v0 && true) then F [n0] (puts 183 T [(122, v0)]) s else .error "unstable read") (F [n0] (puts 183 T [(122, AV.undef)]) s) := by kernel_rfl
theorem x3_1_1_1_1_1_1_1_1_1_1_1_1_0_0_21 {ρ : Type} (kk : Rg → St → R ρ) (T : Rg) (l : List St) (s : St) : drawK tab W V 183 o3_1_1_1_1_1_1_1_1_1_1_1_1_0_0 kk p3_1_1_1_1_1_1_1_1_1_1_1_1_0_0_21 l T s = stepK tab W V 183 o3_1_1_1_1_1_1_1_1_1_1_1_1_0_0 (PlanItem.mk 21 0 true) (drawK tab W V 183 o3_1_1_1_1_1_1_1_1_1_1_1_1_0_0 kk p3_1_1_1_1_1_1_1_1_1_1_1_1_0_0_22) l T s := drawK_cons _ _ _ _ _ _ _ _ _ _ _
theorem y3_1_1_1_1_1_1_1_1_1_1_1_1_0_0_21 {ρ : Type} (F : List St → Rg → St → R ρ) (T : Rg) (n0 s : St) : stepK tab W V 183 o3_1_1_1_1_1_1_1_1_1_1_1_1_0_0 (PlanItem.mk 21 0 true) F [n0] T s =
  boolM (isBoolV (T 113) false) (bif ([(AV.func (.func 11) [] []), (T 121), (T 122)].all fun x => bndA s.n x) then bindR (g2 s (W 11 [(T 121), (T 122)] s)) fun q0 => retK q0 (fun v1 s2 =>
  bif Nat.ble s.n s2.n then F [s2, n0] (puts 183 T [(123, v1)]) s2 else .error "draw n") (fun _ _ => .error "panic in a drawn region") else .error "draw ids") (F [s, n0] (puts 183 T [(123, AV.undef)]) s) := by kernel_rfl
theorem x3_1_1_1_1_1_1_1_1_1_1_1_1_0_0_22 {ρ : Type} (kk : Rg → St → R ρ) (T : Rg) (l : List St) (s : St) : drawK tab W V 183 o3_1_1_1_1_1_1_1_1_1_1_1_1_0_0 kk p3_1_1_1_1_1_1_1_1_1_1_1_1_0_0_22 l T s = stepK tab W V 183 o3_1_1_1_1_1_1_1_1_1_1_1_1_0_0 (PlanItem.mk 22 1 false) (drawK tab W V 183 o3_1_1_1_1_1_1_1_1_1_1_1_1_0_0 kk p3_1_1_1_1_1_1_1_1_1_1_1_1_0_0_23) l T s := drawK_cons _ _ _ _ _ _ _ _ _ _ _
theorem y3_1_1_1_1_1_1_1_1_1_1_1_1_0_0_22 {ρ : Type} (F : List St → Rg → St → R ρ) (T : Rg) (n0 n1 s : St) : stepK tab W V 183 o3_1_1_1_1_1_1_1_1_1_1_1_1_0_0 (PlanItem.mk 22 1 false) F [n1, n0] T s =
  boolM (isBoolV (T 113) false) (bindR (Dt.unOp .not (T 123)) fun v0 => F [n1, n0] (puts 183 T [(124, v0)]) s) (F [n1, n0] (puts 183 T [(124, AV.undef)]) s) := by kernel_rfl
theorem x3_1_1_1_1_1_1_1_1_1_1_1_1_0_0_23 {ρ : Type} (kk : Rg → St → R ρ) (T : Rg) (l : List St) (s : St) : drawK tab W V 183 o3_1_1_1_1_1_1_1_1_1_1_1_1_0_0 kk p3_1_1_1_1_1_1_1_1_1_1_1_1_0_0_23 l T s = stepK tab W V 183 o3_1_1_1_1_1_1_1_1_1_1_1_1_0_0 (PlanItem.mk 23 1 false) (drawK tab W V 183 o3_1_1_1_1_1_1_1_1_1_1_1_1_0_0 kk p3_1_1_1_1_1_1_1_1_1_1_1_1_0_0_24) l T s := drawK_cons _ _ _ _ _ _ _ _ _ _ _
theorem y3_1_1_1_1_1_1_1_1_1_1_1_1_0_0_23 {ρ : Type} (F : List St → Rg → St → R ρ) (T : Rg) (n0 n1 s : St) : stepK tab W V 183 o3_1_1_1_1_1_1_1_1_1_1_1_1_0_0 (PlanItem.mk 23 1 false) F [n1, n0] T s =
  bindR (pickV (T 113) (boolV true) (T 124)) fun v0 => F [n1, n0] (puts 183 T [(125, v0)]) s := by kernel_rfl
theorem x3_1_1_1_1_1_1_1_1_1_1_1_1_0_0_24 {ρ : Type} (kk : Rg → St → R ρ) (T : Rg) (l : List St) (s : St) : drawK tab W V 183 o3_1_1_1_1_1_1_1_1_1_1_1_1_0_0 kk p3_1_1_1_1_1_1_1_1_1_1_1_1_0_0_24 l T s = kk T s := eqBy rfl
end Go.Proofs.YtkpkmjanikkpoaaGreatDoor
namespace Go.Proofs.YtkpkmjanikkpoaaGreatDoor
open Go Go.Dt
set_option maxRecDepth 100000

theorem box68s {σ : St} (hw : WF σ) {r : List AV} (h24 : r.length = 24) (ho : r.all AV.oneCell = true) : ∃ s4, storeV tab (σ.push (.cells z68 71 true 24)) 71 (.ptr σ.n 0) (.agg r) = .ok s4 ∧ At s4 σ.n (.cells r 71 true 24) ∧ Gw σ s4 ∧ s4.n = σ.n + 1 := by
  have hC := At.new σ (.cells z68 71 true 24)
  refine ⟨(σ.push (.cells z68 71 true 24)).set σ.n (.cells r 71 true 24), ?_, hC.set_same (WF.push hw _) _, ((Gw.push σ _).up σ.n |>.trans (Up.set (Nat.le_refl _) hC.1 _)).gw (Nat.le_refl _), rfl⟩
  have := stv (o := 0) (x := .agg r) s68 hC h24 (by omega) (by show 0 + 24 ≤ 24; omega) ho
  rw [this]
  congr 3
  show splice z68 0 r = r
  match r, h24 with
  | [a0, a1, a2, a3, a4, a5, a6, a7, a8, a9, b0, b1, b2, b3, b4, b5, b6, b7, b8, b9, c0, c1, c2, c3], _ => rfl
theorem box29s {σ : St} (hw : WF σ) {l : List AV} (h7 : l.length = 7) (ho : l.all AV.oneCell = true) : ∃ s4, storeV tab (σ.push (.cells z29 29 true 7)) 29 (.ptr σ.n 0) (.agg l) = .ok s4 ∧ At s4 σ.n (.cells l 29 true 7) ∧ Gw σ s4 ∧ s4.n = σ.n + 1 := by
  have hC := At.new σ (.cells z29 29 true 7)
  exact ⟨_, st29 hC rfl h7 ho, hC.set_same (WF.push hw _) _, ((Gw.push σ _).up σ.n |>.trans (Up.set (Nat.le_refl _) hC.1 _)).gw (Nat.le_refl _), rfl⟩

structure RgP (T : Rg) (iv : AV) (k b19 b20 : Nat) : Prop where
  t16 : T 16 = iv
  t18 : T 18 = intV .i64 (k : Int)
  t19 : T 19 = .ptr b19 0
  t20 : T 20 = .ptr b20 0

/-- up to the call of Put, and its answer -/
theorem sPut {ρ : Type} (kk : K ρ) {n : Nat} (hn0 : 0 < n) (hn4 : n ≤ 4) {rv nv a0 a2 qv iv : AV} {ns : List Int} {b9 b10 lo : Nat} {pl : Int} {qs : List (Nat × Int)} (hql : qs.length = n) (hN : Numb (n : Int) qs) {cs : List Int} (hok : ∀ c ∈ cs, okC c) (hcl : cs.length ≤ 8)
    {T : Rg} {S : St} (I : Inv S b9 b10 rv nv ns (n : Int) qv) (hQ : QL x0 S 0 lo qv qs) (hlo : lo ≤ S.n) (hI : IL S 0 S.n iv cs) (R : RgA T a0 (intV .i64 pl) a2 nv b9 b10) (t16 : T 16 = iv) :
    ∃ T' S' v' it' b19 b20 r p j m, denK tab W V 183 c3_1_1_1_1_1_1_1_1_1 kk T S = denK tab W V 183 c3_1_1_1_1_1_1_1_1_1_1_1_1 kk T' S' ∧ qs[p]? = some (j, m) ∧ RgA T' a0 (intV .i64 pl) a2 nv b9 b10 ∧ RgP T' iv p b19 b20 ∧ T' 21 = intV .i64 0 ∧ Gw S S' ∧
      At S' b19 (.cells r 71 true 24) ∧ At S' b20 (.cells (tenC (n : Int) v' it') 29 true 7) ∧ DpL S' 0 lo (x0 j m) r ∧ QL x0 S' 0 S'.n v' (cut p qs ++ [(j, m)]) ∧ IL S' 0 S'.n it' cs := by
  have hk0 := Int.emod_nonneg pl (b := (n : Int)) (by omega)
  have hk1 := Int.emod_lt_of_pos pl (b := (n : Int)) (by omega)
  obtain ⟨p, hp⟩ : ∃ p : Nat, pl % (n : Int) = (p : Int) := ⟨(pl % (n : Int)).toNat, by omega⟩
  have hpl : p < qs.length := by omega
  obtain ⟨q, hq⟩ : ∃ q, qs[p]? = some q := ⟨_, List.getElem?_eq_getElem hpl⟩
  obtain ⟨j, m⟩ := q
  have w7 := W7 pl (n : Int) (by omega) (by omega) S
  rw [hp] at w7
  obtain ⟨bq, r, g1, g2, g3, g4⟩ := hQ.get fam0 hq
  have rc := g3.cells (fam0.pl j m)
  obtain ⟨s6, e6, A6, G6, n6⟩ := box68s I.wf g4 rc.1
  have I6 := I.gw G6
  have lq' : loadV tab S 24 (.ptr b9 3) = .ok qv := I.lq
  have l19 : loadV tab s6 71 (.ptr S.n 0) = .ok (.agg r) := lda a68 A6 (by rw [List.drop_zero]; exact List.take_of_length_le (by omega)) g4
  have n6' := G6.n
  obtain ⟨v', it', s8, p8, g8, V8, I8⟩ := W10 (had := (n : Int)) (by omega) (by omega) rv hN (by omega) hok hcl hq s6 I6.wf I6.M I6.sv ((hQ.gw G6).le (by omega)) (DpL.mono (Nat.le_refl _) (by omega) (fun _ _ _ _ => rfl) _ _ (g3.gw G6)) ((hI.gw G6).le (Nat.le_refl _) n6')
  have G8 := G6.trans g8
  have vc := V8.cell
  have ic := I8.cell
  obtain ⟨s13, e13, A13, G13, n13⟩ := box29s (G8.len I.wf) (l := tenC (n : Int) v' it') rfl (tenC_one vc.1 ic.1)
  have G := G8.trans G13
  have ng := G13.n
  have e := ec3_1_1_1_1_1_1_1_1_1 kk T S
  have hl : (qs.length : Int) = (n : Int) := by omega
  simp (decide := true) only [mv_eq, g1_eq, g2_eq, g3_eq, bindR_val, retK_ret, extractV_0, extractV_1, R.t1, R.t9, R.t10, R.t11, t16, fa29_3, Nat.zero_add, lq', hQ.lenV, hl, w7, ec3_1_1_1_1_1_1_1_1_1_1, g1, g2, alloc68, e6, ec3_1_1_1_1_1_1_1_1_1_1_1, I6.l10, I6.l11, I6.l9, l19, p8, alloc29, e13, puts_cons, puts_nil, putE_same, putE_ne] at e
  refine ⟨_, s13, v', it', S.n, s8.n, r, p, j, m, e, hq, ?_, ?_, ?_, G, (A6.gw g8).gw G13, A13, DpL.gw g3 G, (V8.gw G13).mono (Nat.zero_le _) ng (Nat.le_refl _) (fun _ _ _ _ => rfl), (I8.gw G13).le (Nat.zero_le _) ng⟩
  · constructor <;> simp (decide := true) only [putE_ne, R.t0, R.t1, R.t2, R.t3, R.t9, R.t10, R.t11]
  · constructor <;> simp (decide := true) only [putE_same, putE_ne, t16]
  · simp (decide := true) only [putE_same]

theorem boolM_t {α : Type} (x y : α) : boolM true x y = x := eqBy rfl
theorem boolM_f {α : Type} (x y : α) : boolM false x y = y := eqBy rfl
/-- the answer is looked at -/
theorem sReg {ρ : Type} (kk : K ρ) {n : Nat} (hn0 : 0 < n) (hn4 : n ≤ 4) {rv nv a0 a1 a2 qv iv v' it' : AV} {ns : List Int} {b9 b10 lo : Nat} {qs : List (Nat × Int)} (hql : qs.length = n) (hN : Numb (n : Int) qs) {p j b19 b20 : Nat} {m : Int} {r : List AV} (hq : qs[p]? = some (j, m))
    {T : Rg} {S : St} (I : Inv S b9 b10 rv nv ns (n : Int) qv) (hQ : QL x0 S 0 lo qv qs) (hlo : lo ≤ S.n) (R : RgA T a0 a1 a2 nv b9 b10) (P : RgP T iv p b19 b20) (t21 : T 21 = intV .i64 0)
    (A19 : At S b19 (.cells r 71 true 24)) (A20 : At S b20 (.cells (tenC (n : Int) v' it') 29 true 7)) (hR : DpL S 0 lo (x0 j m) r) (hV : QL x0 S 0 S.n v' (cut p qs ++ [(j, m)])) :
    ∃ T' S', denK tab W V 183 c3_1_1_1_1_1_1_1_1_1_1_1_1 kk T S = denK tab W V 183 c3_1_1_1_1_1_1_1_1_1_1_1_1_1 kk T' S' ∧ RgA T' a0 a1 a2 nv b9 b10 ∧ RgP T' iv p b19 b20 ∧ Gw S S' := by
  have hp : p < qs.length := (List.getElem?_eq_some_iff.1 hq).1
  have hl : (cut p qs ++ [(j, m)]).length = n := by rw [List.length_append, cut_len p qs hp, List.length_singleton]; omega
  have hlast : (cut p qs ++ [(j, m)])[n - 1]? = some (j, m) := by
    rw [List.getElem?_append_right (by rw [cut_len p qs hp]; omega), cut_len p qs hp]
    have : n - 1 - (qs.length - 1) = 0 := by omega
    rw [this]; rfl
  have r24 : r.length = 24 := by rw [hR.length, fam0.len]
  obtain ⟨bl, rl, g1, g2, g3, g4⟩ := hV.get fam0 hlast
  have c1 := cells_r g3
  have c2 := cells_r hR
  have hvc := hV.cell
  have hqc := hQ.cell
  obtain ⟨s2, p11, gs⟩ := P11 (hN.ok _ (List.mem_of_getElem? hq)) I.M g3 hR
  have l20 : loadV tab S 24 (.ptr b20 3) = .ok v' := ld l24 A20 rfl
  have l19 : loadV tab S 71 (.ptr b19 0) = .ok (.agg r) := lda a68 A19 (by rw [List.drop_zero]; exact List.take_of_length_le (by omega)) r24
  have d0 : ((0 : Int) != 0) = false := rfl
  have dl : ((n : Int) != (n : Int)) = false := by simp
  have wl : IntKind.i64.wrap ((n : Int) - 1) = ((n - 1 : Nat) : Int) := by rw [wrapI (by omega) (by omega)]; omega
  have b0 : bndA S.n (.func (.func 11) [] []) = true := rfl
  have b1 : bndA S.n (.agg rl) = true := c1.2 _ (Nat.le_refl _)
  have b2 : bndA S.n (.agg r) = true := c2.2 _ hlo
  have y1 : Nat.ble S.n s2.n = true := Nat.ble_eq_true_of_le gs.n
  have lv1 := hV.lenV
  rw [hl] at lv1
  have lv2 := hQ.lenV
  rw [hql] at lv2
  obtain ⟨K0, hK0⟩ : ∃ K0, K0 = (fun (T : Rg) (s0 : St) => condR (T 125) (bindR (mv (boolV false)) fun v1 => kk.ret (puts 183 T [(8, v1)]) s0) (denK tab W V 183 c3_1_1_1_1_1_1_1_1_1_1_1_1_1 kk T s0)) := ⟨_, rfl⟩
  have e0 := ec3_1_1_1_1_1_1_1_1_1_1_1_1 kk T S
  rw [← hK0] at e0
  have e := x3_1_1_1_1_1_1_1_1_1_1_1_1_0_0_0 K0 T [S] S
  simp (decide := true) only [bindR_val, binOp_int, intOp_neq, y3_1_1_1_1_1_1_1_1_1_1_1_1_0_0_0, x3_1_1_1_1_1_1_1_1_1_1_1_1_0_0_1, y3_1_1_1_1_1_1_1_1_1_1_1_1_0_0_1, x3_1_1_1_1_1_1_1_1_1_1_1_1_0_0_2, y3_1_1_1_1_1_1_1_1_1_1_1_1_0_0_2, t21, d0, puts_cons, puts_nil, putE_same] at e
  obtain ⟨Ta, e3, u104, R3, P3⟩ : ∃ Ta : Rg, drawK tab W V 183 o3_1_1_1_1_1_1_1_1_1_1_1_1_0_0 K0 p3_1_1_1_1_1_1_1_1_1_1_1_1_0_0_0 [S] T S = drawK tab W V 183 o3_1_1_1_1_1_1_1_1_1_1_1_1_0_0 K0 p3_1_1_1_1_1_1_1_1_1_1_1_1_0_0_3 [S] Ta S ∧ Ta 104 = boolV false ∧ RgA Ta a0 a1 a2 nv b9 b10 ∧ RgP Ta iv p b19 b20 := by
    refine ⟨_, e, ?_, ?_, ?_⟩
    · simp (decide := true) only [putE_same]
    · constructor <;> simp (decide := true) only [putE_ne, R.t0, R.t1, R.t2, R.t3, R.t9, R.t10, R.t11]
    · constructor <;> simp (decide := true) only [putE_ne, P.t16, P.t18, P.t19, P.t20]
  clear e
  have e := x3_1_1_1_1_1_1_1_1_1_1_1_1_0_0_3 K0 Ta [S] S
  simp (decide := true) only [bindR_val, condT, isBoolV_f, Bool.not_false, y3_1_1_1_1_1_1_1_1_1_1_1_1_0_0_3, x3_1_1_1_1_1_1_1_1_1_1_1_1_0_0_4, y3_1_1_1_1_1_1_1_1_1_1_1_1_0_0_4, x3_1_1_1_1_1_1_1_1_1_1_1_1_0_0_5, y3_1_1_1_1_1_1_1_1_1_1_1_1_0_0_5, u104, boolM_t, P3.t20, fa29_3, Nat.zero_add, l20, sameR, hvc.2.1, Bool.and_true, condT, lv1, puts_cons, puts_nil, putE_same, putE_ne] at e
  obtain ⟨Tb, e6, u104, u107, R6, P6⟩ : ∃ Tb : Rg, drawK tab W V 183 o3_1_1_1_1_1_1_1_1_1_1_1_1_0_0 K0 p3_1_1_1_1_1_1_1_1_1_1_1_1_0_0_3 [S] Ta S = drawK tab W V 183 o3_1_1_1_1_1_1_1_1_1_1_1_1_0_0 K0 p3_1_1_1_1_1_1_1_1_1_1_1_1_0_0_6 [S] Tb S ∧ Tb 104 = boolV false ∧ Tb 107 = intV .i64 (n : Int) ∧ RgA Tb a0 a1 a2 nv b9 b10 ∧ RgP Tb iv p b19 b20 := by
    refine ⟨_, e, ?_, ?_, ?_, ?_⟩
    · simp (decide := true) only [putE_ne, u104]
    · simp (decide := true) only [putE_same]
    · constructor <;> simp (decide := true) only [putE_ne, R3.t0, R3.t1, R3.t2, R3.t3, R3.t9, R3.t10, R3.t11]
    · constructor <;> simp (decide := true) only [putE_ne, P3.t16, P3.t18, P3.t19, P3.t20]
  clear e
  have e := x3_1_1_1_1_1_1_1_1_1_1_1_1_0_0_6 K0 Tb [S] S
  simp (decide := true) only [bindR_val, condT, condF, isBoolV_f, Bool.not_false, pickV_boolV, binOp_int, intOp_neq, y3_1_1_1_1_1_1_1_1_1_1_1_1_0_0_6, x3_1_1_1_1_1_1_1_1_1_1_1_1_0_0_7, y3_1_1_1_1_1_1_1_1_1_1_1_1_0_0_7, x3_1_1_1_1_1_1_1_1_1_1_1_1_0_0_8, y3_1_1_1_1_1_1_1_1_1_1_1_1_0_0_8, x3_1_1_1_1_1_1_1_1_1_1_1_1_0_0_9, y3_1_1_1_1_1_1_1_1_1_1_1_1_0_0_9, x3_1_1_1_1_1_1_1_1_1_1_1_1_0_0_10, y3_1_1_1_1_1_1_1_1_1_1_1_1_0_0_10, x3_1_1_1_1_1_1_1_1_1_1_1_1_0_0_11, y3_1_1_1_1_1_1_1_1_1_1_1_1_0_0_11, u104, u107, boolM_t, R6.t9, fa29_3, Nat.zero_add, I.lq, sameR, hqc.2.1, Bool.and_true, condT, lv2, dl, puts_cons, puts_nil, putE_same, putE_ne] at e
  obtain ⟨Tc, e12, u113, R12, P12⟩ : ∃ Tc : Rg, drawK tab W V 183 o3_1_1_1_1_1_1_1_1_1_1_1_1_0_0 K0 p3_1_1_1_1_1_1_1_1_1_1_1_1_0_0_6 [S] Tb S = drawK tab W V 183 o3_1_1_1_1_1_1_1_1_1_1_1_1_0_0 K0 p3_1_1_1_1_1_1_1_1_1_1_1_1_0_0_12 [S] Tc S ∧ Tc 113 = boolV false ∧ RgA Tc a0 a1 a2 nv b9 b10 ∧ RgP Tc iv p b19 b20 := by
    refine ⟨_, e, ?_, ?_, ?_⟩
    · simp (decide := true) only [putE_same]
    · constructor <;> simp (decide := true) only [putE_ne, R6.t0, R6.t1, R6.t2, R6.t3, R6.t9, R6.t10, R6.t11]
    · constructor <;> simp (decide := true) only [putE_ne, P6.t16, P6.t18, P6.t19, P6.t20]
  clear e
  have e := x3_1_1_1_1_1_1_1_1_1_1_1_1_0_0_12 K0 Tc [S] S
  simp (decide := true) only [bindR_val, condT, isBoolV_f, Bool.not_false, y3_1_1_1_1_1_1_1_1_1_1_1_1_0_0_12, x3_1_1_1_1_1_1_1_1_1_1_1_1_0_0_13, y3_1_1_1_1_1_1_1_1_1_1_1_1_0_0_13, x3_1_1_1_1_1_1_1_1_1_1_1_1_0_0_14, y3_1_1_1_1_1_1_1_1_1_1_1_1_0_0_14, x3_1_1_1_1_1_1_1_1_1_1_1_1_0_0_15, y3_1_1_1_1_1_1_1_1_1_1_1_1_0_0_15, u113, boolM_t, P12.t20, fa29_3, Nat.zero_add, l20, sameR, hvc.2.1, Bool.and_true, condT, puts_cons, puts_nil, putE_same, putE_ne] at e
  obtain ⟨Td, e16, u113, u115, u117, R16, P16⟩ : ∃ Td : Rg, drawK tab W V 183 o3_1_1_1_1_1_1_1_1_1_1_1_1_0_0 K0 p3_1_1_1_1_1_1_1_1_1_1_1_1_0_0_12 [S] Tc S = drawK tab W V 183 o3_1_1_1_1_1_1_1_1_1_1_1_1_0_0 K0 p3_1_1_1_1_1_1_1_1_1_1_1_1_0_0_16 [S] Td S ∧ Td 113 = boolV false ∧ Td 115 = v' ∧ Td 117 = v' ∧ RgA Td a0 a1 a2 nv b9 b10 ∧ RgP Td iv p b19 b20 := by
    refine ⟨_, e, ?_, ?_, ?_, ?_, ?_⟩
    · simp (decide := true) only [putE_ne, u113]
    · simp (decide := true) only [putE_same, putE_ne]
    · simp (decide := true) only [putE_same]
    · constructor <;> simp (decide := true) only [putE_ne, R12.t0, R12.t1, R12.t2, R12.t3, R12.t9, R12.t10, R12.t11]
    · constructor <;> simp (decide := true) only [putE_ne, P12.t16, P12.t18, P12.t19, P12.t20]
  clear e
  have e := x3_1_1_1_1_1_1_1_1_1_1_1_1_0_0_16 K0 Td [S] S
  simp (decide := true) only [bindR_val, condT, isBoolV_f, Bool.not_false, binOp_int, intOp_sub, y3_1_1_1_1_1_1_1_1_1_1_1_1_0_0_16, x3_1_1_1_1_1_1_1_1_1_1_1_1_0_0_17, y3_1_1_1_1_1_1_1_1_1_1_1_1_0_0_17, x3_1_1_1_1_1_1_1_1_1_1_1_1_0_0_18, y3_1_1_1_1_1_1_1_1_1_1_1_1_0_0_18, x3_1_1_1_1_1_1_1_1_1_1_1_1_0_0_19, y3_1_1_1_1_1_1_1_1_1_1_1_1_0_0_19, u113, u115, u117, boolM_t, sameR, Bool.and_true, condT, lv1, wl, g1, g2, c1.1, puts_cons, puts_nil, putE_same, putE_ne] at e
  obtain ⟨Te, e20, u113, u121, R20, P20⟩ : ∃ Te : Rg, drawK tab W V 183 o3_1_1_1_1_1_1_1_1_1_1_1_1_0_0 K0 p3_1_1_1_1_1_1_1_1_1_1_1_1_0_0_16 [S] Td S = drawK tab W V 183 o3_1_1_1_1_1_1_1_1_1_1_1_1_0_0 K0 p3_1_1_1_1_1_1_1_1_1_1_1_1_0_0_20 [S] Te S ∧ Te 113 = boolV false ∧ Te 121 = .agg rl ∧ RgA Te a0 a1 a2 nv b9 b10 ∧ RgP Te iv p b19 b20 := by
    refine ⟨_, e, ?_, ?_, ?_, ?_⟩
    · simp (decide := true) only [putE_ne, u113]
    · simp (decide := true) only [putE_same]
    · constructor <;> simp (decide := true) only [putE_ne, R16.t0, R16.t1, R16.t2, R16.t3, R16.t9, R16.t10, R16.t11]
    · constructor <;> simp (decide := true) only [putE_ne, P16.t16, P16.t18, P16.t19, P16.t20]
  clear e
  have e := x3_1_1_1_1_1_1_1_1_1_1_1_1_0_0_20 K0 Te [S] S
  simp (decide := true) only [g2_eq, bindR_val, retK_ret, condT, condF, isBoolV_f, Bool.not_true, Bool.not_false, pickV_boolV, unOp_not, y3_1_1_1_1_1_1_1_1_1_1_1_1_0_0_20, x3_1_1_1_1_1_1_1_1_1_1_1_1_0_0_21, y3_1_1_1_1_1_1_1_1_1_1_1_1_0_0_21, x3_1_1_1_1_1_1_1_1_1_1_1_1_0_0_22, y3_1_1_1_1_1_1_1_1_1_1_1_1_0_0_22, x3_1_1_1_1_1_1_1_1_1_1_1_1_0_0_23, y3_1_1_1_1_1_1_1_1_1_1_1_1_0_0_23, x3_1_1_1_1_1_1_1_1_1_1_1_1_0_0_24, u113, u121, P20.t19, boolM_t, l19, sameR, c2.1, Bool.and_true, condT, List.all_cons, List.all_nil, b0, b1, b2, Bool.and_self, p11, y1, puts_cons, puts_nil, putE_same, putE_ne] at e
  obtain ⟨Tf, e24, u125, R24, P24⟩ : ∃ Tf : Rg, drawK tab W V 183 o3_1_1_1_1_1_1_1_1_1_1_1_1_0_0 K0 p3_1_1_1_1_1_1_1_1_1_1_1_1_0_0_20 [S] Te S = K0 Tf s2 ∧ Tf 125 = boolV false ∧ RgA Tf a0 a1 a2 nv b9 b10 ∧ RgP Tf iv p b19 b20 := by
    refine ⟨_, e, ?_, ?_, ?_⟩
    · simp (decide := true) only [putE_same]
    · constructor <;> simp (decide := true) only [putE_ne, R20.t0, R20.t1, R20.t2, R20.t3, R20.t9, R20.t10, R20.t11]
    · constructor <;> simp (decide := true) only [putE_ne, P20.t16, P20.t18, P20.t19, P20.t20]
  refine ⟨Tf, s2, ?_, R24, P24, gs⟩
  rw [e0, e3, e6, e12, e16, e20, e24, hK0]
  simp only [u125, condR_boolV, condF]

/-- the other queries -/
theorem loopC {n : Nat} (hn4 : n ≤ 4) {rv nv a0 a1 a2 qv iv v' it' : AV} {ns : List Int} {b9 b10 lo hv : Nat} {qs : List (Nat × Int)} (hql : qs.length = n) (hN : Numb (n : Int) qs) {p j b19 b20 : Nat} {m : Int} (hq : qs[p]? = some (j, m)) :
    ∀ (t i : Nat), i + t = n → ∀ (T : Rg) (S : St), Inv S b9 b10 rv nv ns (n : Int) qv → QL x0 S 0 lo qv qs → lo ≤ S.n → hv ≤ S.n → At S b20 (.cells (tenC (n : Int) v' it') 29 true 7) → QL x0 S 0 hv v' (cut p qs ++ [(j, m)]) →
    RgA T a0 a1 a2 nv b9 b10 → RgP T iv p b19 b20 → T 22 = intV .i64 ((if i ≤ p then i else i - 1 : Nat) : Int) → T 23 = intV .i64 (i : Int) →
    ∃ T' S', loopLim (dd tab W V 183 c3_1_1_1_1_1_1_1_1_1_1_1_1_1_1_0_1_0_0) T S = .ok (.exit 4 T' S') ∧ RgA T' a0 a1 a2 nv b9 b10 ∧ RgP T' iv p b19 b20 ∧ Gw S S' := by
  have hp : p < qs.length := (List.getElem?_eq_some_iff.1 hq).1
  intro t
  induction t with
  | zero =>
    intro i hi T S I hQ hlo hhv A20 hV R P t22 t23
    have e := ec3_1_1_1_1_1_1_1_1_1_1_1_1_1_1_0_1_0_0 kOc T S
    have lv2 := hQ.lenV
    rw [hql] at lv2
    have d1 : decide ((i : Int) < (n : Int)) = false := by simp; omega
    simp (decide := true) only [mv_eq, g1_eq, g2_eq, bindR_val, condR_boolV, condF, binOp_int, intOp_lss, kOc_ret, kOc_exit, t23, R.t9, fa29_3, Nat.zero_add, I.lq, lv2, d1] at e
    refine ⟨_, S, loop_exit (dd_of tab W V 183 e), ?_, ?_, Gw.refl S⟩
    · constructor <;> simp (decide := true) only [puts_cons, puts_nil, putE_ne, R.t0, R.t1, R.t2, R.t3, R.t9, R.t10, R.t11]
    · constructor <;> simp (decide := true) only [puts_cons, puts_nil, putE_ne, P.t16, P.t18, P.t19, P.t20]
  | succ t ih =>
    intro i hi T S I hQ hlo hhv A20 hV R P t22 t23
    have lv2 := hQ.lenV
    rw [hql] at lv2
    have d1 : decide ((i : Int) < (n : Int)) = true := by simp; omega
    have w1 : IntKind.i64.wrap ((i : Int) + 1) = ((i + 1 : Nat) : Int) := by rw [wrapI (by omega) (by omega)]; omega
    have e := ec3_1_1_1_1_1_1_1_1_1_1_1_1_1_1_0_1_0_0 kOc T S
    by_cases hip : i = p
    · subst hip
      have d2 : ((i : Int) == (i : Int)) = true := by simp
      simp (decide := true) only [mv_eq, g1_eq, g2_eq, bindR_val, condR_boolV, condT, binOp_int, intOp_add, intOp_eql, intOp_lss, kOc_nxt, kOc_ret, kOc_exit, t23, R.t9, P.t18, fa29_3, Nat.zero_add, I.lq, lv2, d1, d2, ec3_1_1_1_1_1_1_1_1_1_1_1_1_1_1_0_1_0_0_1_1, w1, puts_cons, puts_nil, putE_ne] at e
      obtain ⟨T1, e1, R1, P1, k22, k23⟩ : ∃ T1, denK tab W V 183 c3_1_1_1_1_1_1_1_1_1_1_1_1_1_1_0_1_0_0 kOc T S = .ok (.nxt T1 S) ∧ RgA T1 a0 a1 a2 nv b9 b10 ∧ RgP T1 iv i b19 b20 ∧ T1 22 = intV .i64 ((if i + 1 ≤ i then i + 1 else i + 1 - 1 : Nat) : Int) ∧ T1 23 = intV .i64 ((i + 1 : Nat) : Int) := by
        refine ⟨_, e, ?_, ?_, ?_, ?_⟩
        · constructor <;> simp (decide := true) only [putE_ne, R.t0, R.t1, R.t2, R.t3, R.t9, R.t10, R.t11]
        · constructor <;> simp (decide := true) only [putE_ne, P.t16, P.t18, P.t19, P.t20]
        · rw [if_neg (by omega)]
          rw [if_pos (Nat.le_refl _)] at t22
          simp (decide := true) only [putE_ne, t22]
          rfl
        · simp (decide := true) only [putE_same]
      obtain ⟨T', S', z1, z2⟩ := ih (i + 1) (by omega) T1 S I hQ hlo hhv A20 hV R1 P1 k22 k23
      exact ⟨T', S', loop_next (dd_of tab W V 183 e1) z1, z2⟩
    · have hil : i < qs.length := by omega
      obtain ⟨q, hqi⟩ : ∃ q, qs[i]? = some q := ⟨_, List.getElem?_eq_getElem hil⟩
      obtain ⟨ji, mi⟩ := q
      obtain ⟨k, hk⟩ : ∃ k : Nat, k = if i ≤ p then i else i - 1 := ⟨_, rfl⟩
      rw [← hk] at t22
      have hkq : (cut p qs ++ [(j, m)])[k]? = some (ji, mi) := by
        have := cut_get (q := (j, m)) hp hil hip
        rw [hqi] at this
        rw [hk]
        have hc : (if i ≤ p then i else i - 1) = (if i < p then i else i - 1) := by
          by_cases h : i < p
          · rw [if_pos h, if_pos (by omega)]
          · rw [if_neg h, if_neg (by omega)]
        rw [hc]; exact this
      obtain ⟨b1, r1, g1, g2, g3, g4⟩ := hV.get fam0 hkq
      obtain ⟨b2, r2, h1, h2, h3, h4⟩ := hQ.get fam0 hqi
      have c1 := cells_r g3
      have c2 := cells_r h3
      have hvc := hV.cell
      have hqc := hQ.cell
      obtain ⟨s2, p11, gs⟩ := P11 (hN.ok _ (List.mem_of_getElem? hqi)) I.M g3 h3
      have l20 : loadV tab S 24 (.ptr b20 3) = .ok v' := ld l24 A20 rfl
      have d2 : ((i : Int) == (p : Int)) = false := by simp; omega
      have b0 : bndA S.n (.func (.func 11) [] []) = true := rfl
      have b1' : bndA S.n (.agg r1) = true := c1.2 _ hhv
      have b2' : bndA S.n (.agg r2) = true := c2.2 _ hlo
      have y1 : Nat.ble S.n s2.n = true := Nat.ble_eq_true_of_le gs.n
      have w2 : IntKind.i64.wrap ((k : Int) + 1) = ((k + 1 : Nat) : Int) := by
        have : k ≤ i := by rw [hk]; split <;> omega
        rw [wrapI (by omega) (by omega)]; omega
      simp (decide := true) only [mv_eq, g1_eq, g2_eq, bindR_val, retK_ret, condR_boolV, condT, condF, Bool.not_true, binOp_int, unOp_not, intOp_add, intOp_eql, intOp_lss, kOc_nxt, kOc_ret, kOc_exit, t22, t23, R.t9, P.t18, P.t20, fa29_3, Nat.zero_add, I.lq, lv2, d1, d2, l20, sameR, hvc.2.1, hqc.2.1, Bool.and_true, condT, g1, g2, h1, h2, c1.1, c2.1, List.all_cons, List.all_nil, b0, b1', b2', Bool.and_self, p11, y1, w2, ec3_1_1_1_1_1_1_1_1_1_1_1_1_1_1_0_1_0_0_1_1, w1, puts_cons, puts_nil, putE_ne] at e
      obtain ⟨T1, e1, R1, P1, k22, k23⟩ : ∃ T1, denK tab W V 183 c3_1_1_1_1_1_1_1_1_1_1_1_1_1_1_0_1_0_0 kOc T S = .ok (.nxt T1 s2) ∧ RgA T1 a0 a1 a2 nv b9 b10 ∧ RgP T1 iv p b19 b20 ∧ T1 22 = intV .i64 ((if i + 1 ≤ p then i + 1 else i + 1 - 1 : Nat) : Int) ∧ T1 23 = intV .i64 ((i + 1 : Nat) : Int) := by
        refine ⟨_, e, ?_, ?_, ?_, ?_⟩
        · constructor <;> simp (decide := true) only [putE_ne, R.t0, R.t1, R.t2, R.t3, R.t9, R.t10, R.t11]
        · constructor <;> simp (decide := true) only [putE_ne, P.t16, P.t18, P.t19, P.t20]
        · have hh : (if i + 1 ≤ p then i + 1 else i + 1 - 1) = k + 1 := by
            rw [hk]
            by_cases h : i < p
            · rw [if_pos (by omega), if_pos (by omega)]
            · rw [if_neg (by omega), if_neg (by omega)]; omega
          rw [hh]
          simp (decide := true) only [putE_same, putE_ne]
        · simp (decide := true) only [putE_same]
      obtain ⟨T', S', z1, z2, z3, z4⟩ := ih (i + 1) (by omega) T1 s2 (I.gw gs) (hQ.gw gs) (Nat.le_trans hlo gs.n) (Nat.le_trans hhv gs.n) (A20.gw gs) (hV.gw gs) R1 P1 k22 k23
      exact ⟨T', S', loop_next (dd_of tab W V 183 e1) z1, z2, z3, gs.trans z4⟩
end Go.Proofs.YtkpkmjanikkpoaaGreatDoor
