/-
  A part of the proof. No statement of this seat stands here.
-/
import Derived.Test.YtcibhglcmcgneaaGreatDoorP08
import Derived.Test.YtcibhglcmcgneaaGreatDoorP09
import Derived.Test.YtcibhglcmcgneaaGreatDoorP06
namespace Go.Proofs.YtcibhglcmcgneaaGreatDoor
open Go Go.Dt
set_option maxRecDepth 100000

/-- a query that is right: a text, and a number -/
def okQ (q : Nat × Int) : Prop := q.1 < 6 ∧ 1 ≤ q.2 ∧ q.2 ≤ 20
def tenC (had : Int) (qv : AV) : List AV := [boolV true, intV .u64 1, intV .i64 had, qv, intV .i64 2, nilS, intV .i64 0]
theorem tenC_spl (had : Int) (a b : AV) : splice (tenC had a) 3 [b] = tenC had b := rfl

/-- the call that copies a query -/
theorem P50 {j : Nat} {m : Int} (hq : okQ (j, m)) {σ : St} (hM : σ.M = M0) {lo hi : Nat} {r : List AV} (hr : DpL σ lo hi (x0 j m) r) :
    ∃ r' σ', W 50 [.agg r] σ = .ok (.ret (.agg r'), σ') ∧ Gw σ σ' ∧ DpL σ' σ.n σ'.n (x0 j m) r' := by
  obtain ⟨x, σ', h1, h2, h3⟩ := (k50 j m hq.1 hq.2.1 hq.2.2).call hM (xs := [.agg r]) (lo := lo) (hi := hi) (by
    simp only [DpL, Dp]
    exact ⟨_, [], rfl, ⟨r, rfl, hr⟩, rfl⟩)
  simp only [Dp] at h3
  obtain ⟨l, rfl, h3⟩ := h3
  exact ⟨l, σ', h1, h2, h3⟩

/-- the loop of tenant.own over the queries -/
theorem loop23 (had : Int) (n0 n1 lq : Nat) (qv : AV) (qs : List (Nat × Int)) (hok : ∀ q ∈ qs, okQ q) (hlen : qs.length < 1000) : ∀ (m i : Nat), i + m = qs.length → ∀ (T : Rg) (σ : St) (v : AV), WF σ → σ.M = M0 →
    n0 < n1 → lq ≤ n0 → QL x0 σ 0 lq qv qs → At σ n0 (.cells (tenC had qv) 29 true 7) → At σ n1 (.cells (tenC had v) 94 true 7) → QV x0 σ (n1 + 1) σ.n v (qs.take i) →
    T 1 = .ptr n0 0 → T 3 = .ptr n1 0 → T 16 = qv → T 17 = intV .i64 (qs.length : Int) → T 18 = intV .i64 (i : Int) →
    ∃ T' σ' v', loopLim (dd tab W V 66 c23_1_1_1_0_1_0_0) T σ = .ok (.exit 0 T' σ') ∧ Up n1 σ σ' ∧ At σ' n1 (.cells (tenC had v') 94 true 7) ∧ QV x0 σ' (n1 + 1) σ'.n v' qs ∧ T' 1 = .ptr n0 0 ∧ T' 3 = .ptr n1 0 := by
  intro m
  induction m with
  | zero =>
    intro i hi T σ v hw hM h01 hlq hQ hA0 hA1 hV h1 h3 h16 h17 h18
    have e := ec23_1_1_1_0_1_0_0 kOc T σ
    have d1 : decide ((i : Int) < (qs.length : Int)) = false := by simp; omega
    simp only [g1_eq, bindR_val, h17, h18, binOp_int, intOp_lss, d1, condR_boolV, condF, kOc_exit] at e
    refine ⟨_, σ, v, loop_exit (dd_of tab W V 66 e), (Gw.refl σ).up _, hA1, ?_, ?_, ?_⟩
    · rw [List.take_of_length_le (by omega)] at hV; exact hV
    · simp (decide := true) only [puts_cons, puts_nil, putE_ne, h1]
    · simp (decide := true) only [puts_cons, puts_nil, putE_ne, h3]
  | succ m ih =>
    intro i hi T σ v hw hM h01 hlq hQ hA0 hA1 hV h1 h3 h16 h17 h18
    have hil : i < qs.length := by omega
    obtain ⟨q, hq⟩ : ∃ q, qs[i]? = some q := ⟨_, List.getElem?_eq_getElem hil⟩
    obtain ⟨bq, r, g1, g2, g3, g4⟩ := hQ.get fam0 hq
    have hqok := hok q (List.mem_of_getElem? hq)
    obtain ⟨j, mm⟩ := q
    have e := ec23_1_1_1_0_1_0_0 kOc T σ
    have d1 : decide ((i : Int) < (qs.length : Int)) = true := by simp; omega
    have w1 : IntKind.i64.wrap ((i : Int) + 1) = ((i + 1 : Nat) : Int) := by rw [wrapI (by omega) (by omega)]; omega
    -- the query's own box
    have rc := g3.cells (fam0.pl j mm)
    have hC := At.new σ (.cells z68 68 true 24)
    obtain ⟨s4, hs4⟩ : ∃ s4, s4 = (σ.push (.cells z68 68 true 24)).set σ.n (.cells r 68 true 24) := ⟨_, rfl⟩
    have hst : storeV tab (σ.push (.cells z68 68 true 24)) 68 (.ptr σ.n 0) (.agg r) = .ok s4 := by
      rw [hs4]
      have := stv (o := 0) (x := .agg r) s68 hC g4 (by omega) (by show 0 + 24 ≤ 24; omega) rc.1
      rw [this]
      congr 3
      show splice z68 0 r = r
      match r, g4 with
      | [a0, a1, a2, a3, a4, a5, a6, a7, a8, a9, b0, b1, b2, b3, b4, b5, b6, b7, b8, b9, c0, c1, c2, c3], _ => rfl
    have u4 : Gw σ s4 := by rw [hs4]; exact ((Gw.push σ _).up σ.n |>.trans (Up.set (Nat.le_refl _) hC.1 _)).gw (Nat.le_refl _)
    have hD : At s4 σ.n (.cells r 68 true 24) := by rw [hs4]; exact hC.set_same (WF.push hw _) _
    have n4 : s4.n = σ.n + 1 := by rw [hs4]; rfl
    have ld5 : loadV tab s4 68 (.ptr σ.n 0) = .ok (.agg r) := lda a68 hD (by rw [List.drop_zero]; exact List.take_of_length_le (by omega)) g4
    have hM4 : s4.M = M0 := u4.M.trans hM
    obtain ⟨r', s8, p1, p2, p3⟩ := P50 hqok hM4 (g3.gw u4)
    have u8 := u4.trans p2
    have hw8 : WF s8 := u8.len hw
    -- the list as it is
    have hA1' : At s8 n1 (.cells (tenC had v) 94 true 7) := hA1.gw u8
    have hA14 : At s4 n1 (.cells (tenC had v) 94 true 7) := hA1.gw u4
    have hV8 : QV x0 s8 (n1 + 1) σ.n v (qs.take i) := hV.gw u8
    have ld12 : loadV tab s8 24 (.ptr n1 3) = .ok v := ld l24 hA1' rfl
    have ld12' : loadV tab s4 24 (.ptr n1 3) = .ok v := ld l24 hA14 rfl
    have hr'l : r'.length = 24 := by rw [p3.length, fam0.len]
    have lt1 := hA1.1
    have hVn : QV x0 s8 (n1 + 1) s4.n v (qs.take i) := hV8.mono (Nat.le_refl _) (by omega) (Nat.le_refl _) (fun _ _ _ _ => rfl)
    obtain ⟨v2, s15, q1, q2, q3, q4⟩ := appQ fam0 hw8 hVn (by omega) p2.n p3 (by rw [List.length_take]; omega)
    have vc := hV8.ql.cell
    have vc2 := q3.ql.cell
    have hA15 : At s15 n1 (.cells (tenC had v) 94 true 7) := hA1'.up q4 (by omega)
    obtain ⟨s20, hs20⟩ : ∃ s20, s20 = s15.set n1 (.cells (tenC had v2) 94 true 7) := ⟨_, rfl⟩
    have hst2 : storeV tab s15 24 (.ptr n1 3) v2 = .ok s20 := by
      rw [hs20]
      have := stv (o := 3) (x := v2) s24 hA15 (by rw [vc2.2.2.2]; rfl) (by omega) (by show 3 + 1 ≤ 7; omega) (by rw [vc2.2.2.2]; simp [vc2.1])
      rw [this, vc2.2.2.2, tenC_spl]
    have n8 := p2.n
    have ub : Up n1 σ s20 := by
      rw [hs20]
      exact ((u8.up n1).trans (q4.le (by omega))).trans (Up.set (Nat.le_refl _) hA15.1 _)
    have hA20 : At s20 n1 (.cells (tenC had v2) 94 true 7) := by rw [hs20]; exact hA15.set_same (q4.len hw8) _
    have n20 : s20.n = s8.n + 2 := by rw [hs20]; exact q2
    have hV20 : QV x0 s20 (n1 + 1) s20.n v2 (qs.take (i + 1)) := by
      have : qs.take (i + 1) = qs.take i ++ [(j, mm)] := by rw [List.take_add_one, hq]; rfl
      rw [this, hs20]
      exact q3.mono (Nat.le_refl _) (Nat.le_refl _) (Nat.le_refl _) (fun b hb1 _ _ => getO_set_other hA15.1 (by omega))
    have b1 : bndA s4.n (.agg r) = true := by
      show bndL s4.n r = true
      exact rc.2.2 _ (by omega)
    have b2 : beqA (.agg r) (.agg r) = true := by
      unfold beqA; exact rc.2.1
    have b3 : bndO (s8.n + 1) (.cells r' 68 true 24) = true := by
      show bndL (s8.n + 1) r' = true
      exact (p3.cells (fam0.pl j mm)).2.2 _ (by omega)
    have b4 : bndA (s8.n + 1) v = true := vc.2.2.1 _ (by omega)
    have b5 : bndA (s8.n + 1) (.slice s8.n 0 1 (some 1) 24) = true := by
      show Nat.blt s8.n (s8.n + 1) = true
      rw [blt_eq]; simp
    have b6 : bndA s15.n v2 = true := vc2.2.2.1 _ (Nat.le_refl _)
    have b7 : bndA s15.n (.ptr n1 3) = true := by
      show Nat.blt n1 s15.n = true
      rw [blt_eq]; simp; omega
    have c1 : Nat.ble s4.n s8.n = true := Nat.ble_eq_true_of_le n8
    have c2 : Nat.ble (s8.n + 1) s15.n = true := Nat.ble_eq_true_of_le (by omega)
    have c3 : Nat.ble s15.n s20.n = true := Nat.ble_eq_true_of_le (by omega)
    have b0 : bndA s4.n (.func (.func 50) [] []) = true := rfl
    simp only [mv_eq, g1_eq, g2_eq, g3_eq, g4_eq, bindR_val, h3, h16, h17, h18, binOp_int, intOp_lss, d1, condR_boolV, condT, g1, g2, alloc68, hst, ld5, sameR, b2, Bool.and_true, List.all_cons, List.all_nil, b0, b1, Bool.and_self, p1, retK_ret, c1,
      nilCheck_ptr, fa94_0, fa29_3, Nat.zero_add, ld12, ld12', vc.2.1, bs24 r' hr'l, b3, push_n, b4, b5, q1, c2, b6, b7, hst2, c3, intOp_add, w1, kOc_nxt] at e
    have key : ∃ T1, denK tab W V 66 c23_1_1_1_0_1_0_0 kOc T σ = .ok (.nxt T1 s20) ∧ T1 1 = .ptr n0 0 ∧ T1 3 = .ptr n1 0 ∧ T1 16 = qv ∧ T1 17 = intV .i64 (qs.length : Int) ∧ T1 18 = intV .i64 ((i + 1 : Nat) : Int) := by
      refine ⟨_, e, ?_, ?_, ?_, ?_, ?_⟩ <;> simp (decide := true) only [puts_cons, puts_nil, putE_same, putE_ne, h1, h3, h16, h17]
    obtain ⟨T1, e1, k1, k3, k16, k17, k18⟩ := key
    obtain ⟨T', σ', v', z1, z2, z3, z4, z5, z6⟩ := ih (i + 1) (by omega) T1 s20 v2 (ub.len hw) (ub.M.trans hM) h01 hlq
      (hQ.mono (Nat.le_refl _) (Nat.le_refl _) ub.n fun b _ hb hg => ub.old b (getO_gone hg) (by omega)) (hA0.up ub h01) hA20 hV20 k1 k3 k16 k17 k18
    exact ⟨T', σ', v', loop_next (dd_of tab W V 66 e1) z1, ub.trans z2, z3, z4, z5, z6⟩
end Go.Proofs.YtcibhglcmcgneaaGreatDoor
namespace Go.Proofs.YtcibhglcmcgneaaGreatDoor
open Go Go.Dt
set_option maxRecDepth 100000

theorem x0_0 (j : Nat) (m : Int) : (x0 j m)[0]? = some (.b (.int .i64 m)) := by unfold x0; split <;> rfl
theorem x0_16 (j : Nat) (m : Int) : (x0 j m)[16]? = some (.b (.int .i64 9)) := by unfold x0; split <;> rfl
theorem x0_21 (j : Nat) (m : Int) : (x0 j m)[21]? = some (.b (.int .u64 1)) := by unfold x0; split <;> rfl
def cC : List AV := [intV .i64 1, intV .i64 4, intV .i64 9, intV .i64 2, intV .i64 0]

theorem W74 (had : Int) (qv : AV) {j : Nat} {m : Int} {lo hi : Nat} {r : List AV} (σ : St) (hr : DpL σ lo hi (x0 j m) r) : ∃ σ', W 74 [.agg cC, .agg (tenC had qv), .agg r] σ = .ok (.ret (intV .i64 0), σ') ∧ Gw σ σ' := by
  have h0 := At.new σ (.cells cC 41 true 5)
  have h1 := At.new (σ.push (.cells cC 41 true 5)) (.cells (tenC had qv) 29 true 7)
  have h2 := At.new ((σ.push (.cells cC 41 true 5)).push (.cells (tenC had qv) 29 true 7)) (.cells r 68 true 24)
  have h0' := (h0.push (.cells (tenC had qv) 29 true 7)).push (.cells r 68 true 24)
  have h1' := h1.push (.cells r 68 true 24)
  have e1 : (σ.push (.cells cC 41 true 5)).n = σ.n + 1 := rfl
  have e2 : ((σ.push (.cells cC 41 true 5)).push (.cells (tenC had qv) 29 true 7)).n = σ.n + 1 + 1 := rfl
  rw [e1] at h1'
  rw [e2] at h2
  have a1 : loadV tab (((σ.push (.cells cC 41 true 5)).push (.cells (tenC had qv) 29 true 7)).push (.cells r 68 true 24)) 23 (.ptr (σ.n + 1 + 1) 21) = .ok (intV .u64 1) := ld l23 h2 (hr.at 21 _ (x0_21 j m))
  have a2 : loadV tab (((σ.push (.cells cC 41 true 5)).push (.cells (tenC had qv) 29 true 7)).push (.cells r 68 true 24)) 23 (.ptr (σ.n + 1) 1) = .ok (intV .u64 1) := ld l23 h1' rfl
  have a3 : loadV tab (((σ.push (.cells cC 41 true 5)).push (.cells (tenC had qv) 29 true 7)).push (.cells r 68 true 24)) 3 (.ptr (σ.n + 1 + 1) 16) = .ok (intV .i64 9) := ld l3 h2 (hr.at 16 _ (x0_16 j m))
  have a4 : loadV tab (((σ.push (.cells cC 41 true 5)).push (.cells (tenC had qv) 29 true 7)).push (.cells r 68 true 24)) 3 (.ptr σ.n 2) = .ok (intV .i64 9) := ld l3 h0' rfl
  refine ⟨_, w74 (by simp) ?_, ((Gw.push σ (.cells cC 41 true 5)).trans (Gw.push _ (.cells (tenC had qv) 29 true 7))).trans (Gw.push _ (.cells r 68 true 24))⟩
  rw [ec74]
  have b1 : boxA tab 41 (.agg cC) σ.n = .ok (.ptr σ.n 0, .cells cC 41 true 5) := box41 _ _ _ _ _ _
  have b2 : boxA tab 29 (.agg (tenC had qv)) (σ.n + 1) = .ok (.ptr (σ.n + 1) 0, .cells (tenC had qv) 29 true 7) := box29 _ _ _ _ _ _ _ _
  have d1 : ((1 : Int) != 1) = false := rfl
  have d2 : ((9 : Int) != 9) = false := rfl
  simp (decide := true) only [mv_eq, g1_eq, bindR_val, condR_boolV, condF, binOp_int, intOp_neq, puts_cons, puts_nil, putE_same, b1, push_n, b2, box68, fa68_3, fa65_0, fa29_1, fa68_2, fa62_3, fa41_2, Nat.zero_add, Nat.reduceAdd, a1, a2, a3, a4, d1, d2, r74]

/- the map of the numbers that were seen -/
theorem und185 : und tab 185 = .ok (.map 3 4) := by kernel_rfl
theorem pk3 : plainKey tab 10 3 = true := by kernel_rfl
theorem eqI (a b : Int) : eqV tab 10 3 (intV .i64 a) (intV .i64 b) = .ok (a == b) := by kernel_rfl
theorem zero4 : zero tab 4 = .ok (boolV false) := by kernel_rfl
theorem findKey_no (m : Int) : ∀ (es : List (AV × AV × Nat)) (i : Nat), (∀ e ∈ es, ∃ n, e.1 = intV .i64 n ∧ n ≠ m) → findKey tab 3 (intV .i64 m) es i = .ok none
  | [], i, _ => rfl
  | (k, v, t) :: es, i, h => by
    obtain ⟨n, hk, hn⟩ := h (k, v, t) (by simp)
    simp only at hk
    subst hk
    have : (m == n) = false := by simp; omega
    unfold findKey
    rw [eqI, this, bindR_eq, bindR_val]
    simp only [Bool.false_eq_true, if_false]
    exact findKey_no m es (i + 1) (fun e he => h e (List.mem_cons_of_mem _ he))
theorem look_no {σ : St} {b : Nat} {es : List (AV × AV × Nat)} {cl : Nat} (hA : At σ b (.map es cl)) {m : Int} (h : ∀ e ∈ es, ∃ n, e.1 = intV .i64 n ∧ n ≠ m) :
    lookupV tab σ 185 (.mapv b) (intV .i64 m) false = .ok (boolV false) := by
  have hm : mapOf σ (.mapv b) = .ok (es, cl) := by
    unfold mapOf
    simp only [hA.1, if_true, hA.2]
  have e1 : (m == m) = true := by simp
  unfold lookupV
  simp only [und185, bindR_eq, bindR_val, pk3, if_true, hm, eqI, e1, Bool.not_true, Bool.false_eq_true, if_false, findKey_no m es 0 h, zero4]
  rfl
theorem upd_no {σ : St} {b : Nat} {es : List (AV × AV × Nat)} {cl : Nat} (hA : At σ b (.map es cl)) {m : Int} (h : ∀ e ∈ es, ∃ n, e.1 = intV .i64 n ∧ n ≠ m) (v : AV) :
    mapUpdQ tab σ 185 (.mapv b) (intV .i64 m) v = .ok (.skip, σ.set b (.map (es ++ [(intV .i64 m, v, cl)]) (cl + 1))) := by
  have hm : mapOf σ (.mapv b) = .ok (es, cl) := by
    unfold mapOf
    simp only [hA.1, if_true, hA.2]
  have e1 : (m == m) = true := by simp
  unfold mapUpdQ mapUpdate
  simp only [und185, bindR_eq, bindR_val, pk3, if_true, hm, eqI, e1, Bool.not_true, Bool.false_eq_true, if_false, findKey_no m es 0 h]
  rfl
end Go.Proofs.YtcibhglcmcgneaaGreatDoor
namespace Go.Proofs.YtcibhglcmcgneaaGreatDoor
open Go Go.Dt
set_option maxRecDepth 100000

theorem W26 (m n : Int) {j : Nat} {lo hi : Nat} {r : List AV} (σ : St) (bn : Nat) (hn : At σ bn (.cells [intV .i64 n] 3 true 1)) (hr : DpL σ lo hi (x0 j m) r) :
    ∃ σ', W 26 [.agg r, .ptr bn 0] σ = .ok (.ret (boolV (m == n)), σ') ∧ Gw σ σ' := by
  have h0 := At.new σ (.cells r 68 true 24)
  have hn' := hn.push (.cells r 68 true 24)
  have a1 : loadV tab (σ.push (.cells r 68 true 24)) 3 (.ptr σ.n 0) = .ok (intV .i64 m) := ld l3 h0 (hr.at 0 _ (x0_0 j m))
  have a2 : loadV tab (σ.push (.cells r 68 true 24)) 3 (.ptr bn 0) = .ok (intV .i64 n) := ld l3 hn' rfl
  refine ⟨_, w26 (by simp) ?_, Gw.push σ (.cells r 68 true 24)⟩
  rw [ec26]
  simp (decide := true) only [mv_eq, g1_eq, bindR_val, binOp_int, intOp_eql, puts_cons, puts_nil, putE_same, box68, fa68_0, a1, a2, r26]

/-- where a number stands -/
def idxQ (n : Int) : List (Nat × Int) → Nat → Int
  | [], _ => -1
  | q :: qs, i => bif q.2 == n then (i : Int) else idxQ n qs (i + 1)

theorem loop25 (n : Int) (bn lq : Nat) (qv : AV) (qs : List (Nat × Int)) (hlen : qs.length < 1000) : ∀ (k i : Nat), i + k = qs.length → ∀ (T : Rg) (σ : St), At σ bn (.cells [intV .i64 n] 3 true 1) → QL x0 σ 0 lq qv qs →
    T 0 = qv → T 1 = .func (.func 26) [] [.ptr bn 0] → T 7 = intV .i64 (qs.length : Int) → T 8 = intV .i64 (i : Int) →
    ∃ T' σ', Gw σ σ' ∧ ((∃ p, idxQ n (qs.drop i) i = p ∧ 0 ≤ p ∧ loopLim (dd tab W V 19 c25_1_0_1_0_0) T σ = .ok (.ret T' σ') ∧ T' 4 = intV .i64 p) ∨
      (idxQ n (qs.drop i) i = -1 ∧ loopLim (dd tab W V 19 c25_1_0_1_0_0) T σ = .ok (.exit 0 T' σ'))) := by
  intro k
  induction k with
  | zero =>
    intro i hi T σ hn hQ h0 h1 h7 h8
    have e := ec25_1_0_1_0_0 kOc T σ
    have d1 : decide ((i : Int) < (qs.length : Int)) = false := by simp; omega
    simp only [g1_eq, bindR_val, h7, h8, binOp_int, intOp_lss, d1, condR_boolV, condF, kOc_exit] at e
    refine ⟨_, σ, Gw.refl _, .inr ⟨?_, loop_exit (dd_of tab W V 19 e)⟩⟩
    rw [List.drop_eq_nil_of_le (by omega)]; rfl
  | succ k ih =>
    intro i hi T σ hn hQ h0 h1 h7 h8
    have hil : i < qs.length := by omega
    obtain ⟨q, hq⟩ : ∃ q, qs[i]? = some q := ⟨_, List.getElem?_eq_getElem hil⟩
    have hd : qs.drop i = q :: qs.drop (i + 1) := by
      rw [List.drop_eq_getElem_cons hil]
      congr 1
      rw [List.getElem?_eq_getElem hil] at hq
      exact Option.some.inj hq
    obtain ⟨bq, r, g1, g2, g3, g4⟩ := hQ.get fam0 hq
    obtain ⟨j, mm⟩ := q
    have e := ec25_1_0_1_0_0 kOc T σ
    have d1 : decide ((i : Int) < (qs.length : Int)) = true := by simp; omega
    have w1 : IntKind.i64.wrap ((i : Int) + 1) = ((i + 1 : Nat) : Int) := by rw [wrapI (by omega) (by omega)]; omega
    obtain ⟨σ1, p1, p2⟩ := W26 mm n σ bn hn g3
    have pc : callG tab W V (.func (.func 26) [] [.ptr bn 0]) [.agg r] σ = .ok (.ret (boolV (mm == n)), σ1) := by
      have : callG tab W V (.func (.func 26) [] [.ptr bn 0]) [.agg r] σ = W 26 [.agg r, .ptr bn 0] σ := by kernel_rfl
      rw [this, p1]
    simp only [mv_eq, g1_eq, g2_eq, bindR_val, h0, h1, h7, h8, binOp_int, intOp_lss, d1, condR_boolV, condT, g1, g2, pc, retK_ret, intOp_add, w1, kOc_nxt, kOc_ret] at e
    cases hb : mm == n with
    | true =>
      rw [hb] at e
      simp only [condT] at e
      refine ⟨_, σ1, p2, .inl ⟨(i : Int), ?_, by omega, loop_ret (dd_of tab W V 19 e), ?_⟩⟩
      · rw [hd]; simp only [idxQ, hb, cond_true]
      · simp (decide := true) only [puts_cons, puts_nil, putE_same]
    | false =>
      rw [hb] at e
      simp only [condF] at e
      have key : ∃ T1, denK tab W V 19 c25_1_0_1_0_0 kOc T σ = .ok (.nxt T1 σ1) ∧ T1 0 = qv ∧ T1 1 = .func (.func 26) [] [.ptr bn 0] ∧ T1 7 = intV .i64 (qs.length : Int) ∧ T1 8 = intV .i64 ((i + 1 : Nat) : Int) := by
        refine ⟨_, e, ?_, ?_, ?_, ?_⟩ <;> simp (decide := true) only [puts_cons, puts_nil, putE_same, putE_ne, h0, h1, h7]
      obtain ⟨T1, e1, t0, t1, t7, t8⟩ := key
      obtain ⟨T', σ', z1, z2⟩ := ih (i + 1) (by omega) T1 σ1 (hn.gw p2) (hQ.gw p2) t0 t1 t7 t8
      have hI : idxQ n (qs.drop i) i = idxQ n (qs.drop (i + 1)) (i + 1) := by rw [hd]; simp only [idxQ, hb, cond_false]
      refine ⟨T', σ', p2.trans z1, ?_⟩
      rcases z2 with ⟨p, y1, y2, y3, y4⟩ | ⟨y1, y2⟩
      · exact .inl ⟨p, hI.trans y1, y2, loop_next (dd_of tab W V 19 e1) y3, y4⟩
      · exact .inr ⟨hI.trans y1, loop_next (dd_of tab W V 19 e1) y2⟩

theorem W25 (n : Int) (bn lq : Nat) (qv : AV) (qs : List (Nat × Int)) (hlen : qs.length < 1000) (σ : St) (hn : At σ bn (.cells [intV .i64 n] 3 true 1)) (hQ : QL x0 σ 0 lq qv qs) :
    ∃ σ', W 25 [qv, .func (.func 26) [] [.ptr bn 0]] σ = .ok (.ret (intV .i64 (idxQ n qs 0)), σ') ∧ Gw σ σ' := by
  obtain ⟨T0, hT0⟩ : ∃ T0 : Rg, T0 = puts 19 (argE [qv, .func (.func 26) [] [.ptr bn 0]]) [(4, intV .i64 0), (6, qv), (7, intV .i64 (qs.length : Int)), (8, intV .i64 0)] := ⟨_, rfl⟩
  have t0 : T0 0 = qv := by rw [hT0]; simp (decide := true) only [puts_cons, puts_nil, putE_ne]; rfl
  have t1 : T0 1 = .func (.func 26) [] [.ptr bn 0] := by rw [hT0]; simp (decide := true) only [puts_cons, puts_nil, putE_ne]; rfl
  have t7 : T0 7 = intV .i64 (qs.length : Int) := by rw [hT0]; simp (decide := true) only [puts_cons, puts_nil, putE_same, putE_ne]
  have t8 : T0 8 = intV .i64 ((0 : Nat) : Int) := by rw [hT0]; simp (decide := true) only [puts_cons, puts_nil, putE_same]; rfl
  obtain ⟨T', σ', z1, z2⟩ := loop25 n bn lq qv qs hlen qs.length 0 (by omega) T0 σ hn hQ t0 t1 t7 t8
  refine ⟨σ', w25 (by simp) ?_, z1⟩
  rw [ec25]
  simp only [mv_eq, g1_eq, bindR_val, hQ.lenV, ← hT0]
  rcases z2 with ⟨p, y1, y2, y3, y4⟩ | ⟨y1, y2⟩
  · rw [y3, bindR_val]
    rw [List.drop_zero] at y1
    simp only [app_ret, kblk_ret, kseq_ret, r25, y4, y1]
  · rw [y2, bindR_val]
    rw [List.drop_zero] at y1
    simp (decide := true) only [app_exit, kblk_exit, if_true, kseq_nxt, ec25_1_1, mv_eq, bindR_val, app_exit, kblk_exit, kseq_nxt, kseq_exit, puts_cons, puts_nil, putE_same, r25, y1]

/-- tenant.Find -/
def findR (p : Int) : AV := bif decide (p < 0) then .tuple [intV .i64 0, intV .i64 7] else .tuple [intV .i64 p, intV .i64 0]
theorem W10 (had n : Int) (qv : AV) (qs : List (Nat × Int)) (hlen : qs.length < 1000) (σ : St) (hQ : QL x0 σ 0 σ.n qv qs) :
    ∃ σ', W 10 [.agg (tenC had qv), intV .i64 n] σ = .ok (.ret (findR (idxQ n qs 0)), σ') ∧ Gw σ σ' := by
  have h0 := At.new σ (.cells (tenC had qv) 29 true 7)
  have h1 := At.new (σ.push (.cells (tenC had qv) 29 true 7)) (.cells [intV .i64 n] 3 true 1)
  have h0' := h0.push (.cells [intV .i64 n] 3 true 1)
  have e1 : (σ.push (.cells (tenC had qv) 29 true 7)).n = σ.n + 1 := rfl
  rw [e1] at h1
  obtain ⟨S, hS⟩ : ∃ S, S = (σ.push (.cells (tenC had qv) 29 true 7)).push (.cells [intV .i64 n] 3 true 1) := ⟨_, rfl⟩
  rw [← hS] at h0' h1
  have g : Gw σ S := by rw [hS]; exact (Gw.push _ _).trans (Gw.push _ _)
  have a1 : loadV tab S 24 (.ptr σ.n 3) = .ok qv := ld l24 h0' rfl
  obtain ⟨σ', p1, p2⟩ := W25 n (σ.n + 1) σ.n qv qs hlen S h1 (hQ.gw g)
  refine ⟨σ', w10 (by simp) ?_, g.trans p2⟩
  rw [ec10]
  have b2 : boxA tab 29 (.agg (tenC had qv)) σ.n = .ok (.ptr σ.n 0, .cells (tenC had qv) 29 true 7) := box29 _ _ _ _ _ _ _ _
  simp only [mv_eq, g1_eq, g2_eq, bindR_val, b2, push_n, box3, ← hS, fa29_3, Nat.zero_add, a1, p1, retK_ret, binOp_int, intOp_lss, condR_boolV]
  unfold findR
  cases hd : decide (idxQ n qs 0 < 0) with
  | true => simp (decide := true) only [condT, puts_cons, puts_nil, putE_same, putE_ne, r10]
  | false => simp (decide := true) only [condF, puts_cons, puts_nil, putE_same, putE_ne, r10]
end Go.Proofs.YtcibhglcmcgneaaGreatDoor
namespace Go.Proofs.YtcibhglcmcgneaaGreatDoor
open Go Go.Dt
set_option maxRecDepth 100000

@[simp] theorem putE_none (N : Nat) (T : Rg) (v : AV) : putE N T none v = T := eqBy rfl
theorem nextK_skip {ρ : Type} (N : Nat) (T : Rg) (d : Option Tmp) (k : Rg → St → R ρ) (kp : AV → St → R ρ) (σ : St) : nextK W V N T d k kp .skip σ = k (putE N T d .undef) σ := eqBy rfl
theorem nextK_val {ρ : Type} (N : Nat) (T : Rg) (d : Option Tmp) (k : Rg → St → R ρ) (kp : AV → St → R ρ) (v : AV) (σ : St) : nextK W V N T d k kp (.value v) σ = k (putE N T d v) σ := eqBy rfl
def svC (rv : AV) : List AV := [rv, intV .u64 0, intV .u64 0, intV .u64 9]
/-- the store's value -/
structure StV (σ : St) (hi : Nat) (rv : AV) : Prop where
  is : Dp σ 0 hi stS (.agg (svC rv))
theorem StV.gw {σ σ' : St} {hi : Nat} {rv : AV} (h : StV σ hi rv) (g : Gw σ σ') : StV σ' hi rv := ⟨h.is.gw g⟩
theorem StV.up {lo : Nat} {σ σ' : St} {hi : Nat} {rv : AV} (h : StV σ hi rv) (u : Up lo σ σ') (hl : hi ≤ lo) : StV σ' hi rv :=
  ⟨Dp.mono (Nat.le_refl _) (Nat.le_refl _) (fun b _ hb hg => u.old b (getO_gone hg) (by omega)) _ _ h.is⟩
theorem StV.le {σ : St} {hi hi' : Nat} {rv : AV} (h : StV σ hi rv) (hl : hi ≤ hi') : StV σ hi' rv := ⟨Dp.mono (Nat.le_refl _) hl (fun _ _ _ _ => rfl) _ _ h.is⟩
theorem QL.up {x : Nat → Int → List Tt} {lo l h : Nat} {σ σ' : St} {v : AV} {qs : List (Nat × Int)} (q : QL x σ l h v qs) (u : Up lo σ σ') (hl : h ≤ lo) : QL x σ' l h v qs :=
  q.mono (Nat.le_refl _) (Nat.le_refl _) u.n fun b _ hb hg => u.old b (getO_gone hg) (by omega)
theorem QL.le {x : Nat → Int → List Tt} {l h h' : Nat} {σ : St} {v : AV} {qs : List (Nat × Int)} (q : QL x σ l h v qs) (hl : h ≤ h') : QL x σ l h' v qs :=
  q.mono (Nat.le_refl _) hl (Nat.le_refl _) fun _ _ _ _ => rfl

/-- query.Check -/
theorem P73 {j : Nat} {m : Int} (hq : okQ (j, m)) {σ : St} (hM : σ.M = M0) {hi hi' : Nat} {rv : AV} (hs : StV σ hi rv) {lo : Nat} {r : List AV} (hr : DpL σ lo hi' (x0 j m) r) :
    ∃ σ', W 73 [.agg (svC rv), .agg r] σ = .ok (.ret (intV .i64 0), σ') ∧ Gw σ σ' := by
  obtain ⟨x, σ', h1, h2, h3⟩ := (k73 j m hq.1 hq.2.1 hq.2.2).call hM (xs := [.agg (svC rv), .agg r]) (lo := 0) (hi := max hi hi') (by
    rw [DpL]
    refine ⟨_, _, rfl, Dp.mono (Nat.le_refl _) (Nat.le_max_left _ _) (fun _ _ _ _ => rfl) _ _ hs.is, ?_⟩
    simp only [DpL, Dp]
    exact ⟨_, [], rfl, ⟨r, rfl, DpL.mono (Nat.zero_le _) (Nat.le_max_right _ _) (fun _ _ _ _ => rfl) _ _ hr⟩, rfl⟩)
  have : x = intV .i64 0 := by
    simp only [I, Dp] at h3
    exact h3
  subst this
  exact ⟨σ', h1, h2⟩

structure Numb (had : Int) (qs : List (Nat × Int)) : Prop where
  ok : ∀ q ∈ qs, okQ q
  le : ∀ q ∈ qs, q.2 ≤ had
  nd : (qs.map (·.2)).Nodup

theorem loop42 (had : Int) (b0 b1 b2 bm lq : Nat) (rv qv : AV) (qs : List (Nat × Int)) (hN : Numb had qs) (hlen : qs.length < 1000) (h01 : b0 < bm) (h1m : b1 < bm) (h2m : b2 < bm) (hlq : lq ≤ bm) : ∀ (k i : Nat), i + k = qs.length → ∀ (T : Rg) (σ : St) (es : List (AV × AV × Nat)) (cl : Nat), WF σ → σ.M = M0 →
    At σ b0 (.cells (svC rv) 33 true 4) → At σ b1 (.cells cC 41 true 5) → At σ b2 (.cells (tenC had qv) 29 true 7) → At σ bm (.map es cl) → (∀ e ∈ es, ∃ n, e.1 = intV .i64 n ∧ n ∈ (qs.take i).map (·.2)) →
    StV σ lq rv → QL x0 σ 0 lq qv qs →
    T 3 = .ptr b0 0 → T 4 = .ptr b1 0 → T 5 = .ptr b2 0 → T 7 = .mapv bm → T 13 = qv → T 14 = intV .i64 (qs.length : Int) → T 15 = intV .i64 (i : Int) →
    ∃ T' σ', loopLim (dd tab W V 51 c42_1_1_0_1_0_0) T σ = .ok (.exit 0 T' σ') ∧ Up bm σ σ' := by
  intro k
  induction k with
  | zero =>
    intro i hi T σ es cl hw hM hA0 hA1 hA2 hAm hes hS hQ t3 t4 t5 t7 t13 t14 t15
    have e := ec42_1_1_0_1_0_0 kOc T σ
    have d1 : decide ((i : Int) < (qs.length : Int)) = false := by simp; omega
    simp only [g1_eq, bindR_val, t14, t15, binOp_int, intOp_lss, d1, condR_boolV, condF, kOc_exit] at e
    exact ⟨_, σ, loop_exit (dd_of tab W V 51 e), (Gw.refl σ).up _⟩
  | succ k ih =>
    intro i hi T σ es cl hw hM hA0 hA1 hA2 hAm hes hS hQ t3 t4 t5 t7 t13 t14 t15
    have hil : i < qs.length := by omega
    obtain ⟨q, hq⟩ : ∃ q, qs[i]? = some q := ⟨_, List.getElem?_eq_getElem hil⟩
    obtain ⟨bq, r, g1, g2, g3, g4⟩ := hQ.get fam0 hq
    have hmem := List.mem_of_getElem? hq
    have hqok := hN.ok q hmem
    have hqle := hN.le q hmem
    have hnd := hN.nd
    obtain ⟨j, mm⟩ := q
    simp only at hqle
    have hne : ∀ e ∈ es, ∃ n, e.1 = intV .i64 n ∧ n ≠ mm := by
      intro e he
      obtain ⟨n, hn, hn2⟩ := hes e he
      refine ⟨n, hn, fun hh => ?_⟩
      subst hh
      have h1 : (qs.map (·.2))[i]? = some n := by rw [List.getElem?_map, hq]; rfl
      rw [List.map_take] at hn2
      obtain ⟨a, ha, hx⟩ := List.getElem_of_mem hn2
      have ha' : a < i := by
        have := ha; rw [List.length_take] at this; omega
      rw [List.getElem_take] at hx
      have h2 : (qs.map (·.2))[a]? = some n := by
        rw [List.getElem?_eq_getElem (by rw [List.length_map]; omega), hx]
      have hai : a < (qs.map (·.2)).length := by rw [List.length_map]; omega
      have := (List.getElem?_inj hai hnd (j := i)).1 (h2.trans h1.symm)
      omega
    have e := ec42_1_1_0_1_0_0 kOc T σ
    have d1 : decide ((i : Int) < (qs.length : Int)) = true := by simp; omega
    have w1 : IntKind.i64.wrap ((i : Int) + 1) = ((i + 1 : Nat) : Int) := by rw [wrapI (by omega) (by omega)]; omega
    have rc := g3.cells (fam0.pl j mm)
    have hC := At.new σ (.cells z68 68 true 24)
    obtain ⟨s4, hs4⟩ : ∃ s4, s4 = (σ.push (.cells z68 68 true 24)).set σ.n (.cells r 68 true 24) := ⟨_, rfl⟩
    have hst : storeV tab (σ.push (.cells z68 68 true 24)) 68 (.ptr σ.n 0) (.agg r) = .ok s4 := by
      rw [hs4]
      have := stv (o := 0) (x := .agg r) s68 hC g4 (by omega) (by show 0 + 24 ≤ 24; omega) rc.1
      rw [this]
      congr 3
      show splice z68 0 r = r
      match r, g4 with
      | [a0, a1, a2, a3, a4, a5, a6, a7, a8, a9, b0, b1, b2, b3, b4, b5, b6, b7, b8, b9, c0, c1, c2, c3], _ => rfl
    have u4 : Gw σ s4 := by rw [hs4]; exact ((Gw.push σ _).up σ.n |>.trans (Up.set (Nat.le_refl _) hC.1 _)).gw (Nat.le_refl _)
    have hD : At s4 σ.n (.cells r 68 true 24) := by rw [hs4]; exact hC.set_same (WF.push hw _) _
    have n4 : s4.n = σ.n + 1 := by rw [hs4]; rfl
    have hAm4 := hAm.gw u4
    have bmn := hAm.1
    have ldn : loadV tab s4 3 (.ptr σ.n 0) = .ok (intV .i64 mm) := ld l3 hD (g3.at 0 _ (x0_0 j mm))
    have ldh : loadV tab s4 3 (.ptr b2 2) = .ok (intV .i64 had) := ld l3 (hA2.gw u4) rfl
    have d2 : decide (mm < 1) = false := by have := hqok.2.1; simp at this ⊢; omega
    have d3 : decide (mm > had) = false := by simp; omega
    have lk := look_no hAm4 hne
    have up := upd_no hAm4 hne (boolV true)
    obtain ⟨s5, hs5⟩ : ∃ s5, s5 = s4.set bm (.map (es ++ [(intV .i64 mm, boolV true, cl)]) (cl + 1)) := ⟨_, rfl⟩
    rw [← hs5] at up
    have u5 : Up bm s4 s5 := by rw [hs5]; exact Up.set (Nat.le_refl _) hAm4.1 _
    have u05 : Up bm σ s5 := (u4.up bm).trans u5
    have hAm5 : At s5 bm (.map (es ++ [(intV .i64 mm, boolV true, cl)]) (cl + 1)) := by rw [hs5]; exact hAm4.set_same (u4.len hw) _
    have hD5 : At s5 σ.n (.cells r 68 true 24) := by rw [hs5]; exact hD.set_ne hAm4.1 (by omega) _
    have ld27 : loadV tab s5 33 (.ptr b0 0) = .ok (.agg (svC rv)) := lda a33 (hA0.up u05 h01) rfl rfl
    have ld28 : loadV tab s5 68 (.ptr σ.n 0) = .ok (.agg r) := lda a68 hD5 (by rw [List.drop_zero]; exact List.take_of_length_le (by omega)) g4
    have g35 : DpL s5 0 lq (x0 j mm) r := DpL.mono (Nat.le_refl _) (Nat.le_refl _) (fun b _ hb hg => u05.old b (getO_gone hg) (by omega)) _ _ g3
    obtain ⟨s6, p1, p2⟩ := P73 hqok (u05.M.trans hM) (hS.up u05 hlq) g35
    have u06 : Up bm σ s6 := u05.trans (p2.up bm)
    have ld35 : loadV tab s6 41 (.ptr b1 0) = .ok (.agg cC) := lda a41 (hA1.up u06 h1m) rfl rfl
    have ld36 : loadV tab s6 29 (.ptr b2 0) = .ok (.agg (tenC had qv)) := lda a29 (hA2.up u06 h2m) rfl rfl
    have ld37 : loadV tab s6 68 (.ptr σ.n 0) = .ok (.agg r) := lda a68 (hD5.gw p2) (by rw [List.drop_zero]; exact List.take_of_length_le (by omega)) g4
    obtain ⟨s7, f1, f2⟩ := W74 had qv s6 (g35.gw p2)
    have u07 : Up bm σ s7 := u06.trans (f2.up bm)
    have c0 : ((0 : Int) == 0) = true := rfl
    have c1 : ((0 : Int) != 0) = false := rfl
    simp (decide := true) only [mv_eq, g1_eq, g2_eq, g3_eq, bindR_val, retK_ret, condR_boolV, condT, condF, isBoolV_f, Bool.not_false, pickV_boolV, binOp_int, intOp_add, intOp_eql, intOp_neq, intOp_lss, intOp_gtr, kOc_nxt, kOc_ret, kOc_exit, kblk_nxt, kblk_ret, kseq_nxt, kseq_ret, g1, g2, t3, t4, t5, t7, t13, t14, t15, d1, alloc68, hst, fa68_0, fa29_2, Nat.zero_add, ldn, ldh, d2, d3, lk, up, nextK_skip, putE_none, puts_cons, puts_nil, putE_same, putE_ne, ld27, ld28, p1, c0, ld35, ld36, ld37, f1,
      ec42_1_1_0_1_0_0_1_1_0_0_1_1_1_1_1, c1, ec42_1_1_0_1_0_0_1_1_1, w1] at e
    have key : ∃ T1, denK tab W V 51 c42_1_1_0_1_0_0 kOc T σ = .ok (.nxt T1 s7) ∧ T1 3 = .ptr b0 0 ∧ T1 4 = .ptr b1 0 ∧ T1 5 = .ptr b2 0 ∧ T1 7 = .mapv bm ∧ T1 13 = qv ∧ T1 14 = intV .i64 (qs.length : Int) ∧ T1 15 = intV .i64 ((i + 1 : Nat) : Int) := by
      refine ⟨_, e, ?_, ?_, ?_, ?_, ?_, ?_, ?_⟩ <;> simp (decide := true) only [putE_same, putE_ne, t3, t4, t5, t7, t13, t14]
    obtain ⟨T1, e1, k3, k4, k5, k7, k13, k14, k15⟩ := key
    obtain ⟨T', σ', z1, z2⟩ := ih (i + 1) (by omega) T1 s7 (es ++ [(intV .i64 mm, boolV true, cl)]) (cl + 1) (u07.len hw) (u07.M.trans hM) (hA0.up u07 h01) (hA1.up u07 h1m) (hA2.up u07 h2m) ((hAm5.gw p2).gw f2) (by
        intro e he
        have ht : qs.take (i + 1) = qs.take i ++ [(j, mm)] := by rw [List.take_add_one, hq]; rfl
        rw [ht, List.map_append]
        rcases List.mem_append.1 he with he | he
        · obtain ⟨n, a1, a2⟩ := hes e he
          exact ⟨n, a1, List.mem_append_left _ a2⟩
        · simp only [List.mem_singleton] at he
          subst he
          exact ⟨mm, rfl, by simp⟩)
      (hS.up u07 hlq) (hQ.up u07 hlq) k3 k4 k5 k7 k13 k14 k15
    exact ⟨T', σ', loop_next (dd_of tab W V 51 e1) z1, u07.trans z2⟩
end Go.Proofs.YtcibhglcmcgneaaGreatDoor
namespace Go.Proofs.YtcibhglcmcgneaaGreatDoor
open Go Go.Dt
set_option maxRecDepth 100000

theorem box33' (rv : AV) (n : Nat) : boxA tab 33 (.agg (svC rv)) n = .ok (.ptr n 0, .cells (svC rv) 33 true 4) := box33 _ _ _ _ _
theorem box41' (n : Nat) : boxA tab 41 (.agg cC) n = .ok (.ptr n 0, .cells cC 41 true 5) := box41 _ _ _ _ _ _
theorem box29' (had : Int) (qv : AV) (n : Nat) : boxA tab 29 (.agg (tenC had qv)) n = .ok (.ptr n 0, .cells (tenC had qv) 29 true 7) := box29 _ _ _ _ _ _ _ _
/-- three boxes -/
structure Box3 (σ S : St) (rv : AV) (had : Int) (qv : AV) : Prop where
  g : Gw σ S
  n : S.n = σ.n + 3
  a0 : At S σ.n (.cells (svC rv) 33 true 4)
  a1 : At S (σ.n + 1) (.cells cC 41 true 5)
  a2 : At S (σ.n + 2) (.cells (tenC had qv) 29 true 7)
theorem mkBox3 (σ : St) (rv : AV) (had : Int) (qv : AV) : Box3 σ (((σ.push (.cells (svC rv) 33 true 4)).push (.cells cC 41 true 5)).push (.cells (tenC had qv) 29 true 7)) rv had qv where
  g := ((Gw.push _ _).trans (Gw.push _ _)).trans (Gw.push _ _)
  n := rfl
  a0 := ((At.new _ _).push _).push _
  a1 := (At.new _ _).push _
  a2 := At.new _ _

/-- tenant.queries -/
theorem W42 (had : Int) (rv qv : AV) (qs : List (Nat × Int)) (hN : Numb had qs) (hlen : qs.length < 1000) (σ : St) (hw : WF σ) (hM : σ.M = M0) (hS : StV σ σ.n rv) (hQ : QL x0 σ 0 σ.n qv qs) :
    ∃ σ', W 42 [.agg (svC rv), .agg cC, .agg (tenC had qv)] σ = .ok (.ret (intV .i64 0), σ') ∧ Gw σ σ' := by
  have B := mkBox3 σ rv had qv
  obtain ⟨S, hSt⟩ : ∃ S, S = ((σ.push (.cells (svC rv) 33 true 4)).push (.cells cC 41 true 5)).push (.cells (tenC had qv) 29 true 7) := ⟨_, rfl⟩
  rw [← hSt] at B
  have hm := At.new S (.map [] 0)
  have gm := Gw.push S (.map [] 0)
  have n3 := B.n
  have g := B.g.trans gm
  have a2 := B.a2.gw gm
  have ldq : loadV tab (S.push (.map [] 0)) 24 (.ptr (σ.n + 2) 3) = .ok qv := ld l24 a2 rfl
  obtain ⟨T0, hT0⟩ : ∃ T0 : Rg, T0 = puts 51 (puts 51 (argE [.agg (svC rv), .agg cC, .agg (tenC had qv)]) [(3, .ptr σ.n 0), (4, .ptr (σ.n + 1) 0), (5, .ptr (σ.n + 2) 0), (6, intV .i64 0)])
    [(11, .mapv S.n), (7, .mapv S.n), (12, .ptr (σ.n + 2) 3), (13, qv), (14, intV .i64 (qs.length : Int)), (15, intV .i64 0)] := ⟨_, rfl⟩
  have t3 : T0 3 = .ptr σ.n 0 := by rw [hT0]; simp (decide := true) only [puts_cons, puts_nil, putE_same, putE_ne]
  have t4 : T0 4 = .ptr (σ.n + 1) 0 := by rw [hT0]; simp (decide := true) only [puts_cons, puts_nil, putE_same, putE_ne]
  have t5 : T0 5 = .ptr (σ.n + 2) 0 := by rw [hT0]; simp (decide := true) only [puts_cons, puts_nil, putE_same, putE_ne]
  have t7 : T0 7 = .mapv S.n := by rw [hT0]; simp (decide := true) only [puts_cons, puts_nil, putE_same, putE_ne]
  have t13 : T0 13 = qv := by rw [hT0]; simp (decide := true) only [puts_cons, puts_nil, putE_same, putE_ne]
  have t14 : T0 14 = intV .i64 (qs.length : Int) := by rw [hT0]; simp (decide := true) only [puts_cons, puts_nil, putE_same, putE_ne]
  have t15 : T0 15 = intV .i64 ((0 : Nat) : Int) := by rw [hT0]; simp (decide := true) only [puts_cons, puts_nil, putE_same]; rfl
  obtain ⟨T', σ', z1, z2⟩ := loop42 had σ.n (σ.n + 1) (σ.n + 2) S.n σ.n rv qv qs hN hlen (by omega) (by omega) (by omega) (by omega) qs.length 0 (by omega) T0 (S.push (.map [] 0)) [] 0 (g.len hw) (g.M.trans hM)
    (B.a0.gw gm) (B.a1.gw gm) a2 hm (by simp) (hS.gw g) (hQ.gw g) t3 t4 t5 t7 t13 t14 t15
  refine ⟨σ', w42 (by simp) ?_, ((g.up S.n).trans z2).gw (by omega)⟩
  · rw [ec42]
    simp only [bindR_val, mv_eq, box33', box41', box29', push_n, ← hSt]
    rw [ec42_1]
    simp (decide := true) only [bindR_val, mv_eq, g1_eq, puts_cons, puts_nil, putE_same, putE_ne, fa29_3, Nat.zero_add, Nat.add_assoc, Nat.reduceAdd, ldq, hQ.lenV]
    simp only [puts_cons, puts_nil] at hT0
    rw [← hT0, ec42_1_1_0_1, z1, bindR_val]
    simp (decide := true) only [app_exit, kblk_exit, if_true, kseq_nxt, ec42_1_1_1, mv_eq, bindR_val, puts_cons, puts_nil, putE_same, r42]

theorem P39 {σ : St} (hM : σ.M = M0) {hi : Nat} {rv : AV} (hs : StV σ hi rv) : ∃ σ', W 39 [.agg (svC rv)] σ = .ok (.ret (intV .i64 0), σ') ∧ Gw σ σ' := by
  obtain ⟨x, σ', h1, h2, h3⟩ := k39.call hM (xs := [.agg (svC rv)]) (lo := 0) (hi := hi) (by
    rw [DpL]
    exact ⟨_, _, rfl, hs.is, by simp only [DpL]⟩)
  have : x = intV .i64 0 := by
    simp only [I, Dp] at h3
    exact h3
  subst this
  exact ⟨σ', h1, h2⟩
theorem P40 {σ : St} (hM : σ.M = M0) : ∃ σ', W 40 [.agg cC] σ = .ok (.ret (intV .i64 0), σ') ∧ Gw σ σ' := by
  obtain ⟨x, σ', h1, h2, h3⟩ := k40.call hM (xs := [.agg cC]) (lo := 0) (hi := 0) (by
    simp only [DpL, Dp, cfC, I]
    exact ⟨_, _, rfl, ⟨_, rfl, _, _, rfl, rfl, _, _, rfl, rfl, _, _, rfl, rfl, _, _, rfl, rfl, _, _, rfl, rfl, rfl⟩, rfl⟩)
  have : x = intV .i64 0 := by
    simp only [I, Dp] at h3
    exact h3
  subst this
  exact ⟨σ', h1, h2⟩
theorem P41 {σ : St} (hM : σ.M = M0) : ∃ σ', W 41 [.agg [intV .i64 2, nilS, intV .i64 0]] σ = .ok (.ret (intV .i64 0), σ') ∧ Gw σ σ' := by
  obtain ⟨x, σ', h1, h2, h3⟩ := k41.call hM (xs := [.agg [intV .i64 2, nilS, intV .i64 0]]) (lo := 0) (hi := 0) (by
    simp only [DpL, Dp, qQ, I, N]
    exact ⟨_, _, rfl, ⟨_, rfl, _, _, rfl, rfl, _, _, rfl, rfl, _, _, rfl, rfl, rfl⟩, rfl⟩)
  have : x = intV .i64 0 := by
    simp only [I, Dp] at h3
    exact h3
  subst this
  exact ⟨σ', h1, h2⟩

/-- tenant.Check -/
theorem W14 (had : Int) (h0 : 0 ≤ had) (h20 : had ≤ 20) (rv qv : AV) (qs : List (Nat × Int)) (hN : Numb had qs) (hlen : qs.length ≤ 4) (σ : St) (hw : WF σ) (hM : σ.M = M0) (hS : StV σ σ.n rv) (hQ : QL x0 σ 0 σ.n qv qs) :
    ∃ σ', W 14 [.agg (svC rv), .agg cC, .agg (tenC had qv)] σ = .ok (.ret (intV .i64 0), σ') ∧ Gw σ σ' := by
  have B := mkBox3 σ rv had qv
  obtain ⟨S, hSt⟩ : ∃ S, S = ((σ.push (.cells (svC rv) 33 true 4)).push (.cells cC 41 true 5)).push (.cells (tenC had qv) 29 true 7) := ⟨_, rfl⟩
  rw [← hSt] at B
  have l0 : loadV tab S 33 (.ptr σ.n 0) = .ok (.agg (svC rv)) := lda a33 B.a0 rfl rfl
  obtain ⟨s1, p1, q1⟩ := P39 (B.g.M.trans hM) (hS.gw B.g)
  have G1 := B.g.trans q1
  have l1 : loadV tab s1 41 (.ptr (σ.n + 1) 0) = .ok (.agg cC) := lda a41 (B.a1.gw q1) rfl rfl
  obtain ⟨s2, p2, q2⟩ := P40 (G1.M.trans hM)
  have G2 := G1.trans q2
  have l2 : loadV tab s2 27 (.ptr (σ.n + 2) 4) = .ok (.agg [intV .i64 2, nilS, intV .i64 0]) := lda a27 ((B.a2.gw q1).gw q2) rfl rfl
  obtain ⟨s3, p3, q3⟩ := P41 (G2.M.trans hM)
  have G3 := G2.trans q3
  have A0 := ((B.a0.gw q1).gw q2).gw q3
  have A1 := ((B.a1.gw q1).gw q2).gw q3
  have A2 := ((B.a2.gw q1).gw q2).gw q3
  have r0 : loadV tab s3 4 (.ptr (σ.n + 2) 0) = .ok (boolV true) := ld l4 A2 rfl
  have r2 : loadV tab s3 3 (.ptr (σ.n + 2) 2) = .ok (intV .i64 had) := ld l3 A2 rfl
  have r3 : loadV tab s3 24 (.ptr (σ.n + 2) 3) = .ok qv := ld l24 A2 rfl
  have r4 : loadV tab s3 3 (.ptr (σ.n + 2) 4) = .ok (intV .i64 2) := ld l3 A2 rfl
  have c1 : loadV tab s3 3 (.ptr (σ.n + 1) 1) = .ok (intV .i64 4) := ld l3 A1 rfl
  have c3 : loadV tab s3 3 (.ptr (σ.n + 1) 3) = .ok (intV .i64 2) := ld l3 A1 rfl
  have w0 : loadV tab s3 33 (.ptr σ.n 0) = .ok (.agg (svC rv)) := lda a33 A0 rfl rfl
  have w1 : loadV tab s3 41 (.ptr (σ.n + 1) 0) = .ok (.agg cC) := lda a41 A1 rfl rfl
  have w2 : loadV tab s3 29 (.ptr (σ.n + 2) 0) = .ok (.agg (tenC had qv)) := lda a29 A2 rfl rfl
  obtain ⟨s4, p4, q4⟩ := W42 had rv qv qs hN (by omega) s3 (G3.len hw) (G3.M.trans hM) ((hS.gw G3).le G3.n) ((hQ.gw G3).le G3.n)
  refine ⟨s4, w14 (by simp) ?_, G3.trans q4⟩
  have d0 : ((0 : Int) == 0) = true := rfl
  have d1 : ((0 : Int) != 0) = false := rfl
  have d2 : ((2 : Int) != 2) = false := rfl
  have e1 : decide (had < 0) = false := by simp; omega
  have e2 : decide (had > 1099511627776) = false := by simp; omega
  have e3 : decide ((qs.length : Int) > 4) = false := by simp; omega
  rw [ec14]
  simp only [bindR_val, mv_eq, box33', box41', box29', push_n, ← hSt]
  simp (decide := true) only [mv_eq, g1_eq, g2_eq, bindR_val, retK_ret, condR_boolV, condT, condF, isBoolV_f, isBoolV_t, isBoolV_u, Bool.not_true, Bool.not_false, pickV_boolV, binOp_int, unOp_not, intOp_eql, intOp_neq, intOp_lss, intOp_gtr, kblk_nxt, kblk_ret, kseq_nxt, kseq_ret, puts_cons, puts_nil, putE_same, putE_ne, Nat.add_assoc, Nat.reduceAdd, ec14_1, l0, p1, d0, l1, p2, ec14_1_1_1, fa29_4, Nat.zero_add, l2, p3, ec14_1_1_1_1, d1, fa27_0, r4, fa41_3, c3, d2, ec14_1_1_1_1_0_0_1_1_1, fa29_0, r0,
    fa29_2, r2, e1, e2, fa29_3, r3, hQ.lenV, fa41_1, c1, e3, ec14_1_1_1_1_1, w0, w1, w2, p4, r14]

/-- tenant.registered -/
theorem W22 (had : Int) (h0 : 0 ≤ had) (h20 : had ≤ 20) (rv qv : AV) (qs : List (Nat × Int)) (hN : Numb had qs) (hlen : qs.length ≤ 4) (σ : St) (hw : WF σ) (hM : σ.M = M0) (hS : StV σ σ.n rv) (hQ : QL x0 σ 0 σ.n qv qs) :
    ∃ σ', W 22 [.agg (svC rv), .agg cC, .agg (tenC had qv)] σ = .ok (.ret (intV .i64 0), σ') ∧ Gw σ σ' := by
  have B := mkBox3 σ rv had qv
  obtain ⟨S, hSt⟩ : ∃ S, S = ((σ.push (.cells (svC rv) 33 true 4)).push (.cells cC 41 true 5)).push (.cells (tenC had qv) 29 true 7) := ⟨_, rfl⟩
  rw [← hSt] at B
  have l0 : loadV tab S 33 (.ptr σ.n 0) = .ok (.agg (svC rv)) := lda a33 B.a0 rfl rfl
  have l1 : loadV tab S 41 (.ptr (σ.n + 1) 0) = .ok (.agg cC) := lda a41 B.a1 rfl rfl
  have l2 : loadV tab S 29 (.ptr (σ.n + 2) 0) = .ok (.agg (tenC had qv)) := lda a29 B.a2 rfl rfl
  obtain ⟨s1, p1, q1⟩ := W14 had h0 h20 rv qv qs hN hlen S (B.g.len hw) (B.g.M.trans hM) ((hS.gw B.g).le B.g.n) ((hQ.gw B.g).le B.g.n)
  have r0 : loadV tab s1 4 (.ptr (σ.n + 2) 0) = .ok (boolV true) := ld l4 (B.a2.gw q1) rfl
  have d0 : ((0 : Int) == 0) = true := rfl
  refine ⟨s1, w22 (by simp) ?_, B.g.trans q1⟩
  rw [ec22]
  simp only [bindR_val, mv_eq, box33', box41', box29', push_n, ← hSt]
  simp (decide := true) only [mv_eq, g1_eq, g2_eq, bindR_val, retK_ret, condR_boolV, condT, condF, isBoolV_t, Bool.not_true, pickV_boolV, binOp_int, unOp_not, intOp_eql, puts_cons, puts_nil, putE_same, putE_ne, Nat.add_assoc, Nat.reduceAdd, l0, l1, l2, p1, d0, fa29_0, r0, ec22_1_1_1, r22]
end Go.Proofs.YtcibhglcmcgneaaGreatDoor
namespace Go.Proofs.YtcibhglcmcgneaaGreatDoor
open Go Go.Dt
set_option maxRecDepth 100000

theorem overwrite_app : ∀ (l B C : List AV), B.length = l.length → overwrite (B ++ C) l = l ++ C
  | [], [], C, _ => by cases C <;> rfl
  | x :: l, c :: B, C, h => by
    show x :: overwrite (B ++ C) l = _
    rw [overwrite_app l B C (by simpa using h)]; rfl
  | [], _ :: _, _, h => by simp at h
  | _ :: _, [], _, h => by simp at h
theorem splice_zero : ∀ (cs l : List AV), splice cs 0 l = overwrite cs l
  | [], _ => rfl
  | _ :: _, _ => rfl
theorem splice_mid (A B C l : List AV) (h : B.length = l.length) : splice (A ++ (B ++ C)) A.length l = A ++ (l ++ C) := by
  have := splice_app l A (B ++ C) 0
  rw [Nat.add_zero] at this
  rw [this, splice_zero, overwrite_app l B C h]
theorem splice_nil : ∀ (cs : List AV) (o : Nat), splice cs o [] = cs
  | [], 0 => rfl
  | [], _ + 1 => rfl
  | _ :: _, 0 => rfl
  | c :: cs, o + 1 => by
    show c :: splice cs o [] = _
    rw [splice_nil cs o]
theorem stC {σ : St} (hw : WF σ) {b o e sz : Nat} {cs l : List AV} (hA : At σ b (.cells cs e true sz)) (hle : o + l.length ≤ cs.length) (hone : l.all AV.oneCell = true) :
    ∃ s, Dt.storeCells σ b o l = .ok s ∧ At s b (.cells (splice cs o l) e true sz) ∧ Up b σ s ∧ s.n = σ.n := by
  cases l with
  | nil => exact ⟨σ, rfl, by rw [splice_nil]; exact hA, (Gw.refl σ).up _, rfl⟩
  | cons x l =>
    refine ⟨σ.set b (.cells (splice cs o (x :: l)) e true sz), ?_, hA.set_same hw _, Up.set (Nat.le_refl _) hA.1 _, rfl⟩
    unfold Dt.storeCells
    simp only
    rw [if_pos hA.1, hA.2]
    simp only
    rw [if_pos]
    simp only [Bool.and_eq_true, decide_eq_true_eq, hone, and_true, true_and]
    exact hle

theorem u24 : und tab 24 = .ok (.slice 68) := by kernel_rfl
theorem se24 : sliceElem tab 24 = .ok 68 := by kernel_rfl
theorem sz68 : size tab 68 = .ok 24 := by kernel_rfl
theorem zero68 : ∃ z, zero tab 68 = .ok z ∧ z.cells = z68 := by
  have h : (match zero tab 68 with | .ok z => beqL z.cells z68 | .error _ => false) = true := by kernel_rfl
  cases hz : zero tab 68 with
  | error e => rw [hz] at h; cases h
  | ok z => rw [hz] at h; exact ⟨z, rfl, beqL_ok _ _ h⟩
theorem inf68 : ∃ i, inf tab 68 = .ok i ∧ i.bytes < 2 ^ 16 := by
  have h : (match inf tab 68 with | .ok i => decide (i.bytes < 2 ^ 16) | .error _ => false) = true := by kernel_rfl
  cases hz : inf tab 68 with
  | error e => rw [hz] at h; cases h
  | ok z => rw [hz] at h; exact ⟨z, rfl, of_decide_eq_true h⟩
theorem repL_len (n : Nat) : (repeatL z68 n).length = n * 24 := by
  induction n with
  | zero => rfl
  | succ n ih =>
    show (z68 ++ repeatL z68 n).length = _
    rw [List.length_append, ih]
    show 24 + n * 24 = _
    omega
theorem repL_drop (n k : Nat) (h : k ≤ n) : (repeatL z68 n).drop (k * 24) = repeatL z68 (n - k) := by
  induction k generalizing n with
  | zero => simp
  | succ k ih =>
    obtain ⟨m, rfl⟩ : ∃ m, n = m + 1 := ⟨n - 1, by omega⟩
    show (z68 ++ repeatL z68 m).drop ((k + 1) * 24) = _
    have e : (k + 1) * 24 = z68.length + k * 24 := by show _ = 24 + k * 24; omega
    rw [e, List.drop_length_add_append, ih m (by omega)]
    congr 1; omega
theorem mk24 (L : Nat) (h1 : 1 ≤ L) (h2 : L < 1000) (n : Nat) : makeSliceA tab 24 (intV .i64 ((L - 1 : Nat) : Int)) (intV .i64 (L : Int)) n = .ok (.slice n 0 (L - 1) (some L) 24, .cells (repeatL z68 L) 68 true 24) := by
  obtain ⟨z, hz, hz2⟩ := zero68
  obtain ⟨i, hi, hi2⟩ := inf68
  have hc : (0 : Int) ≤ ((L - 1 : Nat) : Int) ∧ ((L - 1 : Nat) : Int) ≤ (L : Int) ∧ (L : Int) < 2 ^ 30 ∧ i.bytes < 2 ^ 16 := ⟨by omega, by omega, by omega, hi2⟩
  have hr : zeroRow tab 68 L = .ok (repeatL z68 L) := by
    unfold zeroRow
    simp only [sz68, bindR_eq, bindR_val, hz, hz2]
    rw [if_neg (by omega), if_pos (by rfl)]
    rfl
  unfold makeSliceA
  simp only [se24, bindR_eq, bindR_val, asI, intV, hi, sz68]
  rw [if_pos hc]
  simp only [Int.toNat_natCast, hr, bindR_val]
  rfl
theorem bound_nat (p n : Nat) (h : p ≤ n) : bound (intV .i64 (p : Int)) n = .ok p := by
  unfold bound
  simp only [asI, intV, bindR_eq, bindR_val]
  rw [if_pos (by omega)]
  simp only [Int.toNat_natCast]; rfl
theorem sl_hi (b L p : Nat) (h : p ≤ L) : sliceV tab 24 (.slice b 0 L none 24) none (some (intV .i64 (p : Int))) none = .ok (.slice b 0 p none 24) := by
  unfold sliceV
  simp only [u24, bindR_eq, bindR_val, sz68, boundO, bound_nat p L h]
  rfl
theorem sl_lo (b L q : Nat) (h0 : 0 < q) (h : q < L) : sliceV tab 24 (.slice b 0 L none 24) (some (intV .i64 (q : Int))) none none = .ok (.slice b (q * 24) (L - q) none 24) := by
  unfold sliceV
  simp only [u24, bindR_eq, bindR_val, sz68, boundO, bound_nat q L (by omega)]
  rw [if_pos (show True ∧ 0 < 24 from ⟨trivial, by omega⟩), if_neg (show ¬ q = 0 by omega), if_pos h, Nat.zero_add]
  rfl
theorem sl_lo_all (b L : Nat) (h0 : 0 < L) : sliceV tab 24 (.slice b 0 L none 24) (some (intV .i64 (L : Int))) none none = .ok (.sliceZ b 0 L 24) := by
  unfold sliceV
  simp only [u24, bindR_eq, bindR_val, sz68, boundO, bound_nat L L (Nat.le_refl _)]
  rw [if_pos (show True ∧ 0 < 24 from ⟨trivial, by omega⟩), if_neg (show ¬ L = 0 by omega), if_neg (show ¬ L < L by omega)]
  rfl
theorem sl_loc (b n c p : Nat) (h : p ≤ n) (hc : p < c) : sliceV tab 24 (.slice b 0 n (some c) 24) (some (intV .i64 (p : Int))) none none = .ok (.slice b (p * 24) (n - p) (some (c - p)) 24) := by
  unfold sliceV
  simp only [u24, bindR_eq, bindR_val, sz68, boundO, bound_nat p n h, Option.isSome_none, Bool.false_and, Bool.false_eq_true, if_false]
  rw [if_pos trivial, if_neg (show ¬ c = p by omega), Nat.zero_add]
  rfl
theorem copy24 {σ s : St} {b o dlen : Nat} {cap : Option Nat} {z : Nat} {src : AV} {new : List AV} {n : Nat} (h1 : srcCells σ 24 src = .ok (new, n)) (h2 : n ≤ dlen) (h3 : Dt.storeCells σ b o (new.take (n * 24)) = .ok s) :
    copyQ tab σ 24 (.slice b o dlen cap z) src = .ok (.value (goI n), s) := by
  unfold copyQ copyV
  simp only [se24, sz68, bindR_eq, bindR_val, h1, Nat.min_eq_left h2, h3]
  rfl
theorem src24 {σ : St} {b o len : Nat} {cap : Option Nat} {z : Nat} {cs l : List AV} {e : Nat} {ow : Bool} {sz : Nat} (hA : At σ b (.cells cs e ow sz)) (hl : (cs.drop o).take (len * 24) = l) (hn : l.length = len * 24) :
    srcCells σ 24 (.slice b o len cap z) = .ok (l, len) := by
  unfold srcCells cellsOf takeN
  simp only [hA.1, if_true, hA.2, bindR_eq, bindR_val, hl]
  rw [if_pos hn]
  rfl
theorem len24s (b o n : Nat) (cap : Option Nat) (z : Nat) : lenV tab 24 (.slice b o n cap z) = .ok (intV .i64 (n : Int)) := len_sl sl24
theorem len24n : lenV tab 24 nilS = .ok (intV .i64 0) := by kernel_rfl

theorem flat_take24 : ∀ (rows : List (List AV)), (∀ r ∈ rows, r.length = 24) → ∀ p, (rows.flatten).take (p * 24) = (rows.take p).flatten ∧ (rows.flatten).drop (p * 24) = (rows.drop p).flatten
  | rows, _, 0 => by simp
  | [], _, p + 1 => by simp
  | r :: rows, h, p + 1 => by
    have hr := h r (by simp)
    obtain ⟨h1, h2⟩ := flat_take24 rows (fun x hx => h x (List.mem_cons_of_mem _ hx)) p
    have e : (p + 1) * 24 = r.length + p * 24 := by omega
    simp only [List.flatten_cons, List.take_succ_cons, List.drop_succ_cons]
    rw [e, List.take_length_add_append, List.drop_length_add_append, h1, h2]
    exact ⟨rfl, rfl⟩

/-- the row without one -/
def cut (p : Nat) (qs : List (Nat × Int)) : List (Nat × Int) := qs.take p ++ qs.drop (p + 1)
theorem cut_len (p : Nat) (qs : List (Nat × Int)) (h : p < qs.length) : (cut p qs).length = qs.length - 1 := by
  unfold cut; rw [List.length_append, List.length_take, List.length_drop]; omega
end Go.Proofs.YtcibhglcmcgneaaGreatDoor
namespace Go.Proofs.YtcibhglcmcgneaaGreatDoor
open Go Go.Dt
set_option maxRecDepth 100000

theorem tenC_items (had : Int) (a : AV) : splice (tenC had a) 5 [nilS] = tenC had a := rfl
theorem sl25 : sliceB 25 = true := by kernel_rfl
theorem len25 : lenV tab 25 nilS = .ok (intV .i64 0) := by kernel_rfl
theorem nilS_eq : AV.base (.slice none 0 0) = nilS := rfl

/-- tenant.own -/
theorem W23 (had : Int) (qv : AV) (qs : List (Nat × Int)) (hok : ∀ q ∈ qs, okQ q) (hlen : qs.length < 1000) (σ : St) (hw : WF σ) (hM : σ.M = M0) (hQ : QL x0 σ 0 σ.n qv qs) :
    ∃ w σ' v', W 23 [.agg (tenC had qv)] σ = .ok (.ret (.ptr w 0), σ') ∧ Gw σ σ' ∧ σ.n < w ∧ At σ' w (.cells (tenC had v') 94 true 7) ∧ QV x0 σ' (w + 1) σ'.n v' qs := by
  have hB0 := At.new σ (.cells (tenC had qv) 29 true 7)
  have hB1 := At.new (σ.push (.cells (tenC had qv) 29 true 7)) (.cells (tenC had qv) 94 true 7)
  have hB0' := hB0.push (.cells (tenC had qv) 94 true 7)
  obtain ⟨S2, hS2⟩ : ∃ S2, S2 = (σ.push (.cells (tenC had qv) 29 true 7)).push (.cells (tenC had qv) 94 true 7) := ⟨_, rfl⟩
  rw [← hS2] at hB1 hB0'
  have g2 : Gw σ S2 := by rw [hS2]; exact (Gw.push _ _).trans (Gw.push _ _)
  have nS2 : S2.n = σ.n + 2 := by rw [hS2]; rfl
  have hn1 : (σ.push (.cells (tenC had qv) 29 true 7)).n = σ.n + 1 := rfl
  rw [hn1] at hB1
  have ld2 : loadV tab (σ.push (.cells (tenC had qv) 29 true 7)) 29 (.ptr σ.n 0) = .ok (.agg (tenC had qv)) := lda a29 hB0 rfl rfl
  obtain ⟨s4, hs4⟩ : ∃ s4, s4 = S2.set (σ.n + 1) (.cells (tenC had nilS) 94 true 7) := ⟨_, rfl⟩
  have hst : storeV tab S2 24 (.ptr (σ.n + 1) 3) nilS = .ok s4 := by
    rw [hs4]
    exact stv (o := 3) (x := nilS) s24 hB1 rfl (by omega) (by show 3 + 1 ≤ 7; omega) rfl
  have u4 : Up (σ.n + 1) S2 s4 := by rw [hs4]; exact Up.set (Nat.le_refl _) hB1.1 _
  have hA1 : At s4 (σ.n + 1) (.cells (tenC had nilS) 94 true 7) := by rw [hs4]; exact hB1.set_same (g2.len hw) _
  have hA0 : At s4 σ.n (.cells (tenC had qv) 29 true 7) := hB0'.up u4 (by omega)
  have ld1 : loadV tab s4 24 (.ptr σ.n 3) = .ok qv := ld l24 hA0 rfl
  have hQ4 : QL x0 s4 0 σ.n qv qs := (hQ.gw g2).mono (Nat.le_refl _) (Nat.le_refl _) u4.n fun b _ hb hg => u4.old b (getO_gone hg) (by omega)
  have n4 : s4.n = σ.n + 2 := by rw [hs4]; exact nS2
  have hw4 : WF s4 := u4.len (g2.len hw)
  have hM4 : s4.M = M0 := u4.M.trans (g2.M.trans hM)
  -- the loop
  obtain ⟨T0, hT0⟩ : ∃ T0 : Rg, T0 = puts 66 (puts 66 (puts 66 (argE [.agg (tenC had qv)]) [(1, .ptr σ.n 0), (2, AV.base (.pointer none)), (8, .agg (tenC had qv)), (9, .agg (tenC had qv)), (10, .ptr (σ.n + 1) 0), (3, .ptr (σ.n + 1) 0)])
      [(11, .ptr (σ.n + 1) 0), (12, .ptr (σ.n + 1) 0), (13, .ptr (σ.n + 1) 0), (14, .ptr (σ.n + 1) 3)]) [(15, .ptr σ.n 3), (16, qv), (17, intV .i64 (qs.length : Int)), (18, intV .i64 0)] := ⟨_, rfl⟩
  have t1 : T0 1 = .ptr σ.n 0 := by rw [hT0]; simp (decide := true) only [puts_cons, puts_nil, putE_same, putE_ne]
  have t3 : T0 3 = .ptr (σ.n + 1) 0 := by rw [hT0]; simp (decide := true) only [puts_cons, puts_nil, putE_same, putE_ne]
  have t16 : T0 16 = qv := by rw [hT0]; simp (decide := true) only [puts_cons, puts_nil, putE_same, putE_ne]
  have t17 : T0 17 = intV .i64 (qs.length : Int) := by rw [hT0]; simp (decide := true) only [puts_cons, puts_nil, putE_same, putE_ne]
  have t18 : T0 18 = intV .i64 ((0 : Nat) : Int) := by rw [hT0]; simp (decide := true) only [puts_cons, puts_nil, putE_same]; rfl
  obtain ⟨T', s5, v', z1, z2, z3, z4, z5, z6⟩ := loop23 had σ.n (σ.n + 1) σ.n qv qs hok hlen qs.length 0 (by omega) T0 s4 nilS hw4 hM4 (by omega) (Nat.le_refl _) hQ4 hA0 hA1
    ⟨.inl ⟨rfl, by simp⟩⟩ t1 t3 t16 t17 t18
  have hA05 := hA0.up z2 (by omega)
  -- the items
  have hst6 : storeV tab s5 25 (.ptr (σ.n + 1) 5) nilS = .ok (s5.set (σ.n + 1) (.cells (tenC had v') 94 true 7)) := by
    have := stv (o := 5) (x := nilS) s25 z3 rfl (by omega) (by show 5 + 1 ≤ 7; omega) rfl
    rw [this]; rfl
  obtain ⟨s6, hs6⟩ : ∃ s6, s6 = s5.set (σ.n + 1) (.cells (tenC had v') 94 true 7) := ⟨_, rfl⟩
  rw [← hs6] at hst6
  have u6 : Up (σ.n + 1) s5 s6 := by rw [hs6]; exact Up.set (Nat.le_refl _) z3.1 _
  have hA6 : At s6 (σ.n + 1) (.cells (tenC had v') 94 true 7) := by rw [hs6]; exact z3.set_same (z2.len hw4) _
  have hA06 := hA05.up u6 (by omega)
  have ldi : loadV tab s6 25 (.ptr σ.n 5) = .ok nilS := ld l25 hA06 rfl
  have hV6 : QV x0 s6 (σ.n + 1 + 1) s6.n v' qs := by
    rw [hs6]
    exact z4.mono (Nat.le_refl _) (Nat.le_refl _) (Nat.le_refl _) fun b hb1 _ _ => getO_set_other z3.1 (by omega)
  have uall : Up (σ.n + 1) σ s6 := (((g2.up _).trans u4).trans z2).trans u6
  refine ⟨σ.n + 1, s6, v', ?_, uall.gw (by omega), by omega, hA6, hV6⟩
  refine w23 (by simp) ?_
  have e2 : ∀ T : Rg, T 45 = intV .i64 0 → T 44 = intV .i64 0 → T 3 = .ptr (σ.n + 1) 0 → loopLim (dd tab W V 66 c23_1_1_1_1_1_0_1_0_0) T s6 = .ok (.exit 2 (puts 66 T [(46, boolV false)]) s6) := by
    intro T h45 h44 _
    have e := ec23_1_1_1_1_1_0_1_0_0 kOc T s6
    simp (decide := true) only [g1_eq, bindR_val, h45, h44, binOp_int, intOp_lss, condR_boolV, kOc_exit] at e
    exact loop_exit (dd_of tab W V 66 e)
  rw [ec23]
  have b1 : boxA tab 29 (.agg (tenC had qv)) σ.n = .ok (.ptr σ.n 0, .cells (tenC had qv) 29 true 7) := box29 _ _ _ _ _ _ _ _
  have b2 : Dt.build tab 94 [(0, .agg (tenC had qv))] = .ok (.agg (tenC had qv)) := build94 _ _ _ _ _ _ _
  have b3 : boxA tab 94 (.agg (tenC had qv)) (σ.n + 1) = .ok (.ptr (σ.n + 1) 0, .cells (tenC had qv) 94 true 7) := box94 _ _ _ _ _ _ _ _
  simp only [mv_eq, g1_eq, g3_eq, bindR_val, b1, ld2, b2, push_n, b3, ← hS2, ec23_1_1]
  simp (decide := true) only [mv_eq, g1_eq, bindR_val, putE_same, putE_ne, puts_cons, puts_nil, nilCheck_ptr, fa94_0, fa29_3, Nat.zero_add, nilS_eq, hst, ec23_1_1_1, ld1, hQ.lenV]
  simp only [puts_cons, puts_nil] at hT0
  rw [← hT0, z1, bindR_val]
  simp (decide := true) only [app_exit, kblk_exit, if_true, kseq_nxt, ec23_1_1_1_1, mv_eq, g1_eq, g3_eq, bindR_val, z6, z5, nilCheck_ptr, fa94_0, fa29_4, fa27_1, Nat.zero_add, Nat.reduceAdd, nilS_eq, hst6, ldi, len25]
  rw [e2 _ (by simp (decide := true) only [puts_cons, puts_nil, putE_same]) (by simp (decide := true) only [puts_cons, puts_nil, putE_same, putE_ne]) (by simp (decide := true) only [puts_cons, puts_nil, putE_ne, z6])]
  simp (decide := true) only [bindR_val, app_exit, kblk_exit, if_true, kseq_nxt, ec23_1_1_1_1_1_1, mv_eq, puts_cons, puts_nil, putE_same, putE_ne, z6, r23]
end Go.Proofs.YtcibhglcmcgneaaGreatDoor
namespace Go.Proofs.YtcibhglcmcgneaaGreatDoor
open Go Go.Dt
set_option maxRecDepth 100000

theorem app_nil {σ : St} {b L c : Nat} {cs : List AV} (hA : At σ b (.cells cs 68 true 24)) (hl : L * 24 ≤ cs.length) (hL : L < 1000) (hc : L ≤ c) :
    appendV tab σ 24 24 (.slice b 0 L (some c) 24) nilS = .ok (.slice b 0 L (some c) 24, σ) := by
  have hok := app24
  unfold appB at hok
  split at hok
  · rename_i e' s' i xd z h1 h2 h3 h4 h5
    simp only [Bool.and_eq_true, beq_iff_eq, decide_eq_true_eq, Bool.not_eq_true'] at hok
    obtain ⟨⟨⟨⟨rfl, rfl⟩, hb⟩, hx⟩, hz⟩ := hok
    have hsrc : srcCells σ 24 nilS = .ok ([], 0) := rfl
    have hcc : (!(decide (0 < 2 ^ 30) && decide (0 < i.bytes ∧ i.bytes < 2 ^ 14 ∧ 0 < 24) && !isIntD xd && z.cells.length == 24)) = false := by
      simp only [Bool.not_eq_false', Bool.and_eq_true, decide_eq_true_eq, beq_iff_eq, hx, Bool.not_false, hz, and_true]
      exact ⟨by omega, hb⟩
    have c2 : (!(decide (L + 0 < 2 ^ 30) && true)) = false := by simp; omega
    have ht : (List.take (L * 24) (List.drop 0 cs)).length = L * 24 := by rw [List.drop_zero, List.length_take]; omega
    simp only [appendV, h1, h2, h3, h4, h5, hsrc, bindR_eq, bindR_val, hcc, c2, cellsOf, hA.1, hA.2, if_true, takeN, ht, beq_self_eq_true, Bool.false_eq_true, if_false]
    rw [if_pos (by omega)]
    rfl
  · cases hok

/-- without -/
theorem W24 (p : Nat) (v : AV) (qs : List (Nat × Int)) (hp : p < qs.length) (hlen : qs.length < 1000) (σ : St) (hw : WF σ) {lo : Nat} (hl0 : lo ≤ σ.n) (hV : QV x0 σ lo σ.n v qs) :
    ∃ v' σ', W 24 [v, intV .i64 (p : Int), nilS] σ = .ok (.ret v', σ') ∧ Gw σ σ' ∧ QL x0 σ' lo σ'.n v' (cut p qs) := by
  obtain ⟨L, hL⟩ : ∃ L, L = qs.length := ⟨_, rfl⟩
  rcases hV.is with ⟨rfl, rfl⟩ | ⟨b, rows, rfl, k2, k3, k4, k5⟩
  · simp at hp
  rw [← hL] at hp hlen ⊢
  have hrl := k5.lens fam0
  have hfl := k5.flen fam0
  rw [← hL] at hfl
  have hone := k5.one fam0
  have hrows : rows.length = L := by rw [hrl.2, hL]
  obtain ⟨ft1, fd1⟩ := flat_take24 rows hrl.1 p
  obtain ⟨ft2, fd2⟩ := flat_take24 rows hrl.1 (p + 1)
  -- the new row of cells
  obtain ⟨s1, hs1⟩ : ∃ s1, s1 = σ.push (.cells (repeatL z68 L) 68 true 24) := ⟨_, rfl⟩
  have g1 : Gw σ s1 := by rw [hs1]; exact Gw.push _ _
  have A1 : At s1 σ.n (.cells (repeatL z68 L) 68 true 24) := by rw [hs1]; exact At.new _ _
  have kb1 := k4.gw g1
  have nl1 : (rows.take p).flatten.length = p * 24 := by rw [← ft1, List.length_take, hfl]; omega
  have sc1 : srcCells s1 24 (.slice b 0 p none 24) = .ok ((rows.take p).flatten, p) := src24 kb1 (by rw [List.drop_zero]; exact ft1) nl1
  have o1 : ((rows.take p).flatten).all AV.oneCell = true := by
    rw [← ft1, List.all_eq_true]
    exact fun x hx => List.all_eq_true.1 hone x (List.mem_of_mem_take hx)
  have t1 : ((rows.take p).flatten).take (p * 24) = (rows.take p).flatten := List.take_of_length_le (by omega)
  obtain ⟨s2, c1, A2, u2, n2⟩ := stC (g1.len hw) A1 (o := 0) (l := (rows.take p).flatten) (by rw [nl1, repL_len]; omega) o1
  have hsp1 : splice (repeatL z68 L) 0 (rows.take p).flatten = (rows.take p).flatten ++ repeatL z68 (L - p) := by
    have e : repeatL z68 L = (repeatL z68 L).take (p * 24) ++ (repeatL z68 L).drop (p * 24) := (List.take_append_drop _ _).symm
    have := splice_mid [] ((repeatL z68 L).take (p * 24)) ((repeatL z68 L).drop (p * 24)) (rows.take p).flatten (by rw [nl1, List.length_take, repL_len]; omega)
    rw [List.nil_append, List.nil_append, ← e, repL_drop L p (by omega)] at this
    exact this
  rw [hsp1] at A2
  have cp1 := copy24 (dlen := L - 1) (cap := some L) (z := 24) (b := σ.n) (o := 0) sc1 (by omega) (by rw [t1]; exact c1)
  have U2 : Up σ.n σ s2 := (g1.up _).trans u2
  have kb2 : At s2 b (.cells rows.flatten 68 true 24) := k4.up U2 k3
  -- the rest
  have nl2 : (rows.drop (p + 1)).flatten.length = (L - 1 - p) * 24 := by rw [← fd2, List.length_drop, hfl]; omega
  have o2 : ((rows.drop (p + 1)).flatten).all AV.oneCell = true := by
    rw [← fd2, List.all_eq_true]
    exact fun x hx => List.all_eq_true.1 hone x (List.mem_of_mem_drop hx)
  have t2 : ((rows.drop (p + 1)).flatten).take ((L - 1 - p) * 24) = (rows.drop (p + 1)).flatten := List.take_of_length_le (by omega)
  obtain ⟨s3, c2, A3, u3, n3⟩ := stC (U2.len hw) A2 (o := p * 24) (l := (rows.drop (p + 1)).flatten) (by rw [nl2, List.length_append, nl1, repL_len]; omega) o2
  have hsp2 : splice ((rows.take p).flatten ++ repeatL z68 (L - p)) (p * 24) (rows.drop (p + 1)).flatten = (rows.take p ++ rows.drop (p + 1)).flatten ++ z68 := by
    have e : repeatL z68 (L - p) = (repeatL z68 (L - p)).take ((L - 1 - p) * 24) ++ (repeatL z68 (L - p)).drop ((L - 1 - p) * 24) := (List.take_append_drop _ _).symm
    have := splice_mid (rows.take p).flatten ((repeatL z68 (L - p)).take ((L - 1 - p) * 24)) ((repeatL z68 (L - p)).drop ((L - 1 - p) * 24)) (rows.drop (p + 1)).flatten (by rw [nl2, List.length_take, repL_len]; omega)
    rw [nl1, ← e, repL_drop (L - p) (L - 1 - p) (by omega)] at this
    rw [this, List.flatten_append, List.append_assoc]
    have : L - p - (L - 1 - p) = 1 := by omega
    rw [this]
    show _ ++ (_ ++ (z68 ++ [])) = _
    rw [List.append_nil]
  rw [hsp2] at A3
  have U3 : Up σ.n σ s3 := U2.trans u3
  have sc2 : ∃ x, sliceV tab 24 (.slice b 0 L none 24) (some (intV .i64 ((p + 1 : Nat) : Int))) none none = .ok x ∧ srcCells s2 24 x = .ok ((rows.drop (p + 1)).flatten, L - 1 - p) ∧ bndA s2.n x = true := by
    have hbn : Nat.blt b s2.n = true := by rw [blt_eq]; simp; exact kb2.1
    by_cases h : p + 1 < L
    · refine ⟨_, sl_lo b L (p + 1) (by omega) h, ?_, hbn⟩
      have : L - (p + 1) = L - 1 - p := by omega
      rw [this]
      exact src24 kb2 (by rw [fd2]; exact List.take_of_length_le (by omega)) nl2
    · have hpl : p + 1 = L := by omega
      refine ⟨.sliceZ b 0 L 24, by rw [hpl]; exact sl_lo_all b L (by omega), ?_, hbn⟩
      have : rows.drop (p + 1) = [] := List.drop_eq_nil_of_le (by omega)
      rw [this]
      have : L - 1 - p = 0 := by omega
      rw [this]
      rfl
  obtain ⟨x, hx1, hx2, hx3⟩ := sc2
  have cp2 := copy24 (dlen := L - 1 - p) (cap := some (L - p)) (z := 24) (b := σ.n) (o := p * 24) hx2 (Nat.le_refl _) (by rw [t2]; exact c2)
  have slo := sl_loc σ.n (L - 1) L p (by omega) hp
  have happ : appendV tab s3 24 24 (.slice σ.n 0 (L - 1) (some L) 24) nilS = .ok (.slice σ.n 0 (L - 1) (some L) 24, s3) :=
    app_nil A3 (by rw [List.length_append, List.flatten_append, List.length_append, nl1, nl2]; omega) (by omega) (by omega)
  refine ⟨.slice σ.n 0 (L - 1) (some L) 24, s3, w24 (by simp) ?_, U3.gw (Nat.le_refl _), ?_⟩
  · rw [ec24]
    have q0 : argE [.slice b 0 L none 24, intV .i64 (p : Int), nilS] 0 = .slice b 0 L none 24 := rfl
    have q1 : argE [.slice b 0 L none 24, intV .i64 (p : Int), nilS] 1 = intV .i64 (p : Int) := rfl
    have q2 : argE [.slice b 0 L none 24, intV .i64 (p : Int), nilS] 2 = nilS := rfl
    have w1 : IntKind.i64.wrap ((L : Int) - 1) = ((L - 1 : Nat) : Int) := by rw [wrapI (by omega) (by omega)]; omega
    have w2 : IntKind.i64.wrap ((L : Int) + 0) = (L : Int) := by rw [wrapI (by omega) (by omega)]; omega
    have w3 : IntKind.i64.wrap ((p : Int) + 1) = ((p + 1 : Nat) : Int) := by rw [wrapI (by omega) (by omega)]; omega
    have b1 : bndA s2.n (.slice σ.n (p * 24) (L - 1 - p) (some (L - p)) 24) = true := by
      show Nat.blt σ.n s2.n = true
      rw [blt_eq]; simp; exact A2.1
    have b2 : Nat.ble s2.n s3.n = true := Nat.ble_eq_true_of_le (by omega)
    simp (decide := true) only [mv_eq, g1_eq, g4_eq, bindR_val, condT, binOp_int, intOp_add, intOp_sub, puts_cons, puts_nil, putE_same, putE_ne, len24s, len24n, w1, w2, mk24 L (by omega) hlen, sl_hi b L p (by omega), ← hs1, cp1, nextK_val, q0, q1, q2, slo, w3, hx1, hx3, b1, List.all_cons, List.all_nil, Bool.and_self, cp2, b2, happ, r24, nilS_eq]
  · refine ⟨.inr ⟨σ.n, some L, rows.take p ++ rows.drop (p + 1), z68, ?_, hl0, by have := A3.1; omega, A3, ?_⟩⟩
    · rw [cut_len p qs (by omega), ← hL]
    · refine RowsQ.mono (Nat.le_refl _) (Nat.le_of_lt k3) ?_ (RowsQ.app (k5.take p) (k5.drop (p + 1)))
      intro c _ hc hg
      exact U3.old c (getO_gone hg) (by omega)
end Go.Proofs.YtcibhglcmcgneaaGreatDoor
namespace Go.Proofs.YtcibhglcmcgneaaGreatDoor
open Go Go.Dt
set_option maxRecDepth 100000

theorem idxQ_spec (n : Int) : ∀ (qs : List (Nat × Int)) (i : Nat), (idxQ n qs i = -1 ∧ ∀ q ∈ qs, q.2 ≠ n) ∨ ∃ k, k < qs.length ∧ idxQ n qs i = ((i + k : Nat) : Int) ∧ ∃ q, qs[k]? = some q ∧ q.2 = n
  | [], i => .inl ⟨rfl, by simp⟩
  | q :: qs, i => by
    cases hb : q.2 == n with
    | true => exact .inr ⟨0, by simp, by simp [idxQ, hb], q, rfl, by simpa using hb⟩
    | false =>
      have e : idxQ n (q :: qs) i = idxQ n qs (i + 1) := by simp [idxQ, hb]
      rcases idxQ_spec n qs (i + 1) with ⟨h1, h2⟩ | ⟨k, h1, h2, q', h3, h4⟩
      · refine .inl ⟨e.trans h1, ?_⟩
        intro x hx
        rcases List.mem_cons.1 hx with rfl | hx
        · simpa using hb
        · exact h2 x hx
      · refine .inr ⟨k + 1, by simp; omega, ?_, q', by simpa using h3, h4⟩
        rw [e, h2]; congr 1; omega

theorem z29_ret : (AV.agg z29).cells = z29 := rfl
theorem spl29 (a b c d e f g : AV) (l : List AV) (hl : l.length = 7) : splice [a, b, c, d, e, f, g] 0 l = l := by
  match l, hl with
  | [_, _, _, _, _, _, _], _ => rfl
/-- a tenant is stored -/
theorem st29 {σ : St} {b : Nat} {cs l : List AV} (hA : At σ b (.cells cs 29 true 7)) (hc : cs.length = 7) (hl : l.length = 7) (ho : l.all AV.oneCell = true) : storeV tab σ 29 (.ptr b 0) (.agg l) = .ok (σ.set b (.cells l 29 true 7)) := by
  have := stv (o := 0) (x := .agg l) s29 hA hl (by omega) (by omega) ho
  rw [this]
  congr 3
  match cs, hc with
  | [_, _, _, _, _, _, _], _ => exact spl29 _ _ _ _ _ _ _ l hl
theorem tenC_one {had : Int} {v : AV} (h : AV.oneCell v = true) : (tenC had v).all AV.oneCell = true := by
  simp only [tenC, List.all_cons, List.all_nil, h]
  rfl

/-- tenant.Drop -/
theorem W8 (had n : Int) (h0 : 0 ≤ had) (h20 : had ≤ 20) (rv qv : AV) (qs : List (Nat × Int)) (hN : Numb had qs) (hlen : qs.length ≤ 4) (σ : St) (hw : WF σ) (hM : σ.M = M0) (hS : StV σ σ.n rv) (hQ : QL x0 σ 0 σ.n qv qs) :
    ∃ σ', Gw σ σ' ∧ ((idxQ n qs 0 = -1 ∧ W 8 [.agg (svC rv), .agg cC, .agg (tenC had qv), intV .i64 n] σ = .ok (.ret (.tuple [.agg z29, intV .i64 7]), σ')) ∨
      ∃ p v', p < qs.length ∧ idxQ n qs 0 = (p : Int) ∧ W 8 [.agg (svC rv), .agg cC, .agg (tenC had qv), intV .i64 n] σ = .ok (.ret (.tuple [.agg (tenC had v'), intV .i64 0]), σ') ∧ QL x0 σ' σ.n σ'.n v' (cut p qs)) := by
  have B := mkBox3 σ rv had qv
  obtain ⟨S, hSt⟩ : ∃ S, S = ((σ.push (.cells (svC rv) 33 true 4)).push (.cells cC 41 true 5)).push (.cells (tenC had qv) 29 true 7) := ⟨_, rfl⟩
  rw [← hSt] at B
  obtain ⟨S', hSt'⟩ : ∃ S', S' = S.push (.cells z29 29 true 7) := ⟨_, rfl⟩
  have hn := B.n
  have gS : Gw S S' := by rw [hSt']; exact Gw.push _ _
  have A3 : At S' (σ.n + 3) (.cells z29 29 true 7) := by rw [hSt', ← hn]; exact At.new _ _
  have G := B.g.trans gS
  have nS' : S'.n = σ.n + 4 := by rw [hSt', push_n, hn]
  have l0 : loadV tab S' 33 (.ptr σ.n 0) = .ok (.agg (svC rv)) := lda a33 (B.a0.gw gS) rfl rfl
  have l1 : loadV tab S' 41 (.ptr (σ.n + 1) 0) = .ok (.agg cC) := lda a41 (B.a1.gw gS) rfl rfl
  have l2 : loadV tab S' 29 (.ptr (σ.n + 2) 0) = .ok (.agg (tenC had qv)) := lda a29 (B.a2.gw gS) rfl rfl
  obtain ⟨s1, p1, q1⟩ := W22 had h0 h20 rv qv qs hN hlen S' (G.len hw) (G.M.trans hM) ((hS.gw G).le G.n) ((hQ.gw G).le G.n)
  have G1 := G.trans q1
  have l3' : loadV tab s1 29 (.ptr (σ.n + 2) 0) = .ok (.agg (tenC had qv)) := lda a29 ((B.a2.gw gS).gw q1) rfl rfl
  obtain ⟨s2, p2, q2⟩ := W10 had n qv qs (by omega) s1 ((hQ.gw G1).le G1.n)
  have G2 := G1.trans q2
  have A32 := (A3.gw q1).gw q2
  have d0 : ((0 : Int) != 0) = false := rfl
  have d7 : ((7 : Int) != 0) = true := rfl
  rcases idxQ_spec n qs 0 with ⟨hi, _⟩ | ⟨p, hp, hi, q, hq, hq2⟩
  · -- not found
    obtain ⟨s3, hs3⟩ : ∃ s3, s3 = s2.set (σ.n + 3) (.cells z29 29 true 7) := ⟨_, rfl⟩
    have st : storeV tab s2 29 (.ptr (σ.n + 3) 0) (.agg [boolV false, intV .u64 0, intV .i64 0, nilS, intV .i64 0, nilS, intV .i64 0]) = .ok s3 := by
      rw [hs3]; exact st29 A32 rfl rfl rfl
    have A33 : At s3 (σ.n + 3) (.cells z29 29 true 7) := by rw [hs3]; exact A32.set_same (G2.len hw) _
    have lr : loadV tab s3 29 (.ptr (σ.n + 3) 0) = .ok (.agg z29) := lda a29 A33 rfl rfl
    have U : Up (σ.n + 3) s2 s3 := by rw [hs3]; exact Up.set (Nat.le_refl _) A32.1 _
    refine ⟨s3, ((G2.up _).trans U).gw (by omega), .inl ⟨hi, w8 (by simp) ?_⟩⟩
    have hf : findR (idxQ n qs 0) = .tuple [intV .i64 0, intV .i64 7] := by rw [hi]; rfl
    rw [ec8]
    simp only [bindR_val, mv_eq, box33', box41', box29', push_n, ← hSt, alloc29, ← hSt']
    rw [hf] at p2
    have a3 : argE [.agg (svC rv), .agg cC, .agg (tenC had qv), intV .i64 n] 3 = intV .i64 n := rfl
    simp (decide := true) only [mv_eq, g1_eq, g2_eq, g3_eq, bindR_val, retK_ret, condR_boolV, condT, condF, binOp_int, intOp_neq, extractV_0, extractV_1, puts_cons, puts_nil, putE_same, putE_ne, Nat.add_assoc, Nat.reduceAdd, ec8_1, l0, l1, l2, p1, d0, l3', a3, p2, d7, build29, st, kRet, resK, lr]
    rfl
  · -- found
    rw [Nat.zero_add] at hi
    have l4 : loadV tab s2 29 (.ptr (σ.n + 2) 0) = .ok (.agg (tenC had qv)) := lda a29 (((B.a2.gw gS).gw q1).gw q2) rfl rfl
    obtain ⟨w, s3, v1, p3, q3, hw3, A4, V3⟩ := W23 had qv qs hN.ok (by omega) s2 (G2.len hw) (G2.M.trans hM) ((hQ.gw G2).le G2.n)
    have G3 := G2.trans q3
    have hws := A4.1
    have n2 := G2.n
    have n12 := (q1.trans q2).n
    have ldv : loadV tab s3 24 (.ptr w 3) = .ok v1 := ld l24 A4 rfl
    obtain ⟨v2, s4, p4, q4, V4⟩ := W24 p v1 qs hp (by omega) s3 (G3.len hw) (lo := w + 1) (by omega) V3
    have G4 := G3.trans q4
    have A5 := A4.gw q4
    have vc := V4.cell
    obtain ⟨s5, hs5⟩ : ∃ s5, s5 = s4.set w (.cells (tenC had v2) 94 true 7) := ⟨_, rfl⟩
    have st5 : storeV tab s4 24 (.ptr w 3) v2 = .ok s5 := by
      rw [hs5]
      have := stv (o := 3) (x := v2) s24 A5 (by rw [vc.2.2.2]; rfl) (by omega) (by show 3 + 1 ≤ 7; omega) (by rw [vc.2.2.2]; simp [vc.1])
      rw [this, vc.2.2.2, tenC_spl]
    have U5 : Up w s4 s5 := by rw [hs5]; exact Up.set (Nat.le_refl _) A5.1 _
    have A6 : At s5 w (.cells (tenC had v2) 94 true 7) := by rw [hs5]; exact A5.set_same (G4.len hw) _
    have l6 : loadV tab s5 29 (.ptr w 0) = .ok (.agg (tenC had v2)) := lda a29 A6 rfl rfl
    have A36 : At s5 (σ.n + 3) (.cells z29 29 true 7) := ((A32.gw q3).gw q4).up U5 (by omega)
    obtain ⟨s6, hs6⟩ : ∃ s6, s6 = s5.set (σ.n + 3) (.cells (tenC had v2) 29 true 7) := ⟨_, rfl⟩
    have st6 : storeV tab s5 29 (.ptr (σ.n + 3) 0) (.agg (tenC had v2)) = .ok s6 := by
      rw [hs6]; exact st29 A36 rfl rfl (tenC_one vc.1)
    have A37 : At s6 (σ.n + 3) (.cells (tenC had v2) 29 true 7) := by rw [hs6]; exact A36.set_same (U5.len (G4.len hw)) _
    have lr : loadV tab s6 29 (.ptr (σ.n + 3) 0) = .ok (.agg (tenC had v2)) := lda a29 A37 rfl rfl
    have U6 : Up (σ.n + 3) s5 s6 := by rw [hs6]; exact Up.set (Nat.le_refl _) A36.1 _
    have hf : findR (idxQ n qs 0) = .tuple [intV .i64 (p : Int), intV .i64 0] := by
      rw [hi]; unfold findR
      have : decide ((p : Int) < 0) = false := by simp
      rw [this]; rfl
    refine ⟨s6, (((G4.up _).trans (U5.le (by omega))).trans U6).gw (by omega), .inr ⟨p, v2, hp, hi, w8 (by simp) ?_, ?_⟩⟩
    · rw [ec8]
      simp only [bindR_val, mv_eq, box33', box41', box29', push_n, ← hSt, alloc29, ← hSt']
      rw [hf] at p2
      have a3 : argE [.agg (svC rv), .agg cC, .agg (tenC had qv), intV .i64 n] 3 = intV .i64 n := rfl
      simp (decide := true) only [mv_eq, g1_eq, g2_eq, g3_eq, bindR_val, retK_ret, condR_boolV, condF, binOp_int, intOp_neq, extractV_0, extractV_1, puts_cons, puts_nil, putE_same, putE_ne, Nat.add_assoc, Nat.reduceAdd, ec8_1, l0, l1, l2, p1, d0, l3', a3, p2, l4, p3, nilCheck_ptr, fa94_0, fa29_3, Nat.zero_add, ldv, nilS_eq, p4, st5, l6, st6, kRet, resK, lr]
      rfl
    · have n56 : s6.n = s4.n := by rw [hs6, hs5]; rfl
      have := V4.mono (lo' := σ.n) (hi' := s6.n) (σ' := s6) (by omega) (by omega) (by omega) (fun b hb1 hb2 hg => by
        rw [hs6, getO_set_other A36.1 (by omega), hs5, getO_set_other A5.1 (by omega)])
      exact this
end Go.Proofs.YtcibhglcmcgneaaGreatDoor
namespace Go.Proofs.YtcibhglcmcgneaaGreatDoor
open Go Go.Dt
set_option maxRecDepth 100000

theorem P21 {j : Nat} {m : Int} (hq : okQ (j, m)) {σ : St} (hM : σ.M = M0) {lo hi : Nat} {r : List AV} (hr : DpL σ lo hi (x0 j m) r) :
    ∃ r' σ', W 21 [.agg r] σ = .ok (.ret (.agg r'), σ') ∧ Gw σ σ' ∧ DpL σ' σ.n σ'.n (x2 j m) r' := by
  obtain ⟨x, σ', h1, h2, h3⟩ := (k21 j m hq.1 hq.2.1 hq.2.2).call hM (xs := [.agg r]) (lo := lo) (hi := hi) (by
    simp only [DpL, Dp]
    exact ⟨_, [], rfl, ⟨r, rfl, hr⟩, rfl⟩)
  simp only [Dp] at h3
  obtain ⟨l, rfl, h3⟩ := h3
  exact ⟨l, σ', h1, h2, h3⟩
theorem P20 {σ : St} (hM : σ.M = M0) : ∃ b σ', W 20 [.agg [intV .i64 2, nilS, intV .i64 0]] σ = .ok (.ret (.agg [intV .i64 2, .slice b 0 0 none 7, intV .i64 0]), σ') ∧ Gw σ σ' ∧ b < σ'.n := by
  obtain ⟨x, σ', h1, h2, h3⟩ := k20.call hM (xs := [.agg [intV .i64 2, nilS, intV .i64 0]]) (lo := 0) (hi := 0) (by
    simp only [DpL, Dp, qQ, I, N]
    exact ⟨_, _, rfl, ⟨_, rfl, _, _, rfl, rfl, _, _, rfl, rfl, _, _, rfl, rfl, rfl⟩, rfl⟩)
  simp only [Dp, DpL, I] at h3
  obtain ⟨l, rfl, a, r, rfl, rfl, b', r', rfl, ⟨b, l', rfl, _, hb, _⟩, c, r'', rfl, rfl, rfl⟩ := h3
  exact ⟨b, σ', h1, h2, hb⟩

/-- a tenant in memory of its own -/
def ownC (had : Int) (bv ev : AV) : List AV := [boolV true, intV .u64 1, intV .i64 had, bv, intV .i64 2, ev, intV .i64 0]
theorem ownC_spl (had : Int) (a b e : AV) : splice (ownC had a e) 3 [b] = ownC had b e := rfl

theorem loop7 (had : Int) (n0 lq : Nat) (ev qv : AV) (qs : List (Nat × Int)) (hok : ∀ q ∈ qs, okQ q) (hlen : qs.length < 1000) (hlq : lq ≤ n0) : ∀ (m i : Nat), i + m = qs.length → ∀ (T : Rg) (σ : St) (v : AV), WF σ → σ.M = M0 →
    QL x0 σ 0 lq qv qs → At σ n0 (.cells (ownC had v ev) 29 true 7) → QV x2 σ (n0 + 2) σ.n v (qs.take i) → n0 + 2 ≤ σ.n →
    T 1 = .ptr n0 0 → T 2 = .ptr (n0 + 1) 0 → T 3 = qv → T 4 = intV .i64 (i : Int) →
    ∃ T' σ' v', loopLim (dd tab W V 29 c7_1_1_1_0_1_0_0) T σ = .ok (.exit 0 T' σ') ∧ (Up n0 σ σ' ∧ ∀ o, At σ (n0 + 1) o → At σ' (n0 + 1) o) ∧ At σ' n0 (.cells (ownC had v' ev) 29 true 7) ∧ QV x2 σ' (n0 + 2) σ'.n v' qs ∧ T' 1 = .ptr n0 0 ∧ T' 2 = .ptr (n0 + 1) 0 := by
  intro m
  induction m with
  | zero =>
    intro i hi T σ v hw hM hQ hA hV hn h1 h2 h3 h4
    have e := ec7_1_1_1_0_1_0_0 kOc T σ
    have d1 : decide ((i : Int) < (qs.length : Int)) = false := by simp; omega
    simp only [mv_eq, g1_eq, bindR_val, h3, h4, hQ.lenV, binOp_int, intOp_lss, d1, condR_boolV, condF, kOc_exit] at e
    refine ⟨_, σ, v, loop_exit (dd_of tab W V 29 e), ⟨(Gw.refl σ).up _, fun _ h => h⟩, hA, ?_, ?_, ?_⟩
    · rw [List.take_of_length_le (by omega)] at hV; exact hV
    · simp (decide := true) only [puts_cons, puts_nil, putE_ne, h1]
    · simp (decide := true) only [puts_cons, puts_nil, putE_ne, h2]
  | succ m ih =>
    intro i hi T σ v hw hM hQ hA hV hn h1 h2 h3 h4
    have hil : i < qs.length := by omega
    obtain ⟨q, hq⟩ : ∃ q, qs[i]? = some q := ⟨_, List.getElem?_eq_getElem hil⟩
    obtain ⟨bq, r, g1, g2, g3, g4⟩ := hQ.get fam0 hq
    have hqok := hok q (List.mem_of_getElem? hq)
    obtain ⟨j, mm⟩ := q
    have e := ec7_1_1_1_0_1_0_0 kOc T σ
    have d1 : decide ((i : Int) < (qs.length : Int)) = true := by simp; omega
    have w1 : IntKind.i64.wrap ((i : Int) + 1) = ((i + 1 : Nat) : Int) := by rw [wrapI (by omega) (by omega)]; omega
    have rc := g3.cells (fam0.pl j mm)
    have lqn : lq ≤ σ.n := by have := hA.1; omega
    obtain ⟨r', s8, p1, p2, p3⟩ := P21 hqok hM g3
    have hw8 : WF s8 := p2.len hw
    have hA8 := hA.gw p2
    have hV8 := hV.gw p2
    have ld12 : loadV tab s8 24 (.ptr n0 3) = .ok v := ld l24 hA8 rfl
    have ld12' : loadV tab σ 24 (.ptr n0 3) = .ok v := ld l24 hA rfl
    have hr'l : r'.length = 24 := by rw [p3.length, fam2.len]
    obtain ⟨v2, s15, q1, q2, q3, q4⟩ := appQ fam2 hw8 hV8 hn p2.n p3 (by rw [List.length_take]; omega)
    have vc := hV8.ql.cell
    have vc2 := q3.ql.cell
    have n8 := p2.n
    have hA15 : At s15 n0 (.cells (ownC had v ev) 29 true 7) := hA8.up q4 (by omega)
    obtain ⟨s20, hs20⟩ : ∃ s20, s20 = s15.set n0 (.cells (ownC had v2 ev) 29 true 7) := ⟨_, rfl⟩
    have hst2 : storeV tab s15 24 (.ptr n0 3) v2 = .ok s20 := by
      rw [hs20]
      have := stv (o := 3) (x := v2) s24 hA15 (by rw [vc2.2.2.2]; rfl) (by omega) (by show 3 + 1 ≤ 7; omega) (by rw [vc2.2.2.2]; simp [vc2.1])
      rw [this, vc2.2.2.2, ownC_spl]
    have ub : Up n0 σ s20 := by
      rw [hs20]
      exact ((p2.up n0).trans (q4.le (by omega))).trans (Up.set (Nat.le_refl _) hA15.1 _)
    have ub1 : ∀ o, At σ (n0 + 1) o → At s20 (n0 + 1) o := by
      intro o ho
      rw [hs20]
      exact ((ho.gw p2).up q4 (by omega)).set_ne hA15.1 (by omega) _
    have hA20 : At s20 n0 (.cells (ownC had v2 ev) 29 true 7) := by rw [hs20]; exact hA15.set_same (q4.len hw8) _
    have n20 : s20.n = s8.n + 2 := by rw [hs20]; exact q2
    have hV20 : QV x2 s20 (n0 + 2) s20.n v2 (qs.take (i + 1)) := by
      have : qs.take (i + 1) = qs.take i ++ [(j, mm)] := by rw [List.take_add_one, hq]; rfl
      rw [this, hs20]
      exact q3.mono (Nat.le_refl _) (Nat.le_refl _) (Nat.le_refl _) (fun b hb1 _ _ => getO_set_other hA15.1 (by omega))
    have b1 : bndA σ.n (.agg r) = true := by
      show bndL σ.n r = true
      exact rc.2.2 _ lqn
    have b2 : beqA (.agg r) (.agg r) = true := by
      unfold beqA; exact rc.2.1
    have b3 : bndO (s8.n + 1) (.cells r' 68 true 24) = true := by
      show bndL (s8.n + 1) r' = true
      exact (p3.cells (fam2.pl j mm)).2.2 _ (by omega)
    have b4 : bndA (s8.n + 1) v = true := vc.2.2.1 _ (by omega)
    have b5 : bndA (s8.n + 1) (.slice s8.n 0 1 (some 1) 24) = true := by
      show Nat.blt s8.n (s8.n + 1) = true
      rw [blt_eq]; simp
    have b6 : bndA s15.n v2 = true := vc2.2.2.1 _ (Nat.le_refl _)
    have b7 : bndA s15.n (.ptr n0 3) = true := by
      show Nat.blt n0 s15.n = true
      rw [blt_eq]; simp; omega
    have c1 : Nat.ble σ.n s8.n = true := Nat.ble_eq_true_of_le n8
    have c2 : Nat.ble (s8.n + 1) s15.n = true := Nat.ble_eq_true_of_le (by omega)
    have c3 : Nat.ble s15.n s20.n = true := Nat.ble_eq_true_of_le (by omega)
    have b0 : bndA σ.n (.func (.func 21) [] []) = true := rfl
    simp only [mv_eq, g1_eq, g2_eq, g3_eq, g4_eq, bindR_val, h1, h3, h4, hQ.lenV, binOp_int, intOp_lss, d1, condR_boolV, condT, g1, g2, sameR, b2, Bool.and_true, List.all_cons, List.all_nil, b0, b1, Bool.and_self, p1, retK_ret, c1,
      fa29_3, Nat.zero_add, ld12, ld12', vc.2.1, bs24 r' hr'l, b3, push_n, b4, b5, q1, c2, b6, b7, hst2, c3, intOp_add, w1, kOc_nxt] at e
    have key : ∃ T1, denK tab W V 29 c7_1_1_1_0_1_0_0 kOc T σ = .ok (.nxt T1 s20) ∧ T1 1 = .ptr n0 0 ∧ T1 2 = .ptr (n0 + 1) 0 ∧ T1 3 = qv ∧ T1 4 = intV .i64 ((i + 1 : Nat) : Int) := by
      refine ⟨_, e, ?_, ?_, ?_, ?_⟩ <;> simp (decide := true) only [puts_cons, puts_nil, putE_same, putE_ne, h1, h2, h3]
    obtain ⟨T1, e1, k1, k2, k3, k4⟩ := key
    obtain ⟨T', σ', v', z1, z2, z3, z4, z5, z6⟩ := ih (i + 1) (by omega) T1 s20 v2 (ub.len hw) (ub.M.trans hM) (hQ.up ub hlq) hA20 hV20 (by omega) k1 k2 k3 k4
    exact ⟨T', σ', v', loop_next (dd_of tab W V 29 e1) z1, ⟨ub.trans z2.1, fun o ho => z2.2 o (ub1 o ho)⟩, z3, z4, z5, z6⟩

/-- OwnTenant -/
theorem W7 (had : Int) (qv : AV) (qs : List (Nat × Int)) (hok : ∀ q ∈ qs, okQ q) (hlen : qs.length < 1000) (σ : St) (hw : WF σ) (hM : σ.M = M0) (hQ : QL x0 σ 0 σ.n qv qs) :
    ∃ σ' bv be, W 7 [.agg (tenC had qv)] σ = .ok (.ret (.agg (ownC had bv (.slice be 0 0 none 7))), σ') ∧ Gw σ σ' ∧ be < σ'.n ∧ QV x2 σ' σ.n σ'.n bv qs := by
  have hB0 := (At.new σ (.cells (tenC had qv) 29 true 7)).push (.cells z29 29 true 7)
  have hB1 := At.new (σ.push (.cells (tenC had qv) 29 true 7)) (.cells z29 29 true 7)
  obtain ⟨S2, hS2⟩ : ∃ S2, S2 = (σ.push (.cells (tenC had qv) 29 true 7)).push (.cells z29 29 true 7) := ⟨_, rfl⟩
  rw [push_n] at hB1
  rw [← hS2] at hB0 hB1
  have gS : Gw σ S2 := by rw [hS2]; exact (Gw.push _ _).trans (Gw.push _ _)
  have nS : S2.n = σ.n + 2 := by rw [hS2]; rfl
  have l1 : loadV tab S2 24 (.ptr σ.n 3) = .ok qv := ld l24 hB0 rfl
  have l2 : loadV tab S2 27 (.ptr σ.n 4) = .ok (.agg [intV .i64 2, nilS, intV .i64 0]) := lda a27 hB0 rfl rfl
  obtain ⟨be, s3, p1, q1, hbe⟩ := P20 (gS.M.trans hM)
  have A3 := hB0.gw q1
  have B3 := hB1.gw q1
  obtain ⟨s4, hs4⟩ : ∃ s4, s4 = s3.set σ.n (.cells (tenC had nilS) 29 true 7) := ⟨_, rfl⟩
  have st4 : storeV tab s3 24 (.ptr σ.n 3) nilS = .ok s4 := by
    rw [hs4]
    exact stv (o := 3) (x := nilS) s24 A3 rfl (by omega) (by show 3 + 1 ≤ 7; omega) rfl
  have G3 := gS.trans q1
  have A4 : At s4 σ.n (.cells (tenC had nilS) 29 true 7) := by rw [hs4]; exact A3.set_same (G3.len hw) _
  have B4 : At s4 (σ.n + 1) (.cells z29 29 true 7) := by rw [hs4]; exact B3.set_ne A3.1 (by omega) _
  have U4 : Up σ.n s3 s4 := by rw [hs4]; exact Up.set (Nat.le_refl _) A3.1 _
  obtain ⟨s5, hs5⟩ : ∃ s5, s5 = s4.set σ.n (.cells (ownC had nilS (.slice be 0 0 none 7)) 29 true 7) := ⟨_, rfl⟩
  have st5 : storeV tab s4 27 (.ptr σ.n 4) (.agg [intV .i64 2, .slice be 0 0 none 7, intV .i64 0]) = .ok s5 := by
    rw [hs5]
    have := stv (o := 4) (x := .agg [intV .i64 2, .slice be 0 0 none 7, intV .i64 0]) s27 A4 rfl (by omega) (by show 4 + 3 ≤ 7; omega) rfl
    rw [this]; rfl
  have A5 : At s5 σ.n (.cells (ownC had nilS (.slice be 0 0 none 7)) 29 true 7) := by rw [hs5]; exact A4.set_same (U4.len (G3.len hw)) _
  have B5 : At s5 (σ.n + 1) (.cells z29 29 true 7) := by rw [hs5]; exact B4.set_ne A4.1 (by omega) _
  have U5 : Up σ.n s4 s5 := by rw [hs5]; exact Up.set (Nat.le_refl _) A4.1 _
  have U : Up σ.n σ s5 := ((G3.up _).trans U4).trans U5
  have n5 : s5.n = s3.n := by rw [hs5, hs4]; rfl
  have n3 := q1.n
  obtain ⟨T0, hT0⟩ : ∃ T0 : Rg, T0 = puts 29 (argE [.agg (tenC had qv)]) [(1, .ptr σ.n 0), (2, .ptr (σ.n + 1) 0), (5, .ptr σ.n 3), (6, qv), (3, qv), (7, .ptr σ.n 4), (8, .agg [intV .i64 2, nilS, intV .i64 0]), (9, .agg [intV .i64 2, .slice be 0 0 none 7, intV .i64 0]), (10, .ptr σ.n 3), (11, .ptr σ.n 4), (4, intV .i64 0)] := ⟨_, rfl⟩
  have t1 : T0 1 = .ptr σ.n 0 := by rw [hT0]; simp (decide := true) only [puts_cons, puts_nil, putE_same, putE_ne]
  have t2 : T0 2 = .ptr (σ.n + 1) 0 := by rw [hT0]; simp (decide := true) only [puts_cons, puts_nil, putE_same, putE_ne]
  have t3 : T0 3 = qv := by rw [hT0]; simp (decide := true) only [puts_cons, puts_nil, putE_same, putE_ne]
  have t4 : T0 4 = intV .i64 ((0 : Nat) : Int) := by rw [hT0]; simp (decide := true) only [puts_cons, puts_nil, putE_same]; rfl
  obtain ⟨T', s6, bv, z1, ⟨z2, z2'⟩, z3, z4, z5, z6⟩ := loop7 had σ.n σ.n (.slice be 0 0 none 7) qv qs hok hlen (Nat.le_refl _) qs.length 0 (by omega) T0 s5 nilS (U.len hw) (U.M.trans hM) (hQ.up U (Nat.le_refl _)) A5 ⟨.inl ⟨rfl, by simp⟩⟩ (by omega) t1 t2 t3 t4
  have B6 := z2' _ B5
  have n6 := z2.n
  have vc := z4.ql.cell
  have l6 : loadV tab s6 29 (.ptr σ.n 0) = .ok (.agg (ownC had bv (.slice be 0 0 none 7))) := lda a29 z3 rfl rfl
  obtain ⟨s7, hs7⟩ : ∃ s7, s7 = s6.set (σ.n + 1) (.cells (ownC had bv (.slice be 0 0 none 7)) 29 true 7) := ⟨_, rfl⟩
  have st7 : storeV tab s6 29 (.ptr (σ.n + 1) 0) (.agg (ownC had bv (.slice be 0 0 none 7))) = .ok s7 := by
    rw [hs7]
    exact st29 B6 rfl rfl (by simp only [ownC, List.all_cons, List.all_nil, vc.1]; rfl)
  have B7 : At s7 (σ.n + 1) (.cells (ownC had bv (.slice be 0 0 none 7)) 29 true 7) := by rw [hs7]; exact B6.set_same (z2.len (U.len hw)) _
  have l7 : loadV tab s7 29 (.ptr (σ.n + 1) 0) = .ok (.agg (ownC had bv (.slice be 0 0 none 7))) := lda a29 B7 rfl rfl
  have U7 : Up σ.n s6 s7 := by rw [hs7]; exact Up.set (by omega) B6.1 _
  have n7 : s7.n = s6.n := by rw [hs7]; rfl
  refine ⟨s7, bv, be, w7 (by simp) ?_, ((U.trans z2).trans U7).gw (Nat.le_refl _), by omega, ?_⟩
  · rw [ec7]
    simp (decide := true) only [bindR_val, mv_eq, g1_eq, g2_eq, g3_eq, retK_ret, box29', push_n, alloc29, ← hS2, fa29_3, fa29_4, Nat.zero_add, l1, l2, p1, nilS_eq, st4, st5]
    rw [← hT0, z1, bindR_val]
    simp (decide := true) only [app_exit, kblk_exit, if_true, kseq_nxt, ec7_1_1_1_1, g1_eq, g3_eq, bindR_val, z5, z6, l6, st7, kRet, resK, puts_cons, puts_nil, putE_ne, l7]
    rfl
  · refine z4.mono (by omega) (by omega) (by omega) (fun b hb1 hb2 hg => ?_)
    rw [hs7, getO_set_other B6.1 (by omega)]
end Go.Proofs.YtcibhglcmcgneaaGreatDoor
namespace Go.Dt
section
variable {D : Tab}

theorem run_intro {f : FuncId} {fn : Func} {args : List AV} {σ : St} {r : AEnd × St} {N : Nat} {rs : List ResultVar} (hf : D.func f = some fn) (hb : fn.body.isSome = true) (hN : fn.ntmps = N) (hr : fn.results.toList = rs)
    (hl : args.length ≤ N) (h : denK D (callW D) (rndW D) N (bodyC D f) (kRet D rs) (argE args) σ = .ok r) :
    ∃ c m, fn.body = some c ∧ (fns D m).run (fr0 [] none f (args ++ replUndef (fn.ntmps - args.length)) [.code c]) none σ = .ok (r.1, none, r.2) := by
  subst hN hr
  obtain ⟨c, hc⟩ := Option.isSome_iff_exists.1 hb
  have e : bodyC D f = c := by simp [bodyC, hf, hc]
  rw [e] at h
  have h := denK_le _ _ _ _ _ _ _ _ _ h
  rw [bindR_ok] at h
  obtain ⟨o, ho, h⟩ := h
  have k := dd_run (ds := []) (rd := none) (D := D) (N := fn.ntmps) f c (argE args) (args ++ replUndef (fn.ntmps - args.length)) σ o (TE.start hl) ho
  refine ⟨c, ?_⟩
  cases o with
  | nxt T' σ' =>
    obtain ⟨L', hT, k⟩ := k
    obtain ⟨m, hm⟩ := k [] 2 (r.1, none, r.2) (by
      show runF D (fns D 1) (fr0 [] none f L' []) none σ' = _
      exact finishW_ok hf hT h 0)
    exact ⟨m, hc, hm⟩
  | ret T' σ' =>
    obtain ⟨L', hT, k⟩ := k
    obtain ⟨m, hm⟩ := k [] 1 (r.1, none, r.2) (finishW_ok hf hT h 0)
    exact ⟨m, hc, hm⟩
  | exit id T' σ' => cases h
  | pan v σ' =>
    obtain ⟨L', k⟩ := k
    obtain ⟨m, hm⟩ := k [] 1 (r.1, none, r.2) (by
      simp only [K.app] at h
      cases h
      rfl)
    exact ⟨m, hc, hm⟩

theorem finish_defer {fid g : FuncId} {fn gfn : Func} {gc : Code} {L : List AV} {T : Rg} {N : Nat} {cap : List AV} {σ σ' : St} {v : AV} {r : AEnd × St}
    (hc : callFn D g cap = .ok (.enter g cap)) (hg : D.func g = some gfn) (hgb : gfn.body = some gc)
    (hrun : ∃ m, (fns D m).run (fr0 [] none g (cap ++ replUndef (gfn.ntmps - cap.length)) [.code gc]) none σ = .ok (.ret v, none, σ'))
    (hf : D.func fid = some fn) (hT : TE N T L) (h : resK D σ' T (fun vs => .ok (.ret (oneRes vs), σ')) fn.results.toList = .ok r) :
    ∃ n, (fns D n).finish fid L [.fn (.func g) cap []] none none σ = .ok (r.1, none, r.2) := by
  obtain ⟨m, hm⟩ := hrun
  have hf' := finishW_ok hf hT h 0
  have h1 := (fns_le' (Nat.le_max_left m 1)).run _ _ _ _ hm
  have h2 := (fns_le' (Nat.le_max_right m 1)).finish _ _ _ _ _ _ _ hf'
  refine ⟨max m 1 + 1, ?_⟩
  show finishF D (fns D (max m 1)) fid L [.fn (.func g) cap []] none none σ = _
  have he : enterFr D g cap = .ok (fr0 [] none g (cap ++ replUndef (gfn.ntmps - cap.length)) [.code gc]) := by
    simp only [enterFr, hg, hgb]
    rfl
  simp only [finishF, invokeT, List.nil_append, hc, bindR_eq, bindR, he, Option.map_none, h1]
  exact h2

/-- a function value is made, and deferred -/
theorem Steps.defer {N : Nat} {fn : FuncId} {L : List AV} {T : Rg} {σ : St} {k : List AItem} {i : Nat} {o1 o2 : Oper} {v : AV} {d : ADef} (hT : TE N T L) (g1 : o1.guard = none) (g2 : o2.guard = none)
    (h1 : execOp D (evalE D T) σ o1.op = .ok (.value v, σ)) (h2 : execOp D (evalE D (putE N T o1.dst v)) σ o2.op = .ok (.defer d, σ)) :
    ∃ L', TE N (putE N (putE N T o1.dst v) o2.dst .undef) L' ∧ Steps D (fr0 [] none fn L (.code (.region i #[o1, o2] false) :: k)) σ (fr0 [d] none fn L' k) σ := by
  refine ⟨put (put L o1.dst v) o2.dst .undef, (hT.put _ _).put _ _, Steps.one fun F => ?_⟩
  have w1 : wantedA #[o1, o2] o1 L = true := by unfold wantedA; rw [g1]
  have w2 : wantedA #[o1, o2] o2 (put L o1.dst v) = true := by unfold wantedA; rw [g2]
  have r : runRegion D F.call F.round false #[o1, o2] false L [] none σ = .ok (.go (put (put L o1.dst v) o2.dst .undef) [d] none σ) := by
    unfold runRegion
    simp only [Bool.false_eq_true, if_false]
    show runSeq D F.call F.round false #[o1, o2] [o1, o2] L [] none σ = _
    unfold runSeq
    rw [w1, if_pos rfl]
    unfold runOne
    rw [hT.eval, h1]
    show (runSeq D F.call F.round false #[o1, o2] [o2] (put L o1.dst v) [] none σ) = _
    unfold runSeq
    rw [w2, if_pos rfl]
    unfold runOne
    rw [(hT.put o1.dst v).eval, h2]
    rfl
  show (runRegion D F.call F.round false #[o1, o2] false L [] none σ >>= _) = _
  rw [r]
  rfl
end
end Go.Dt
namespace Go.Proofs.YtcibhglcmcgneaaGreatDoor
open Go Go.Dt
set_option maxRecDepth 100000

/-- the text of a query -/
theorem bs117 (n : Nat) : buildSliceA tab 117 6 [(0, (str [65, 32, 119, 105, 116, 104, 105, 110, 32, 53])), (1, (str [65, 32, 59, 32, 66, 32, 119, 105, 116, 104, 105, 110, 32, 51])), (2, (str [66, 64, 123, 48, 125, 32, 119, 105, 116, 104, 105, 110, 32, 48])), (3, (str [65, 32, 59, 32, 110, 111, 116, 32, 67, 32, 59, 32, 66, 32, 119, 105, 116, 104, 105, 110, 32, 55])), (4, (str [67, 123, 49, 44, 50, 125, 32, 119, 105, 116, 104, 105, 110, 32, 50])), (5, (str [65, 64, 123, 125, 32, 119, 105, 116, 104, 105, 110, 32, 57]))] n =
    .ok (.slice n 0 6 (some 6) 1, .cells [str (txt 0), str (txt 1), str (txt 2), str (txt 3), str (txt 4), str (txt 5)] 9 true 1) := by kernel_rfl
theorem el117 : elemB 117 9 1 = true := by kernel_rfl
theorem W13 (k : Int) (σ : St) : ∃ j σ', j < 6 ∧ W 13 [intV .i64 k] σ = .ok (.ret (str (txt j)), σ') ∧ Gw σ σ' := by
  have h0 := Int.emod_nonneg k (b := 6) (by omega)
  have h6 := Int.emod_lt_of_pos k (b := 6) (by omega)
  obtain ⟨j, hj⟩ : ∃ j : Nat, k % 6 = (j : Int) := ⟨(k % 6).toNat, by omega⟩
  have hj6 : j < 6 := by omega
  have A := At.new σ (.cells [str (txt 0), str (txt 1), str (txt 2), str (txt 3), str (txt 4), str (txt 5)] 9 true 1)
  have p1 := W6 k 6 (by omega) (by omega) (σ.push (.cells [str (txt 0), str (txt 1), str (txt 2), str (txt 3), str (txt 4), str (txt 5)] 9 true 1))
  rw [hj] at p1
  have ix : indexAddr tab 117 (.slice σ.n 0 6 (some 6) 1) (intV .i64 (j : Int)) = .ok (.ptr σ.n (j * 1)) := ixA0 el117 hj6
  rw [Nat.mul_one] at ix
  have l : loadV tab (σ.push (.cells [str (txt 0), str (txt 1), str (txt 2), str (txt 3), str (txt 4), str (txt 5)] 9 true 1)) 9 (.ptr σ.n j) = .ok (str (txt j)) := ld l9 A (by
    match j, hj6 with
    | 0, _ => rfl
    | 1, _ => rfl
    | 2, _ => rfl
    | 3, _ => rfl
    | 4, _ => rfl
    | 5, _ => rfl)
  refine ⟨j, _, hj6, w13 (by simp) ?_, Gw.push σ (.cells [str (txt 0), str (txt 1), str (txt 2), str (txt 3), str (txt 4), str (txt 5)] 9 true 1)⟩
  rw [ec13]
  simp (decide := true) only [mv_eq, g1_eq, g2_eq, bindR_val, retK_ret, puts_cons, puts_nil, putE_same, bs117, p1, ix, l, r13]

/- tenant.Add -/
theorem alloc3 (n : Nat) : allocA tab 3 n = .ok (.ptr n 0, .cells [intV .i64 0] 3 true 1) := by kernel_rfl
theorem alloc37 (n : Nat) : allocA tab 37 n = .ok (.ptr n 0, .cells [intV .i64 0] 37 true 1) := by kernel_rfl
theorem alloc70 (n : Nat) : allocA tab 70 n = .ok (.ptr n 0, .cells [intV .i64 0, intV .i64 0] 70 true 2) := by kernel_rfl
def z55 : List AV := [intV .i64 0, intV .i64 0, intV .i64 0, intV .i64 0, boolV false, intV .u64 0, nilS, str [], nilS, intV .u64 0, nilS, nilS]
theorem alloc55 (n : Nat) : allocA tab 55 n = .ok (.ptr n 0, .cells z55 55 true 12) := by kernel_rfl
theorem fa70_0 (b o : Nat) : fieldAddr tab 70 (.ptr b o) 0 = .ok (.ptr b o) := by kernel_rfl
theorem build70 : Dt.build tab 70 [] = .ok (.agg [intV .i64 0, intV .i64 0]) := by kernel_rfl
theorem build70' (e : Int) : Dt.build tab 70 [(0, intV .i64 e)] = .ok (.agg [intV .i64 e, intV .i64 0]) := by kernel_rfl
theorem build29' : Dt.build tab 29 [] = .ok (.agg z29) := build29
theorem c30d : callFn tab 30 = fun args => .ok (.enter 30 args) := by kernel_rfl

/-- the boxes of Add, from b on -/
structure Ab (S : St) (b : Nat) (rv : AV) (had : Int) (qv : AV) (nx : List AV) (no : Int) (f1 f2 : Int) (q : List AV) (e : Int) : Prop where
  a0 : At S b (.cells (svC rv) 33 true 4)
  a1 : At S (b + 1) (.cells cC 41 true 5)
  a2 : At S (b + 2) (.cells (tenC had qv) 29 true 7)
  a3 : At S (b + 3) (.cells nx 29 true 7)
  a4 : At S (b + 4) (.cells [intV .i64 no] 3 true 1)
  a5 : At S (b + 5) (.cells [intV .i64 f1, intV .i64 f2] 70 true 2)
  a6 : At S (b + 6) (.cells q 55 true 12)
  a7 : At S (b + 7) (.cells [intV .i64 e] 37 true 1)
theorem Ab.up {lo b : Nat} {S S' : St} {rv : AV} {had : Int} {qv : AV} {nx : List AV} {no f1 f2 : Int} {q : List AV} {e : Int} (h : Ab S b rv had qv nx no f1 f2 q e) (u : Up lo S S') (hl : b + 8 ≤ lo) : Ab S' b rv had qv nx no f1 f2 q e :=
  ⟨h.a0.up u (by omega), h.a1.up u (by omega), h.a2.up u (by omega), h.a3.up u (by omega), h.a4.up u (by omega), h.a5.up u (by omega), h.a6.up u (by omega), h.a7.up u (by omega)⟩
theorem Ab.gw {b : Nat} {S S' : St} {rv : AV} {had : Int} {qv : AV} {nx : List AV} {no f1 f2 : Int} {q : List AV} {e : Int} (h : Ab S b rv had qv nx no f1 f2 q e) (g : Gw S S') : Ab S' b rv had qv nx no f1 f2 q e :=
  ⟨h.a0.gw g, h.a1.gw g, h.a2.gw g, h.a3.gw g, h.a4.gw g, h.a5.gw g, h.a6.gw g, h.a7.gw g⟩
section
variable {b : Nat} {S : St} {rv : AV} {had : Int} {qv : AV} {nx : List AV} {no f1 f2 : Int} {q : List AV} {e : Int}
theorem Ab.set7 (h : Ab S b rv had qv nx no f1 f2 q e) (hw : WF S) (e' : Int) : ∃ S', storeV tab S 37 (.ptr (b + 7) 0) (intV .i64 e') = .ok S' ∧ Ab S' b rv had qv nx no f1 f2 q e' ∧ Up b S S' ∧ S'.n = S.n ∧ (∀ c, c ≠ b + 7 → S'.getO c = S.getO c) := by
  refine ⟨S.set (b + 7) (.cells [intV .i64 e'] 37 true 1), stv (o := 0) (x := intV .i64 e') s37 h.a7 rfl (by omega) (by simp) rfl, ?_, Up.set (by omega) h.a7.1 _, rfl, fun c hc => getO_set_other h.a7.1 (by omega)⟩
  exact ⟨h.a0.set_ne h.a7.1 (by omega) _, h.a1.set_ne h.a7.1 (by omega) _, h.a2.set_ne h.a7.1 (by omega) _, h.a3.set_ne h.a7.1 (by omega) _, h.a4.set_ne h.a7.1 (by omega) _, h.a5.set_ne h.a7.1 (by omega) _, h.a6.set_ne h.a7.1 (by omega) _, h.a7.set_same hw _⟩
theorem Ab.set3 (h : Ab S b rv had qv nx no f1 f2 q e) (hw : WF S) (hn : nx.length = 7) {l : List AV} (hl : l.length = 7) (ho : l.all AV.oneCell = true) : ∃ S', storeV tab S 29 (.ptr (b + 3) 0) (.agg l) = .ok S' ∧ Ab S' b rv had qv l no f1 f2 q e ∧ Up b S S' ∧ S'.n = S.n ∧ (∀ c, c ≠ b + 3 → S'.getO c = S.getO c) := by
  refine ⟨S.set (b + 3) (.cells l 29 true 7), st29 h.a3 hn hl ho, ?_, Up.set (by omega) h.a3.1 _, rfl, fun c hc => getO_set_other h.a3.1 (by omega)⟩
  exact ⟨h.a0.set_ne h.a3.1 (by omega) _, h.a1.set_ne h.a3.1 (by omega) _, h.a2.set_ne h.a3.1 (by omega) _, h.a3.set_same hw _, h.a4.set_ne h.a3.1 (by omega) _, h.a5.set_ne h.a3.1 (by omega) _, h.a6.set_ne h.a3.1 (by omega) _, h.a7.set_ne h.a3.1 (by omega) _⟩
theorem Ab.set4 (h : Ab S b rv had qv nx no f1 f2 q e) (hw : WF S) (n' : Int) : ∃ S', storeV tab S 3 (.ptr (b + 4) 0) (intV .i64 n') = .ok S' ∧ Ab S' b rv had qv nx n' f1 f2 q e ∧ Up b S S' ∧ S'.n = S.n ∧ (∀ c, c ≠ b + 4 → S'.getO c = S.getO c) := by
  refine ⟨S.set (b + 4) (.cells [intV .i64 n'] 3 true 1), stv (o := 0) (x := intV .i64 n') s3 h.a4 rfl (by omega) (by simp) rfl, ?_, Up.set (by omega) h.a4.1 _, rfl, fun c hc => getO_set_other h.a4.1 (by omega)⟩
  exact ⟨h.a0.set_ne h.a4.1 (by omega) _, h.a1.set_ne h.a4.1 (by omega) _, h.a2.set_ne h.a4.1 (by omega) _, h.a3.set_ne h.a4.1 (by omega) _, h.a4.set_same hw _, h.a5.set_ne h.a4.1 (by omega) _, h.a6.set_ne h.a4.1 (by omega) _, h.a7.set_ne h.a4.1 (by omega) _⟩
theorem Ab.set5 (h : Ab S b rv had qv nx no f1 f2 q e) (hw : WF S) (g1 g2 : Int) : ∃ S', storeV tab S 70 (.ptr (b + 5) 0) (.agg [intV .i64 g1, intV .i64 g2]) = .ok S' ∧ Ab S' b rv had qv nx no g1 g2 q e ∧ Up b S S' ∧ S'.n = S.n ∧ (∀ c, c ≠ b + 5 → S'.getO c = S.getO c) := by
  refine ⟨S.set (b + 5) (.cells [intV .i64 g1, intV .i64 g2] 70 true 2), stv (o := 0) (x := .agg [intV .i64 g1, intV .i64 g2]) s70 h.a5 rfl (by omega) (by simp) rfl, ?_, Up.set (by omega) h.a5.1 _, rfl, fun c hc => getO_set_other h.a5.1 (by omega)⟩
  exact ⟨h.a0.set_ne h.a5.1 (by omega) _, h.a1.set_ne h.a5.1 (by omega) _, h.a2.set_ne h.a5.1 (by omega) _, h.a3.set_ne h.a5.1 (by omega) _, h.a4.set_ne h.a5.1 (by omega) _, h.a5.set_same hw _, h.a6.set_ne h.a5.1 (by omega) _, h.a7.set_ne h.a5.1 (by omega) _⟩
theorem spl55 : ∀ (cs l : List AV), cs.length = 12 → l.length = 12 → splice cs 0 l = l
  | [_, _, _, _, _, _, _, _, _, _, _, _], [_, _, _, _, _, _, _, _, _, _, _, _], _, _ => rfl
theorem Ab.set6 (h : Ab S b rv had qv nx no f1 f2 q e) (hw : WF S) (hn : q.length = 12) {l : List AV} (hl : l.length = 12) (ho : l.all AV.oneCell = true) : ∃ S', storeV tab S 55 (.ptr (b + 6) 0) (.agg l) = .ok S' ∧ Ab S' b rv had qv nx no f1 f2 l e ∧ Up b S S' ∧ S'.n = S.n ∧ (∀ c, c ≠ b + 6 → S'.getO c = S.getO c) := by
  refine ⟨S.set (b + 6) (.cells l 55 true 12), ?_, ?_, Up.set (by omega) h.a6.1 _, rfl, fun c hc => getO_set_other h.a6.1 (by omega)⟩
  · have := stv (o := 0) (x := .agg l) s55 h.a6 hl (by omega) (by omega) ho
    rw [this]
    congr 3
    exact spl55 q l hn hl
  · exact ⟨h.a0.set_ne h.a6.1 (by omega) _, h.a1.set_ne h.a6.1 (by omega) _, h.a2.set_ne h.a6.1 (by omega) _, h.a3.set_ne h.a6.1 (by omega) _, h.a4.set_ne h.a6.1 (by omega) _, h.a5.set_ne h.a6.1 (by omega) _, h.a6.set_same hw _, h.a7.set_ne h.a6.1 (by omega) _⟩
end
end Go.Proofs.YtcibhglcmcgneaaGreatDoor
namespace Go.Proofs.YtcibhglcmcgneaaGreatDoor
open Go Go.Dt
set_option maxRecDepth 100000

theorem appR {x : Nat → Int → List Tt} (F : Fam x) {s : St} (hw : WF s) {lo hi : Nat} {v : AV} {qs : List (Nat × Int)} (h : QV x s lo hi v qs) (hh : hi ≤ s.n) (_ : lo ≤ s.n) {r : List AV} (hrl : r.length = 24) (hro : r.all AV.oneCell = true) (hn : qs.length + 1 < 1073741824) :
    ∃ s2 rows, appendV tab (s.push (.cells r 68 true 24)) 24 24 v (.slice s.n 0 1 (some 1) 24) = .ok (.slice (s.n + 1) 0 (qs.length + 1) none 24, s2) ∧ s2.n = s.n + 2 ∧ At s2 (s.n + 1) (.cells (rows.flatten ++ r) 68 true 24) ∧ RowsQ x s2 lo (s.n + 1) rows qs ∧ Up lo s s2 := by
  have key : ∃ cs fp rows, Vec s 68 24 qs.length v cs fp ∧ cs = rows.flatten ∧ RowsQ x s lo s.n rows qs ∧ (∀ y ∈ fp, lo ≤ y ∧ y < s.n ∧ RowsQ x s lo y rows qs) ∧ (fp = [] → rows = []) := by
    rcases h.is with ⟨rfl, rfl⟩ | ⟨b, rows, rfl, k2, k3, k4, k5⟩
    · exact ⟨[], [], [], Vec.nil s 68 24, rfl, by simp [RowsQ], by simp, by simp⟩
    · refine ⟨rows.flatten, [b], rows, ⟨k5.flen F, .inr ⟨b, rfl, k4, rfl⟩⟩, rfl, k5.mono (Nat.le_refl _) (by omega) (fun _ _ _ _ => rfl), ?_, by simp⟩
      intro y hy
      simp only [List.mem_singleton] at hy
      subst hy
      exact ⟨k2, k4.1, k5⟩
  obtain ⟨cs, fp, rows, hV, rfl, hrows, hfp, hfp0⟩ := key
  obtain ⟨s2, e1, e2, e3, e4⟩ := app1 (new := r) app24 hw hV hn hrl hro
  refine ⟨s2, rows, e1, e4, e2, ?_, ?_⟩
  · cases fp with
    | nil =>
      rw [hfp0 rfl] at hrows ⊢
      exact hrows.mono (Nat.le_refl _) (by omega) (fun b hb1 hb2 hg => e3.old b (by omega) (by simp))
    | cons y ys =>
      obtain ⟨f1, f2, f3⟩ := hfp y (by simp)
      have hys : ys = [] := by
        rcases hV.is with ⟨_, _, h3⟩ | ⟨b, _, _, h3⟩
        · cases h3
        · cases h3; rfl
      subst hys
      exact f3.mono (Nat.le_refl _) (by omega) (by
        intro b hb1 hb2 hg
        refine e3.old b (by omega) ?_
        simp only [List.mem_singleton]
        omega)
  · exact ⟨by omega, fun b hb hl => e3.old b hb (fun hf => by have := (hfp b hf).1; omega), fun hl => e3.len hl, e3.M⟩

theorem q0_len (j : Nat) : (q0 j).length = 12 := by unfold q0; split <;> rfl
theorem q0_pl (j : Nat) : (q0 j).all plT = true := by unfold q0; split <;> rfl
theorem P31 {j : Nat} (hj : j < 6) {σ : St} (hM : σ.M = M0) : ∃ q σ', W 31 [str (txt j)] σ = .ok (.ret (.tuple [.agg q, .agg [intV .i64 0, intV .i64 0]]), σ') ∧ Gw σ σ' ∧ DpL σ' σ.n σ'.n (q0 j) q := by
  obtain ⟨x, σ', h1, h2, h3⟩ := (k31 j hj).call hM (xs := [str (txt j)]) (lo := 0) (hi := 0) (by
    simp only [DpL, Dp, Z]
    exact ⟨_, [], rfl, rfl, rfl⟩)
  simp only [Dp, DpL, I] at h3
  obtain ⟨l, rfl, a, r, rfl, ⟨q, rfl, hq⟩, b', r', rfl, ⟨l2, rfl, c1, r1, rfl, rfl, c2, r2, rfl, rfl, rfl⟩, rfl⟩ := h3
  exact ⟨q, σ', h1, h2, hq⟩
section
variable {j : Nat} (hj : j < 6) {σ : St} (hM : σ.M = M0) {lo hi : Nat} {q : List AV} (hq : DpL σ lo hi (q0 j) q)
include hj hM hq
theorem P33 : ∃ σ', W 33 [.agg q] σ = .ok (.ret (intV .i64 0), σ') ∧ Gw σ σ' := by
  obtain ⟨x, σ', h1, h2, h3⟩ := (k33 j hj).call hM (xs := [.agg q]) (lo := lo) (hi := hi) (by
    simp only [DpL, Dp]
    exact ⟨_, [], rfl, ⟨q, rfl, hq⟩, rfl⟩)
  have : x = intV .i64 0 := by
    simp only [I, Dp] at h3
    exact h3
  subst this
  exact ⟨σ', h1, h2⟩
theorem P35 : ∃ y σ', W 35 [.agg q] σ = .ok (.ret (.tuple [y, intV .i64 0]), σ') ∧ Gw σ σ' := by
  obtain ⟨x, σ', h1, h2, h3⟩ := (k35 j hj).call hM (xs := [.agg q]) (lo := lo) (hi := hi) (by
    simp only [DpL, Dp]
    exact ⟨_, [], rfl, ⟨q, rfl, hq⟩, rfl⟩)
  rw [Dp] at h3
  obtain ⟨l, rfl, h3⟩ := h3
  rw [DpL] at h3
  obtain ⟨y, r, rfl, _, h3⟩ := h3
  simp only [DpL, Dp, I] at h3
  obtain ⟨z, r', rfl, rfl, rfl⟩ := h3
  exact ⟨y, σ', h1, h2⟩
theorem P37 : ∃ σ', W 37 [.agg q, intV .u64 1] σ = .ok (.ret (intV .i64 0), σ') ∧ Gw σ σ' := by
  obtain ⟨x, σ', h1, h2, h3⟩ := (k37 j hj).call hM (xs := [.agg q, intV .u64 1]) (lo := lo) (hi := hi) (by
    simp only [DpL, Dp, U]
    exact ⟨_, _, rfl, ⟨q, rfl, hq⟩, _, _, rfl, rfl, rfl⟩)
  have : x = intV .i64 0 := by
    simp only [I, Dp] at h3
    exact h3
  subst this
  exact ⟨σ', h1, h2⟩
theorem P38 {m : Int} (h1 : 1 ≤ m) (h2 : m ≤ 20) {h' : Nat} {rv : AV} (hs : StV σ h' rv) : ∃ r σ', W 38 [.agg (svC rv), intV .i64 m, .agg q, intV .u64 1, intV .i64 9] σ = .ok (.ret (.tuple [.agg r, intV .i64 0]), σ') ∧ Gw σ σ' ∧ DpL σ' σ.n σ'.n (x0 j m) r := by
  obtain ⟨x, σ', h1, h2, h3⟩ := (k38 j m hj h1 h2).call hM (xs := [.agg (svC rv), intV .i64 m, .agg q, intV .u64 1, intV .i64 9]) (lo := 0) (hi := max h' hi) (by
    rw [DpL]
    refine ⟨_, _, rfl, Dp.mono (Nat.le_refl _) (Nat.le_max_left _ _) (fun _ _ _ _ => rfl) _ _ hs.is, ?_⟩
    simp only [DpL, Dp, I, U]
    exact ⟨_, _, rfl, rfl, _, _, rfl, ⟨q, rfl, DpL.mono (Nat.zero_le _) (Nat.le_max_right _ _) (fun _ _ _ _ => rfl) _ _ hq⟩, _, _, rfl, rfl, _, _, rfl, rfl, rfl⟩)
  simp only [Dp, DpL, I] at h3
  obtain ⟨l, rfl, a, r, rfl, ⟨q', rfl, hq'⟩, b', r', rfl, rfl, rfl⟩ := h3
  exact ⟨q', σ', h1, h2, hq'⟩
end

/- the steps of Add -/
section
variable {b : Nat} {S : St} {rv : AV} {had : Int} {qv : AV} {nx : List AV} {no f1 f2 : Int} {q : List AV} {e : Int} {j : Nat} (hj : j < 6) (hM : S.M = M0) (hA : Ab S b rv had qv nx no f1 f2 q e) {lo hi : Nat} (hq : DpL S lo hi (q0 j) q)
include hj hM hA hq
theorem W32 : ∃ σ', W 32 [.ptr (b + 6) 0] S = .ok (.ret (intV .i64 0), σ') ∧ Gw S σ' := by
  have l : loadV tab S 55 (.ptr (b + 6) 0) = .ok (.agg q) := lda a55 hA.a6 (by rw [List.drop_zero]; exact List.take_of_length_le (by rw [hq.length, q0_len]; omega)) (by rw [hq.length, q0_len])
  obtain ⟨σ', h1, h2⟩ := P33 hj hM hq
  refine ⟨σ', w32 (by simp) ?_, h2⟩
  rw [ec32]
  simp (decide := true) only [mv_eq, g1_eq, g2_eq, bindR_val, retK_ret, puts_cons, puts_nil, putE_same, l, h1, r32]
theorem W34 : ∃ σ', W 34 [.ptr (b + 6) 0] S = .ok (.ret (intV .i64 0), σ') ∧ Gw S σ' := by
  have l : loadV tab S 55 (.ptr (b + 6) 0) = .ok (.agg q) := lda a55 hA.a6 (by rw [List.drop_zero]; exact List.take_of_length_le (by rw [hq.length, q0_len]; omega)) (by rw [hq.length, q0_len])
  obtain ⟨y, σ', h1, h2⟩ := P35 hj hM hq
  refine ⟨σ', w34 (by simp) ?_, h2⟩
  rw [ec34]
  simp (decide := true) only [mv_eq, g1_eq, g2_eq, bindR_val, retK_ret, extractV_0, extractV_1, puts_cons, puts_nil, putE_same, l, h1, r34]
theorem W36 : ∃ σ', W 36 [.ptr (b + 6) 0, .ptr (b + 2) 0] S = .ok (.ret (intV .i64 0), σ') ∧ Gw S σ' := by
  have l : loadV tab S 55 (.ptr (b + 6) 0) = .ok (.agg q) := lda a55 hA.a6 (by rw [List.drop_zero]; exact List.take_of_length_le (by rw [hq.length, q0_len]; omega)) (by rw [hq.length, q0_len])
  have l2 : loadV tab S 23 (.ptr (b + 2) 1) = .ok (intV .u64 1) := ld l23 hA.a2 rfl
  obtain ⟨σ', h1, h2⟩ := P37 hj hM hq
  refine ⟨σ', w36 (by simp) ?_, h2⟩
  rw [ec36]
  simp (decide := true) only [mv_eq, g1_eq, g2_eq, bindR_val, retK_ret, puts_cons, puts_nil, putE_same, l, fa29_1, Nat.zero_add, l2, h1, r36]
end
def fs3 (p r : AV) : AV := .agg [.func (.func 32) [] [p], .func (.func 34) [] [p], .func (.func 36) [] [p, r]]
theorem build114 (p r : AV) : Dt.build tab 114 [(0, .func (.func 32) [] [p]), (1, .func (.func 34) [] [p]), (2, .func (.func 36) [] [p, r])] = .ok (fs3 p r) := by kernel_rfl
theorem ix114_0 (p r : AV) : indexV tab 114 (fs3 p r) (intV .i64 ((0 : Nat) : Int)) = .ok (.func (.func 32) [] [p]) := by kernel_rfl
theorem ix114_1 (p r : AV) : indexV tab 114 (fs3 p r) (intV .i64 ((1 : Nat) : Int)) = .ok (.func (.func 34) [] [p]) := by kernel_rfl
theorem ix114_2 (p r : AV) : indexV tab 114 (fs3 p r) (intV .i64 ((2 : Nat) : Int)) = .ok (.func (.func 36) [] [p, r]) := by kernel_rfl
theorem cG32 (p : AV) (s : St) : callG tab W V (.func (.func 32) [] [p]) [] s = W 32 [p] s := by kernel_rfl
theorem cG34 (p : AV) (s : St) : callG tab W V (.func (.func 34) [] [p]) [] s = W 34 [p] s := by kernel_rfl
theorem cG36 (p r : AV) (s : St) : callG tab W V (.func (.func 36) [] [p, r]) [] s = W 36 [p, r] s := by kernel_rfl

/-- one step of the loop over the steps -/
theorem step12 {b : Nat} {S S1 : St} {rv : AV} {had : Int} {qv : AV} {nx : List AV} {no f1 f2 : Int} {q : List AV} {e : Int} (hw : WF S) (hA : Ab S b rv had qv nx no f1 f2 q e) (g : Gw S S1) {T : Rg} {i : Nat} (hi : i < 3) {fs f : AV}
    (t12 : T 12 = .ptr (b + 7) 0) (t42 : T 42 = fs) (t43 : T 43 = intV .i64 (i : Int)) (hx : indexV tab 114 fs (intV .i64 (i : Int)) = .ok f) (hc : callG tab W V f [] S = .ok (.ret (intV .i64 0), S1)) :
    ∃ T' S', dd tab W V 103 c12_1_1_1_1_1_1_1_0_1_0_0 T S = .ok (.nxt T' S') ∧ Ab S' b rv had qv nx no f1 f2 q 0 ∧ Up b S S' ∧ S'.n = S1.n ∧ (∀ c, c < S.n → c ≠ b + 7 → S'.getO c = S.getO c) ∧ T' 43 = intV .i64 ((i + 1 : Nat) : Int) ∧ T' 42 = fs ∧
      T' 3 = T 3 ∧ T' 4 = T 4 ∧ T' 5 = T 5 ∧ T' 6 = T 6 ∧ T' 8 = T 8 ∧ T' 9 = T 9 ∧ T' 10 = T 10 ∧ T' 11 = T 11 ∧ T' 12 = T 12 := by
  obtain ⟨S2, s1, s2, s3, s4, s5⟩ := (hA.gw g).set7 (g.len hw) 0
  have l : loadV tab S2 37 (.ptr (b + 7) 0) = .ok (intV .i64 0) := ld l37 s2.a7 rfl
  have e := ec12_1_1_1_1_1_1_1_0_1_0_0 kOc T S
  have d1 : decide ((i : Int) < 3) = true := by simp; omega
  have d0 : ((0 : Int) != 0) = false := rfl
  have w1 : IntKind.i64.wrap ((i : Int) + 1) = ((i + 1 : Nat) : Int) := by rw [wrapI (by omega) (by omega)]; omega
  simp (decide := true) only [mv_eq, g1_eq, g2_eq, g3_eq, bindR_val, retK_ret, condR_boolV, condT, condF, binOp_int, intOp_add, intOp_neq, intOp_lss, kOc_nxt, kOc_ret, kOc_exit, t12, t42, t43, d1, hx, hc, s1, l, d0, w1] at e
  refine ⟨_, S2, dd_of tab W V 103 e, s2, (g.up b).trans s3, s4, fun c hc1 hc2 => (s5 c hc2).trans (g.old c hc1), ?_, ?_, ?_, ?_, ?_, ?_, ?_, ?_, ?_, ?_, ?_⟩ <;> simp (decide := true) only [puts_cons, puts_nil, putE_same, putE_ne, t42, t12]
end Go.Proofs.YtcibhglcmcgneaaGreatDoor
namespace Go.Proofs.YtcibhglcmcgneaaGreatDoor
open Go Go.Dt
set_option maxRecDepth 100000

structure Rg12 (T : Rg) (b : Nat) (tx : AV) : Prop where
  t3 : T 3 = tx
  t4 : T 4 = .ptr b 0
  t5 : T 5 = .ptr (b + 1) 0
  t6 : T 6 = .ptr (b + 2) 0
  t8 : T 8 = .ptr (b + 3) 0
  t9 : T 9 = .ptr (b + 4) 0
  t10 : T 10 = .ptr (b + 5) 0
  t11 : T 11 = .ptr (b + 6) 0
  t12 : T 12 = .ptr (b + 7) 0
theorem Ab.l0 {S : St} {b : Nat} {rv : AV} {had : Int} {qv : AV} {nx : List AV} {no f1 f2 : Int} {q : List AV} {e : Int} (h : Ab S b rv had qv nx no f1 f2 q e) :
    loadV tab S 33 (.ptr b 0) = .ok (.agg (svC rv)) ∧ loadV tab S 41 (.ptr (b + 1) 0) = .ok (.agg cC) ∧ loadV tab S 29 (.ptr (b + 2) 0) = .ok (.agg (tenC had qv)) ∧ loadV tab S 24 (.ptr (b + 2) 3) = .ok qv ∧
    loadV tab S 3 (.ptr (b + 1) 1) = .ok (intV .i64 4) ∧ loadV tab S 3 (.ptr (b + 2) 2) = .ok (intV .i64 had) ∧ loadV tab S 23 (.ptr (b + 2) 1) = .ok (intV .u64 1) ∧ loadV tab S 3 (.ptr (b + 1) 2) = .ok (intV .i64 9) ∧
    loadV tab S 37 (.ptr (b + 7) 0) = .ok (intV .i64 e) ∧ loadV tab S 37 (.ptr (b + 5) 0) = .ok (intV .i64 f1) :=
  ⟨lda a33 h.a0 rfl rfl, lda a41 h.a1 rfl rfl, lda a29 h.a2 rfl rfl, ld l24 h.a2 rfl, ld l3 h.a1 rfl, ld l3 h.a2 rfl, ld l23 h.a2 rfl, ld l3 h.a1 rfl, ld l37 h.a7 rfl, ld l37 h.a5 rfl⟩

theorem n0 : ((0 : Int) != 0) = false := rfl
theorem n15 : ((15 : Int) != 0) = true := rfl

theorem stA {S : St} {b : Nat} {rv : AV} {had : Int} {qv : AV} {nx : List AV} {no f1 f2 : Int} {q : List AV} {e : Int} (hA : Ab S b rv had qv nx no f1 f2 q e) (_ : b + 8 ≤ S.n) (hw : WF S) (hM : S.M = M0) (h0 : 0 ≤ had) (h20 : had ≤ 20) {qs : List (Nat × Int)} (hN : Numb had qs) (hlen : qs.length ≤ 4)
    (hS : StV S S.n rv) (hQ : QL x0 S 0 S.n qv qs) {T : Rg} {tx : AV} (hT : Rg12 T b tx) :
    ∃ T' S', denK tab W V 103 c12_1_1_1_1 kOc T S = denK tab W V 103 c12_1_1_1_1_1 kOc T' S' ∧ Rg12 T' b tx ∧ Ab S' b rv had qv nx no f1 f2 q 0 ∧ S.n ≤ S'.n ∧ Up b S S' ∧ (∀ c, c < S.n → c ≠ b + 7 → S'.getO c = S.getO c) := by
  obtain ⟨l0, l1, l2, _⟩ := hA.l0
  obtain ⟨s1, p1, g1⟩ := W22 had h0 h20 rv qv qs hN hlen S hw hM hS hQ
  obtain ⟨s2, q1, q2, q3, q4, q5⟩ := (hA.gw g1).set7 (g1.len hw) 0
  obtain ⟨_, _, _, _, _, _, _, _, le, _⟩ := q2.l0
  have e := ec12_1_1_1_1 kOc T S
  simp (decide := true) only [g1_eq, g2_eq, g3_eq, bindR_val, retK_ret, condR_boolV, condF, binOp_int, intOp_neq, kOc_ret, hT.t4, hT.t5, hT.t6, hT.t12, l0, l1, l2, p1, q1, le, n0] at e
  refine ⟨_, s2, e, ?_, q2, by have := g1.n; omega, (g1.up b).trans q3, fun c hc1 hc2 => (q5 c hc2).trans (g1.old c hc1)⟩
  constructor <;> simp (decide := true) only [puts_cons, puts_nil, putE_ne, hT.t3, hT.t4, hT.t5, hT.t6, hT.t8, hT.t9, hT.t10, hT.t11, hT.t12]

theorem stB {S : St} {b : Nat} {rv : AV} {had : Int} {qv : AV} {nx : List AV} {no f1 f2 : Int} {q : List AV} (hA : Ab S b rv had qv nx no f1 f2 q 0) (hw : WF S) {qs : List (Nat × Int)} (hlen : qs.length ≤ 4) {lq : Nat} (hQ : QL x0 S 0 lq qv qs) {T : Rg} {tx : AV} (hT : Rg12 T b tx) :
    (4 ≤ qs.length ∧ ∃ T' S', denK tab W V 103 c12_1_1_1_1_1 kOc T S = .ok (.ret T' S') ∧ Rg12 T' b tx ∧ Ab S' b rv had qv nx no f1 f2 q 15 ∧ Up b S S' ∧ S'.n = S.n ∧ (∀ c, c ≠ b + 7 → S'.getO c = S.getO c)) ∨
    (qs.length < 4 ∧ ∃ T', denK tab W V 103 c12_1_1_1_1_1 kOc T S = denK tab W V 103 c12_1_1_1_1_1_1 kOc T' S ∧ Rg12 T' b tx) := by
  obtain ⟨_, _, _, lq', lc, _⟩ := hA.l0
  by_cases h : 4 ≤ qs.length
  · left
    obtain ⟨s2, q1, q2, q3, q4, q5⟩ := hA.set7 hw 15
    have d1 : decide ((qs.length : Int) ≥ 4) = true := by simp; omega
    have e := ec12_1_1_1_1_1 kOc T S
    simp (decide := true) only [g1_eq, g3_eq, bindR_val, condR_boolV, condT, binOp_int, intOp_geq, kOc_ret, hT.t5, hT.t6, hT.t12, fa29_3, fa41_1, Nat.zero_add, lq', lc, hQ.lenV, d1, q1] at e
    refine ⟨h, _, s2, e, ?_, q2, q3, q4, q5⟩
    constructor <;> simp (decide := true) only [puts_cons, puts_nil, putE_ne, hT.t3, hT.t4, hT.t5, hT.t6, hT.t8, hT.t9, hT.t10, hT.t11, hT.t12]
  · right
    have d1 : decide ((qs.length : Int) ≥ 4) = false := by simp; omega
    have e := ec12_1_1_1_1_1 kOc T S
    simp (decide := true) only [g1_eq, g3_eq, bindR_val, condR_boolV, condF, binOp_int, intOp_geq, kOc_ret, hT.t5, hT.t6, hT.t12, fa29_3, fa41_1, Nat.zero_add, lq', lc, hQ.lenV, d1] at e
    refine ⟨by omega, _, e, ?_⟩
    constructor <;> simp (decide := true) only [puts_cons, puts_nil, putE_ne, hT.t3, hT.t4, hT.t5, hT.t6, hT.t8, hT.t9, hT.t10, hT.t11, hT.t12]

theorem stC12 {S : St} {b : Nat} {rv : AV} {had : Int} {qv : AV} {nx : List AV} {no f1 f2 : Int} {q : List AV} {e : Int} (hA : Ab S b rv had qv nx no f1 f2 q e) (hb : b + 8 ≤ S.n) (hql : q.length = 12) (hw : WF S) (hM : S.M = M0) {j : Nat} (hj : j < 6) {T : Rg} (hT : Rg12 T b (str (txt j))) :
    ∃ T' S' q', denK tab W V 103 c12_1_1_1_1_1_1 kOc T S = denK tab W V 103 c12_1_1_1_1_1_1_1 kOc T' S' ∧ Rg12 T' b (str (txt j)) ∧ Ab S' b rv had qv nx no 0 0 q' e ∧ DpL S' S.n S'.n (q0 j) q' ∧ S.n ≤ S'.n ∧ Up b S S' ∧ (∀ c, c < S.n → c < b ∨ b + 8 ≤ c → S'.getO c = S.getO c) := by
  obtain ⟨q', s1, p1, g1, hq1⟩ := P31 hj hM
  have hq1l : q'.length = 12 := by rw [hq1.length, q0_len]
  obtain ⟨s2, a1, a2, a3, a4, a5⟩ := (hA.gw g1).set6 (g1.len hw) hql hq1l (hq1.cells (q0_pl j)).1
  obtain ⟨s3, b1, b2, b3, b4, b5⟩ := a2.set5 (a3.len (g1.len hw)) 0 0
  obtain ⟨_, _, _, _, _, _, _, _, _, lf⟩ := b2.l0
  have n1 := g1.n
  have e := ec12_1_1_1_1_1_1 kOc T S
  simp (decide := true) only [mv_eq, g1_eq, g2_eq, g3_eq, bindR_val, retK_ret, condR_boolV, condF, binOp_int, intOp_neq, kOc_ret, extractV_0, extractV_1, hT.t3, hT.t10, hT.t11, p1, a1, b1, fa70_0, lf, n0] at e
  refine ⟨_, s3, q', e, ?_, b2, ?_, by omega, ((g1.up b).trans a3).trans b3, fun c hc1 hc2 => ((b5 c (by omega)).trans (a5 c (by omega))).trans (g1.old c hc1)⟩
  constructor <;> simp (decide := true) only [puts_cons, puts_nil, putE_ne, hT.t3, hT.t4, hT.t5, hT.t6, hT.t8, hT.t9, hT.t10, hT.t11, hT.t12]
  · exact DpL.mono (Nat.le_refl _) (by omega) (fun c hc1 hc2 _ => (b5 c (by omega)).trans (a5 c (by omega))) _ _ hq1

theorem stD {S : St} {b : Nat} {rv : AV} {had : Int} {qv : AV} {nx : List AV} {no f1 f2 : Int} {q : List AV} {e : Int} (hA : Ab S b rv had qv nx no f1 f2 q e) (_ : b + 8 ≤ S.n) (hw : WF S) (hM : S.M = M0) {j : Nat} (hj : j < 6) {lo hi : Nat} (hlo : b + 8 ≤ lo) (hq : DpL S lo hi (q0 j) q) {T : Rg} {tx : AV} (hT : Rg12 T b tx) :
    ∃ T' S', denK tab W V 103 c12_1_1_1_1_1_1_1 kOc T S = denK tab W V 103 c12_1_1_1_1_1_1_1_1 kOc T' S' ∧ Rg12 T' b tx ∧ Ab S' b rv had qv nx no f1 f2 q 0 ∧ DpL S' lo hi (q0 j) q ∧ S.n ≤ S'.n ∧ Up b S S' ∧ (∀ c, c < S.n → c < b ∨ b + 8 ≤ c → S'.getO c = S.getO c) := by
  obtain ⟨T0, hT0⟩ : ∃ T0 : Rg, T0 = puts 103 T [(39, .func (.func 32) [] [.ptr (b + 6) 0]), (40, .func (.func 34) [] [.ptr (b + 6) 0]), (41, .func (.func 36) [] [.ptr (b + 6) 0, .ptr (b + 2) 0]), (42, fs3 (.ptr (b + 6) 0) (.ptr (b + 2) 0)), (43, intV .i64 0)] := ⟨_, rfl⟩
  have r0 : Rg12 T0 b tx := by
    rw [hT0]
    constructor <;> simp (decide := true) only [puts_cons, puts_nil, putE_ne, hT.t3, hT.t4, hT.t5, hT.t6, hT.t8, hT.t9, hT.t10, hT.t11, hT.t12]
  have t42 : T0 42 = fs3 (.ptr (b + 6) 0) (.ptr (b + 2) 0) := by rw [hT0]; simp (decide := true) only [puts_cons, puts_nil, putE_same, putE_ne]
  have t43 : T0 43 = intV .i64 ((0 : Nat) : Int) := by rw [hT0]; simp (decide := true) only [puts_cons, puts_nil, putE_same]; rfl
  have hqm : ∀ {S' : St}, (∀ c, c < S.n → c < b ∨ b + 8 ≤ c → S'.getO c = S.getO c) → DpL S' lo hi (q0 j) q := fun hh =>
    DpL.mono (Nat.le_refl _) (Nat.le_refl _) (fun c hc1 hc2 hg => hh c (getO_gone hg) (by omega)) _ _ hq
  -- the three steps
  obtain ⟨u1, c1, g1⟩ := W32 hj hM hA hq
  obtain ⟨T1, S1, d1, A1, U1, n1, k1, x43, x42, y3, y4, y5, y6, y8, y9, y10, y11, y12⟩ := step12 hw hA g1 (i := 0) (by omega) r0.t12 t42 t43 (ix114_0 _ _) ((cG32 _ _).trans c1)
  have kk1 : ∀ c, c < S.n → c < b ∨ b + 8 ≤ c → S1.getO c = S.getO c := fun c h1 h2 => k1 c h1 (by omega)
  have ng1 := g1.n
  obtain ⟨u2, c2, g2⟩ := W34 hj (U1.M.trans hM) A1 (hqm kk1)
  obtain ⟨T2, S2, d2, A2, U2, n2, k2, z43, z42, w3, w4, w5, w6, w8, w9, w10, w11, w12⟩ := step12 (U1.len hw) A1 g2 (i := 1) (by omega) (y12.trans r0.t12) x42 x43 (ix114_1 _ _) ((cG34 _ _).trans c2)
  have kk2 : ∀ c, c < S.n → c < b ∨ b + 8 ≤ c → S2.getO c = S.getO c := fun c h1 h2 => (k2 c (by omega) (by omega)).trans (kk1 c h1 h2)
  have ng2 := g2.n
  have U02 := U1.trans U2
  obtain ⟨u3, c3, g3⟩ := W36 hj (U02.M.trans hM) A2 (hqm kk2)
  obtain ⟨T3, S3, d3, A3, U3, n3, k3, v43, v42, s3', s4, s5, s6, s8, s9, s10, s11, s12⟩ := step12 (U02.len hw) A2 g3 (i := 2) (by omega) (w12.trans (y12.trans r0.t12)) z42 z43 (ix114_2 _ _) ((cG36 _ _ _).trans c3)
  have kk3 : ∀ c, c < S.n → c < b ∨ b + 8 ≤ c → S3.getO c = S.getO c := fun c h1 h2 => (k3 c (by omega) (by omega)).trans (kk2 c h1 h2)
  have ng3 := g3.n
  have ee := ec12_1_1_1_1_1_1_1_0_1_0_0 kOc T3 S3
  have dl : decide ((((2 + 1 : Nat) : Nat) : Int) < 3) = false := rfl
  simp (decide := true) only [mv_eq, g1_eq, g2_eq, g3_eq, bindR_val, condR_boolV, binOp_int, intOp_add, intOp_lss, kOc_nxt, kOc_ret, kOc_exit, v43] at ee
  have lx := loop_next d1 (loop_next d2 (loop_next d3 (loop_exit (dd_of tab W V 103 ee))))
  have e := ec12_1_1_1_1_1_1_1 kOc T S
  simp only [mv_eq, g1_eq, bindR_val, hT.t11, hT.t6, build114, ← hT0] at e
  rw [lx, bindR_val] at e
  simp (decide := true) only [app_exit, kblk_exit, if_true, kseq_nxt] at e
  refine ⟨_, S3, e, ?_, A3, hqm kk3, by omega, U02.trans U3, kk3⟩
  constructor <;> simp (decide := true) only [puts_cons, puts_nil, putE_ne, s3', s4, s5, s6, s8, s9, s10, s11, s12, w3, w4, w5, w6, w8, w9, w10, w11, w12, y3, y4, y5, y6, y8, y9, y10, y11, y12, r0.t3, r0.t4, r0.t5, r0.t6, r0.t8, r0.t9, r0.t10, r0.t11, r0.t12]

theorem stE {S : St} {b : Nat} {rv : AV} {had : Int} {qv : AV} {nx : List AV} {no f1 f2 : Int} {q : List AV} {e : Int} (hA : Ab S b rv had qv nx no f1 f2 q e) (h20 : had < 20) {T : Rg} {tx : AV} (hT : Rg12 T b tx) :
    ∃ T', denK tab W V 103 c12_1_1_1_1_1_1_1_1 kOc T S = denK tab W V 103 c12_1_1_1_1_1_1_1_1_1 kOc T' S ∧ Rg12 T' b tx := by
  obtain ⟨_, _, _, _, _, lh, _⟩ := hA.l0
  have d1 : decide (had ≥ 1099511627776) = false := by simp; omega
  have e := ec12_1_1_1_1_1_1_1_1 kOc T S
  simp (decide := true) only [g1_eq, g3_eq, bindR_val, condR_boolV, condF, binOp_int, intOp_geq, kOc_ret, hT.t6, fa29_2, Nat.zero_add, lh, d1] at e
  refine ⟨_, e, ?_⟩
  constructor <;> simp (decide := true) only [puts_cons, puts_nil, putE_ne, hT.t3, hT.t4, hT.t5, hT.t6, hT.t8, hT.t9, hT.t10, hT.t11, hT.t12]
end Go.Proofs.YtcibhglcmcgneaaGreatDoor
namespace Go.Proofs.YtcibhglcmcgneaaGreatDoor
open Go Go.Dt
set_option maxRecDepth 100000

theorem sz3' : sizeB 3 1 = true := s3
theorem st68 {s : St} {b : Nat} {cs r : List AV} (hA : At s b (.cells cs 68 true 24)) (hc : cs.length = 24) (hr : r.length = 24) (ho : r.all AV.oneCell = true) : storeV tab s 68 (.ptr b 0) (.agg r) = .ok (s.set b (.cells r 68 true 24)) := by
  have := stv (o := 0) (x := .agg r) s68 hA hr (by omega) (by omega) ho
  rw [this]
  congr 3
  match cs, hc, r, hr with
  | [_, _, _, _, _, _, _, _, _, _, _, _, _, _, _, _, _, _, _, _, _, _, _, _], _, [_, _, _, _, _, _, _, _, _, _, _, _, _, _, _, _, _, _, _, _, _, _, _, _], _ => rfl

theorem stF {S : St} {b : Nat} {rv : AV} {had : Int} {qv : AV} {nx : List AV} {no f1 f2 : Int} {q : List AV} {e : Int} (hA : Ab S b rv had qv nx no f1 f2 q e) (_ : b + 8 ≤ S.n) (hw : WF S) (hM : S.M = M0) {j : Nat} (hj : j < 6) (h0 : 0 ≤ had) (h20 : had < 20) {lo hi : Nat} (hq : DpL S lo hi (q0 j) q)
    {hs : Nat} (hS : StV S hs rv) {T : Rg} {tx : AV} (hT : Rg12 T b tx) :
    ∃ T' S' bx r, denK tab W V 103 c12_1_1_1_1_1_1_1_1_1 kOc T S = denK tab W V 103 c12_1_1_1_1_1_1_1_1_1_1 kOc T' S' ∧ Rg12 T' b tx ∧ T' 15 = .ptr bx 0 ∧ T' 16 = intV .i64 0 ∧ Ab S' b rv had qv nx no f1 f2 q e ∧ S.n ≤ bx ∧ At S' bx (.cells r 68 true 24) ∧ DpL S' S.n bx (x0 j (had + 1)) r ∧ Gw S S' := by
  obtain ⟨l0, _, _, _, _, lh, lc, lk, _⟩ := hA.l0
  have hql : q.length = 12 := by rw [hq.length, q0_len]
  have lq : loadV tab S 55 (.ptr (b + 6) 0) = .ok (.agg q) := lda a55 hA.a6 (by rw [List.drop_zero]; exact List.take_of_length_le (by omega)) hql
  obtain ⟨r, s1, p1, g1, hr⟩ := P38 hj hM hq (m := had + 1) (by omega) (by omega) hS
  have hrl : r.length = 24 := by rw [hr.length, fam0.len]
  have hro := (hr.cells (fam0.pl j _)).1
  have hC := At.new s1 (.cells z68 68 true 24)
  obtain ⟨s2, hs2⟩ : ∃ s2, s2 = (s1.push (.cells z68 68 true 24)).set s1.n (.cells r 68 true 24) := ⟨_, rfl⟩
  have st : storeV tab (s1.push (.cells z68 68 true 24)) 68 (.ptr s1.n 0) (.agg r) = .ok s2 := by rw [hs2]; exact st68 hC rfl hrl hro
  have g2 : Gw s1 s2 := by rw [hs2]; exact ((Gw.push s1 _).up s1.n |>.trans (Up.set (Nat.le_refl _) hC.1 _)).gw (Nat.le_refl _)
  have A2 : At s2 s1.n (.cells r 68 true 24) := by rw [hs2]; exact hC.set_same (WF.push (g1.len hw) _) _
  have w1 : IntKind.i64.wrap (had + 1) = had + 1 := wrapI (by omega) (by omega)
  have e := ec12_1_1_1_1_1_1_1_1_1 kOc T S
  simp (decide := true) only [mv_eq, g1_eq, g2_eq, g3_eq, bindR_val, retK_ret, binOp_int, intOp_add, extractV_0, extractV_1, hT.t4, hT.t5, hT.t6, hT.t11, fa29_2, fa29_1, fa41_2, Nat.zero_add, l0, lh, w1, lq, lc, lk, p1, alloc68, st] at e
  refine ⟨_, s2, s1.n, r, e, ?_, ?_, ?_, hA.gw (g1.trans g2), g1.n, A2, hr.gw g2, g1.trans g2⟩
  · constructor <;> simp (decide := true) only [puts_cons, puts_nil, putE_ne, hT.t3, hT.t4, hT.t5, hT.t6, hT.t8, hT.t9, hT.t10, hT.t11, hT.t12]
  · simp (decide := true) only [puts_cons, puts_nil, putE_same, putE_ne]
  · simp (decide := true) only [puts_cons, puts_nil, putE_same]

theorem tenC_h (had n : Int) (v : AV) : splice (tenC had v) 2 [intV .i64 n] = tenC n v := rfl
theorem QL.snoc {x : Nat → Int → List Tt} {s : St} {lo hi b : Nat} {rows : List (List AV)} {r : List AV} {qs : List (Nat × Int)} {j : Nat} {m : Int} (hA : At s b (.cells (rows.flatten ++ r) 68 true 24)) (h1 : lo ≤ b) (h2 : b < hi) (hr : RowsQ x s lo b rows qs) (hq : DpL s lo b (x j m) r) :
    QL x s lo hi (.slice b 0 (qs.length + 1) none 24) (qs ++ [(j, m)]) := by
  refine ⟨.inr ⟨b, none, rows ++ [r], [], by simp, h1, h2, by simpa using hA, RowsQ.app hr ⟨hq, trivial⟩⟩⟩

theorem stG {S : St} {b : Nat} {rv : AV} {had : Int} {qv : AV} {q : List AV} {e : Int} (hA : Ab S b rv had qv z29 0 0 0 q e) (hb : b + 8 ≤ S.n) (hw : WF S) (hM : S.M = M0) {j : Nat} (h0 : 0 ≤ had) (h20 : had < 20) {qs : List (Nat × Int)} (hN : Numb had qs) (hlen : qs.length ≤ 4)
    (hQ : QL x0 S 0 b qv qs) {bx lr : Nat} {r : List AV} (hbx : b + 8 ≤ lr) (hlr : lr ≤ bx) (hX : At S bx (.cells r 68 true 24)) (hr : DpL S lr bx (x0 j (had + 1)) r) {T : Rg} {tx : AV} (hT : Rg12 T b tx) (t15 : T 15 = .ptr bx 0) (t16 : T 16 = intV .i64 0) :
    ∃ T' S' v2, denK tab W V 103 c12_1_1_1_1_1_1_1_1_1_1 kOc T S = .ok (.ret T' S') ∧ Rg12 T' b tx ∧ Ab S' b rv had qv (tenC (had + 1) v2) (had + 1) 0 0 q 0 ∧ Up b S S' ∧ QL x0 S' (b + 8) S'.n v2 (qs ++ [(j, had + 1)]) := by
  have hrl : r.length = 24 := by rw [hr.length, fam0.len]
  have rc := hr.cells (fam0.pl j _)
  have hxn := hX.1
  obtain ⟨s1, q1, A1, U1, n1, k1⟩ := hA.set7 hw 0
  obtain ⟨_, _, lt1, _, _, _, _, _, le1, _⟩ := A1.l0
  have hQ1 : QL x0 s1 0 b qv qs := hQ.up U1 (Nat.le_refl _)
  obtain ⟨w, s2, v1, p2, g2, hw2, A2w, V2⟩ := W23 had qv qs hN.ok (by omega) s1 (U1.len hw) (U1.M.trans hM) (hQ1.le (by omega))
  have A2 := A1.gw g2
  have n2 := g2.n
  have hw2' : WF s2 := g2.len (U1.len hw)
  have wn := A2w.1
  have lhad : loadV tab s2 3 (.ptr w 2) = .ok (intV .i64 had) := ld l3 A2w rfl
  obtain ⟨s3, hs3⟩ : ∃ s3, s3 = s2.set w (.cells (tenC (had + 1) v1) 94 true 7) := ⟨_, rfl⟩
  have st3 : storeV tab s2 3 (.ptr w 2) (intV .i64 (had + 1)) = .ok s3 := by
    rw [hs3]
    have := stv (o := 2) (x := intV .i64 (had + 1)) sz3' A2w rfl (by omega) (by show 2 + 1 ≤ 7; omega) rfl
    rw [this]; rfl
  have k3 : ∀ c, c ≠ w → s3.getO c = s2.getO c := fun c hc => by rw [hs3]; exact getO_set_other wn (Ne.symm hc)
  have n3 : s3.n = s2.n := by rw [hs3]; rfl
  have U3 : Up w s2 s3 := by rw [hs3]; exact Up.set (Nat.le_refl _) wn _
  have hw3 : WF s3 := U3.len hw2'
  have A3w : At s3 w (.cells (tenC (had + 1) v1) 94 true 7) := by rw [hs3]; exact A2w.set_same hw2' _
  have A3 : Ab s3 b rv had qv z29 0 0 0 q 0 := A2.up U3 (by omega)
  have V3 : QV x0 s3 (w + 1) s3.n v1 qs := V2.mono (Nat.le_refl _) (by omega) (by omega) (fun c hc _ _ => k3 c (by omega))
  have lv : loadV tab s3 24 (.ptr w 3) = .ok v1 := ld l24 A3w rfl
  have X3 : At s3 bx (.cells r 68 true 24) := by
    refine ⟨by omega, ?_⟩
    rw [k3 bx (by omega), g2.old bx (by omega), k1 bx (by omega)]
    exact hX.2
  have lx : loadV tab s3 68 (.ptr bx 0) = .ok (.agg r) := lda a68 X3 (by rw [List.drop_zero]; exact List.take_of_length_le (by omega)) hrl
  have vc := V3.ql.cell
  obtain ⟨s4, rows, c1, n4, A4, R4, U4⟩ := appR fam0 hw3 V3 (Nat.le_refl _) (by omega) hrl rc.1 (by omega)
  have A4w : At s4 w (.cells (tenC (had + 1) v1) 94 true 7) := A3w.up U4 (by omega)
  obtain ⟨v2, hv2⟩ : ∃ v2, v2 = AV.slice (s3.n + 1) 0 (qs.length + 1) none 24 := ⟨_, rfl⟩
  rw [← hv2] at c1
  obtain ⟨s5, hs5⟩ : ∃ s5, s5 = s4.set w (.cells (tenC (had + 1) v2) 94 true 7) := ⟨_, rfl⟩
  have st5 : storeV tab s4 24 (.ptr w 3) v2 = .ok s5 := by
    rw [hs5]
    have := stv (o := 3) (x := v2) s24 A4w (by rw [hv2]; rfl) (by omega) (by show 3 + 1 ≤ 7; omega) (by rw [hv2]; rfl)
    rw [this, hv2]; rfl
  have k5 : ∀ c, c ≠ w → s5.getO c = s4.getO c := fun c hc => by rw [hs5]; exact getO_set_other A4w.1 (Ne.symm hc)
  have n5 : s5.n = s4.n := by rw [hs5]; rfl
  have U5 : Up w s4 s5 := by rw [hs5]; exact Up.set (Nat.le_refl _) A4w.1 _
  have U35 : Up w s3 s5 := (U4.le (by omega)).trans U5
  have hw5 : WF s5 := U35.len hw3
  have A5w : At s5 w (.cells (tenC (had + 1) v2) 94 true 7) := by rw [hs5]; exact A4w.set_same (U4.len hw3) _
  have A5 : Ab s5 b rv had qv z29 0 0 0 q 0 := A3.up U35 (by omega)
  have lw : loadV tab s5 29 (.ptr w 0) = .ok (.agg (tenC (had + 1) v2)) := lda a29 A5w rfl rfl
  have lh5 : loadV tab s5 3 (.ptr w 2) = .ok (intV .i64 (had + 1)) := ld l3 A5w rfl
  have hone : (tenC (had + 1) v2).all AV.oneCell = true := by rw [hv2]; rfl
  obtain ⟨s6, d1, A6, U6, n6, k6⟩ := A5.set3 hw5 rfl (l := tenC (had + 1) v2) rfl hone
  have A6w : At s6 w (.cells (tenC (had + 1) v2) 94 true 7) := ⟨by omega, by rw [k6 w (by omega)]; exact A5w.2⟩
  have lh6 : loadV tab s6 3 (.ptr w 2) = .ok (intV .i64 (had + 1)) := ld l3 A6w rfl
  obtain ⟨s7, d2, A7, U7, n7, k7⟩ := A6.set4 (U6.len hw5) (had + 1)
  obtain ⟨s8, d3, A8, U8, n8, k8⟩ := A7.set5 (U7.len (U6.len hw5)) 0 0
  have w1 : IntKind.i64.wrap (had + 1) = had + 1 := wrapI (by omega) (by omega)
  have e := ec12_1_1_1_1_1_1_1_1_1_1 kOc T S
  have b1 : beqA (.agg r) (.agg r) = true := by unfold beqA; exact rc.2.1
  have b2 : bndO (s3.n + 1) (.cells r 68 true 24) = true := by
    show bndL (s3.n + 1) r = true
    exact rc.2.2 _ (by omega)
  have b3 : bndA (s3.n + 1) v1 = true := vc.2.2.1 _ (by omega)
  have b4 : bndA (s3.n + 1) (.slice s3.n 0 1 (some 1) 24) = true := by
    show Nat.blt s3.n (s3.n + 1) = true
    rw [blt_eq]; simp
  have b5 : bndA s4.n (.ptr w 3) = true := by
    show Nat.blt w s4.n = true
    rw [blt_eq]; simp; omega
  have b6 : bndA s4.n v2 = true := by
    rw [hv2]
    show Nat.blt (s3.n + 1) s4.n = true
    rw [blt_eq]; simp; omega
  have b7 : beqA (.agg (tenC (had + 1) v2)) (.agg (tenC (had + 1) v2)) = true := by
    rw [hv2]; simp [tenC, beqA, beqL, beqBase, boolV, intV, nilS]
  have b8 : bndA s5.n (.ptr (b + 3) 0) = true := by
    show Nat.blt (b + 3) s5.n = true
    rw [blt_eq]; simp; omega
  have b9 : bndA s5.n (.agg (tenC (had + 1) v2)) = true := by
    rw [hv2]
    show (true && (true && (true && (Nat.blt (s3.n + 1) s5.n && (true && (true && (true && true))))))) = true
    rw [blt_eq]; simp; omega
  have b10 : beqA (intV .i64 (had + 1)) (intV .i64 (had + 1)) = true := by simp [intV, beqA, beqBase]
  have b11 : bndA s6.n (.ptr (b + 4) 0) = true := by
    show Nat.blt (b + 4) s6.n = true
    rw [blt_eq]; simp; omega
  have b12 : bndA s6.n (intV .i64 (had + 1)) = true := rfl
  have b13 : bndA s7.n (.ptr (b + 5) 0) = true := by
    show Nat.blt (b + 5) s7.n = true
    rw [blt_eq]; simp; omega
  have b14 : bndA s7.n (.agg [intV .i64 0, intV .i64 0]) = true := rfl
  have e1 : Nat.ble (s3.n + 1) s4.n = true := Nat.ble_eq_true_of_le (by omega)
  have e2 : Nat.ble s4.n s5.n = true := Nat.ble_eq_true_of_le (by omega)
  have e3 : Nat.ble s5.n s6.n = true := Nat.ble_eq_true_of_le (by omega)
  have e4 : Nat.ble s6.n s7.n = true := Nat.ble_eq_true_of_le (by omega)
  have e5 : Nat.ble s7.n s8.n = true := Nat.ble_eq_true_of_le (by omega)
  simp (decide := true) only [mv_eq, g1_eq, g2_eq, g3_eq, g4_eq, bindR_val, retK_ret, condR_boolV, condT, condF, binOp_int, intOp_add, intOp_neq, kOc_ret, hT.t6, hT.t8, hT.t9, hT.t10, hT.t12, t15, t16, q1, le1, n0, lt1, p2, nilCheck_ptr, fa94_0, fa29_2, fa29_3, Nat.zero_add, lhad, w1, st3, lv, sameR, vc.2.1, lx, b1, bs24 r hrl, b2, List.all_cons, List.all_nil, Bool.and_true, Bool.and_self, push_n, b3, b4, c1, e1, b5, b6, st5, e2,
    lw, b7, b8, b9, d1, e3, lh5, lh6, b10, b11, b12, d2, e4, build70, b13, b14, d3, e5] at e
  refine ⟨_, s8, v2, e, ?_, A8, ?_, ?_⟩
  · constructor <;> simp (decide := true) only [puts_cons, puts_nil, putE_ne, hT.t3, hT.t4, hT.t5, hT.t6, hT.t8, hT.t9, hT.t10, hT.t11, hT.t12]
  · exact ((((((U1.trans (g2.up b)).trans (U3.le (by omega))).trans (U35.le (by omega))).trans U6).trans U7).trans U8)
  · have kk : ∀ c, c ≠ w → c < b ∨ b + 8 ≤ c → s8.getO c = s4.getO c := fun c h1 h2 => by
      rw [k8 c (by omega), k7 c (by omega), k6 c (by omega), k5 c h1]
    rw [hv2]
    refine QL.snoc (b := s3.n + 1) (rows := rows) (r := r) ?_ (by omega) (by omega) ?_ ?_
    · exact ⟨by omega, by rw [kk _ (by omega) (by omega)]; exact A4.2⟩
    · exact R4.mono (by omega) (Nat.le_refl _) (fun c h1 h2 _ => kk c (by omega) (by omega))
    · refine DpL.mono (by omega) (by omega) ?_ _ _ hr
      intro c h1 h2 hg
      rw [kk c (by omega) (by omega), U4.old c (by omega) (by omega), k3 c (by omega), g2.old c (by omega), k1 c (by omega)]
end Go.Proofs.YtcibhglcmcgneaaGreatDoor
namespace Go.Proofs.YtcibhglcmcgneaaGreatDoor
open Go Go.Dt
set_option maxRecDepth 100000

noncomputable def o12 (i : Nat) : Oper := match subC c12 [1, 1, 1, 0] with
  | .region _ ops _ => ops.getD i default
  | _ => default
theorem c12_eq : c12 = .seq c12_0 (.seq c12_1_0 (.seq c12_1_1_0 (.seq (.region 3 #[o12 0, o12 1] false) c12_1_1_1_1))) := by kernel_rfl
theorem o12g0 : (o12 0).guard = none := by kernel_rfl
theorem o12g1 : (o12 1).guard = none := by kernel_rfl
theorem o12d : (o12 0).dst = some 18 ∧ (o12 1).dst = none := ⟨by kernel_rfl, by kernel_rfl⟩
def fn30 (T : Rg) : AV := .func (.func 30) [] [T 10, T 12, T 8, T 9]
theorem o12e0 (T : Rg) (s : St) : Dt.execOp tab (evalE tab T) s (o12 0).op = .ok (.value (fn30 T), s) := by kernel_rfl
theorem o12e1 (T : Rg) (s : St) : Dt.execOp tab (evalE tab (putE 103 T (some 18) (fn30 T))) s (o12 1).op = .ok (.defer (.fn (.func 30) [T 10, T 12, T 8, T 9] []), s) := by kernel_rfl
theorem f12f : tab.func 12 = some Tryz.f12 := by kernel_rfl
theorem f12p : tab.pure 12 = false := by kernel_rfl
theorem f12b : Tryz.f12.body = some c12 := by kernel_rfl
theorem f12n : Tryz.f12.ntmps = 103 := by kernel_rfl
theorem f12r : Tryz.f12.results.toList = [.cell 8 29, .cell 9 3, .cell 10 70] := by kernel_rfl
theorem f30f : tab.func 30 = some Tryz.f30 := by kernel_rfl
theorem f30n : Tryz.f30.ntmps = 14 := by kernel_rfl
theorem f30r : Tryz.f30.results.toList = [] := by kernel_rfl
theorem f30b : Tryz.f30.body.isSome = true := by kernel_rfl
theorem f30c (a b c d : AV) : callFn tab 30 [a, b, c, d] = .ok (.enter 30 [a, b, c, d]) := by kernel_rfl

/-- Add, but for what is deferred -/
theorem add_body {b : Nat} {S : St} {rv : AV} {had : Int} {qv : AV} (hA : Ab S b rv had qv z29 0 0 0 z55 0) (hb : b + 8 ≤ S.n) (hw : WF S) (hM : S.M = M0) (h0 : 0 ≤ had) (h20 : had < 20) {qs : List (Nat × Int)} (hN : Numb had qs) (hlen : qs.length ≤ 4)
    (hS : StV S b rv) (hQ : QL x0 S 0 b qv qs) {j : Nat} (hj : j < 6) {T : Rg} (hT : Rg12 T b (str (txt j))) :
    (4 ≤ qs.length ∧ ∃ T' S', dd tab W V 103 c12_1_1_1_1 T S = .ok (.ret T' S') ∧ Rg12 T' b (str (txt j)) ∧ Ab S' b rv had qv z29 0 0 0 z55 15 ∧ Up b S S') ∨
    (qs.length < 4 ∧ ∃ T' S' v2 q', dd tab W V 103 c12_1_1_1_1 T S = .ok (.ret T' S') ∧ Rg12 T' b (str (txt j)) ∧ Ab S' b rv had qv (tenC (had + 1) v2) (had + 1) 0 0 q' 0 ∧ Up b S S' ∧ QL x0 S' (b + 8) S'.n v2 (qs ++ [(j, had + 1)])) := by
  obtain ⟨Ta, Sa, ea, ra, Aa, na, Ua, _⟩ := stA hA hb hw hM h0 (by omega) hN hlen (hS.le (by omega)) (hQ.le (by omega)) hT
  have Qa : QL x0 Sa 0 b qv qs := hQ.up Ua (Nat.le_refl _)
  rcases stB Aa (Ua.len hw) hlen Qa ra with ⟨h4, Tb, Sb, eb, rb, Ab', Ub, nb, _⟩ | ⟨h4, Tb, eb, rb⟩
  · exact .inl ⟨h4, Tb, Sb, dd_of tab W V 103 (ea.trans eb), rb, Ab', Ua.trans Ub⟩
  · right
    have hwa := Ua.len hw
    have hMa := Ua.M.trans hM
    obtain ⟨Tc, Sc, q, ec, rc, Ac, hq, nc, Uc, kc⟩ := stC12 Aa (by omega) rfl hwa hMa hj rb
    have U2 := Ua.trans Uc
    obtain ⟨Td, Sd, ed, rd, Ad, hqd, nd, Ud, kd⟩ := stD Ac (by omega) (U2.len hw) (U2.M.trans hM) hj (lo := Sa.n) (by omega) hq rc
    have U3 := U2.trans Ud
    obtain ⟨Te, ee, re⟩ := stE Ad h20 rd
    obtain ⟨Tf, Sf, bx, r, ef, rf, t15, t16, Af, hbx, Xf, hr, gf⟩ := stF Ad (by omega) (U3.len hw) (U3.M.trans hM) hj h0 h20 hqd (hS.up U3 (Nat.le_refl _)) re
    have U4 := U3.trans (gf.up b)
    have nf := gf.n
    obtain ⟨Tg, Sg, v2, eg, rg, Ag, Ug, Qg⟩ := stG Af (by omega) (U4.len hw) (U4.M.trans hM) h0 h20 hN hlen (hQ.up U4 (Nat.le_refl _)) (lr := Sd.n) (by omega) hbx Xf hr rf t15 t16
    refine ⟨h4, Tg, Sg, v2, q, dd_of tab W V 103 ?_, rg, Ag, U4.trans Ug, Qg⟩
    exact ea.trans (eb.trans (ec.trans (ed.trans (ee.trans (ef.trans eg)))))

/-- what is deferred -/
theorem add_defer {b : Nat} {S : St} {rv : AV} {had : Int} {qv : AV} {nx : List AV} {no : Int} {q : List AV} {e : Int} (hA : Ab S b rv had qv nx no 0 0 q e) (hnx : nx.length = 7) (hw : WF S) (he : e = 0 ∨ e = 15) :
    ∃ S', denK tab W V 14 c30 (kRet tab []) (argE [.ptr (b + 5) 0, .ptr (b + 7) 0, .ptr (b + 3) 0, .ptr (b + 4) 0]) S = .ok (.ret (.tuple []), S') ∧ Up b S S' ∧
      ((e = 0 ∧ S' = S) ∨ (e = 15 ∧ Ab S' b rv had qv z29 0 15 0 q e)) := by
  obtain ⟨_, _, _, _, _, _, _, _, le, lf⟩ := hA.l0
  have d0 : ((0 : Int) == 0) = true := rfl
  rcases he with rfl | rfl
  · refine ⟨S, ?_, (Gw.refl S).up b, .inl ⟨rfl, rfl⟩⟩
    rw [ec30]
    simp (decide := true) only [mv_eq, g1_eq, g3_eq, bindR_val, condR_boolV, condT, condF, isBoolV_t, pickV_boolV, binOp_int, intOp_eql, intOp_neq, fa70_0, lf, d0, le, n0]
    rfl
  · obtain ⟨s1, a1, A1, U1, n1, _⟩ := hA.set3 hw hnx (l := z29) rfl rfl
    obtain ⟨s2, a2, A2, U2, n2, _⟩ := A1.set4 (U1.len hw) 0
    obtain ⟨s3, a3, A3, U3, n3, _⟩ := A2.set5 (U2.len (U1.len hw)) 15 0
    refine ⟨s3, ?_, (U1.trans U2).trans U3, .inr ⟨rfl, A3⟩⟩
    rw [ec30]
    simp (decide := true) only [mv_eq, g1_eq, g3_eq, bindR_val, condR_boolV, condT, isBoolV_t, pickV_boolV, binOp_int, intOp_eql, intOp_neq, fa70_0, lf, d0, le, n15, build29', build70', a1, a2, a3]
    rfl

theorem Ab.res {b : Nat} {S : St} {rv : AV} {had : Int} {qv : AV} {nx : List AV} {no f1 f2 : Int} {q : List AV} {e : Int} (hA : Ab S b rv had qv nx no f1 f2 q e) (hnx : nx.length = 7) {T : Rg} {tx : AV} (hT : Rg12 T b tx) :
    resK tab S T (fun vs => .ok (AEnd.ret (oneRes vs), S)) Tryz.f12.results.toList = .ok (AEnd.ret (.tuple [.agg nx, intV .i64 no, .agg [intV .i64 f1, intV .i64 f2]]), S) := by
  have l3 : loadV tab S 29 (.ptr (b + 3) 0) = .ok (.agg nx) := lda a29 hA.a3 (by rw [List.drop_zero]; exact List.take_of_length_le (by omega)) hnx
  have l4 : loadV tab S 3 (.ptr (b + 4) 0) = .ok (intV .i64 no) := ld Go.Proofs.YtcibhglcmcgneaaGreatDoor.l3 hA.a4 rfl
  have l5 : loadV tab S 70 (.ptr (b + 5) 0) = .ok (.agg [intV .i64 f1, intV .i64 f2]) := lda a70 hA.a5 rfl rfl
  rw [f12r]
  simp (decide := true) only [resK, hT.t8, hT.t9, hT.t10, l3, l4, l5, bindR_val]
  rfl

/-- the boxes are laid -/
theorem Ab.mk0 (σ : St) (rv : AV) (had : Int) (qv : AV) : ∃ s6, s6 = (((((σ.push (.cells (svC rv) 33 true 4)).push (.cells cC 41 true 5)).push (.cells (tenC had qv) 29 true 7)).push (.cells z29 29 true 7)).push (.cells [intV .i64 0] 3 true 1)).push (.cells [intV .i64 0, intV .i64 0] 70 true 2) ∧
    s6.n = σ.n + 6 ∧ Gw σ s6 ∧ Ab ((s6.push (.cells z55 55 true 12)).push (.cells [intV .i64 0] 37 true 1)) σ.n rv had qv z29 0 0 0 z55 0 := by
  refine ⟨_, rfl, rfl, ((((((Gw.push _ _).trans (Gw.push _ _)).trans (Gw.push _ _)).trans (Gw.push _ _)).trans (Gw.push _ _)).trans (Gw.push _ _)), ?_⟩
  exact ⟨(((((((At.new _ _).push _).push _).push _).push _).push _).push _).push _, ((((((At.new _ _).push _).push _).push _).push _).push _).push _, (((((At.new _ _).push _).push _).push _).push _).push _, ((((At.new _ _).push _).push _).push _).push _,
    (((At.new _ _).push _).push _).push _, ((At.new _ _).push _).push _, (At.new _ _).push _, At.new _ _⟩

theorem W12 (had : Int) (h0 : 0 ≤ had) (h20 : had < 20) (rv qv : AV) (qs : List (Nat × Int)) (hN : Numb had qs) (hlen : qs.length ≤ 4) (σ : St) (hw : WF σ) (hM : σ.M = M0) (hS : StV σ σ.n rv) (hQ : QL x0 σ 0 σ.n qv qs) (j : Nat) (hj : j < 6) :
    ∃ σ', Gw σ σ' ∧ ((4 ≤ qs.length ∧ W 12 [.agg (svC rv), .agg cC, .agg (tenC had qv), str (txt j)] σ = .ok (.ret (.tuple [.agg z29, intV .i64 0, .agg [intV .i64 15, intV .i64 0]]), σ')) ∨
      (qs.length < 4 ∧ ∃ v2, W 12 [.agg (svC rv), .agg cC, .agg (tenC had qv), str (txt j)] σ = .ok (.ret (.tuple [.agg (tenC (had + 1) v2), intV .i64 (had + 1), .agg [intV .i64 0, intV .i64 0]]), σ') ∧ QL x0 σ' σ.n σ'.n v2 (qs ++ [(j, had + 1)]))) := by
  obtain ⟨s6, hs6, n6, g6, hA⟩ := Ab.mk0 σ rv had qv
  obtain ⟨s8, hs8⟩ : ∃ s8, s8 = (s6.push (.cells z55 55 true 12)).push (.cells [intV .i64 0] 37 true 1) := ⟨_, rfl⟩
  rw [← hs8] at hA
  have g8 : Gw σ s8 := by rw [hs8]; exact (g6.trans (Gw.push _ _)).trans (Gw.push _ _)
  have n8 : s8.n = σ.n + 8 := by rw [hs8, push_n, push_n, n6]
  obtain ⟨args, hargs⟩ : ∃ args : List AV, args = [.agg (svC rv), .agg cC, .agg (tenC had qv), str (txt j)] := ⟨_, rfl⟩
  rw [← hargs]
  have hal : args.length = 4 := by rw [hargs]; rfl
  have hT0 : TE 103 (argE args) (args ++ replUndef (103 - args.length)) := TE.start (by omega)
  have ar0 : argE args 0 = .agg (svC rv) := by rw [hargs]; rfl
  have ar1 : argE args 1 = .agg cC := by rw [hargs]; rfl
  have ar2 : argE args 2 = .agg (tenC had qv) := by rw [hargs]; rfl
  have ar3 : argE args 3 = str (txt j) := by rw [hargs]; rfl
  -- the first boxes
  have e1 := ec12_0 kOc (argE args) σ
  simp only [ar0, ar1, ar2, bindR_val, box33', box41', box29', alloc29, alloc3, alloc70, push_n, ← hs6, kOc_nxt] at e1
  obtain ⟨T1, hT1⟩ : ∃ T1 : Rg, T1 = puts 103 (argE args) [(4, .ptr σ.n 0), (5, .ptr (σ.n + 1) 0), (6, .ptr (σ.n + 1 + 1) 0), (8, .ptr (σ.n + 1 + 1 + 1) 0), (9, .ptr (σ.n + 1 + 1 + 1 + 1) 0), (10, .ptr (σ.n + 1 + 1 + 1 + 1 + 1) 0)] := ⟨_, rfl⟩
  rw [← hT1] at e1
  have e2 := ec12_1_0 kOc T1 s6
  simp only [bindR_val, alloc55, kOc_nxt] at e2
  obtain ⟨T2, hT2⟩ : ∃ T2 : Rg, T2 = puts 103 T1 [(11, .ptr s6.n 0)] := ⟨_, rfl⟩
  rw [← hT2] at e2
  have e3 := ec12_1_1_0 kOc T2 (s6.push (.cells z55 55 true 12))
  simp only [bindR_val, alloc37, kOc_nxt, ← hs8, push_n] at e3
  obtain ⟨T3, hT3⟩ : ∃ T3 : Rg, T3 = puts 103 T2 [(12, .ptr (s6.n + 1) 0)] := ⟨_, rfl⟩
  rw [← hT3] at e3
  obtain ⟨L1, hL1, k1⟩ := Dt.Steps.code (ds := []) (rd := none) (fn := 12) hT0 (dd_of tab W V 103 e1)
  obtain ⟨L2, hL2, k2⟩ := Dt.Steps.code (ds := []) (rd := none) (fn := 12) hL1 (dd_of tab W V 103 e2)
  obtain ⟨L3, hL3, k3⟩ := Dt.Steps.code (ds := []) (rd := none) (fn := 12) hL2 (dd_of tab W V 103 e3)
  obtain ⟨L4, hL4, k4⟩ := Dt.Steps.defer (fn := 12) (k := [.code c12_1_1_1_1]) (i := 3) hL3 o12g0 o12g1 (o12e0 T3 s8) (by rw [o12d.1]; exact o12e1 T3 s8)
  rw [o12d.1, o12d.2, putE_none] at hL4
  have t3r : Rg12 T3 σ.n (str (txt j)) := by
    rw [hT3, hT2, hT1]
    constructor <;> simp (decide := true) only [puts_cons, puts_nil, putE_same, putE_ne, ar3, n6, Nat.add_assoc, Nat.reduceAdd]
  have t4r : Rg12 (putE 103 T3 (some 18) (fn30 T3)) σ.n (str (txt j)) := by
    constructor <;> simp (decide := true) only [putE_ne, t3r.t3, t3r.t4, t3r.t5, t3r.t6, t3r.t8, t3r.t9, t3r.t10, t3r.t11, t3r.t12]
  have hcap : [T3 10, T3 12, T3 8, T3 9] = [.ptr (σ.n + 5) 0, .ptr (σ.n + 7) 0, .ptr (σ.n + 3) 0, .ptr (σ.n + 4) 0] := by rw [t3r.t10, t3r.t12, t3r.t8, t3r.t9]
  rw [hcap] at k4
  -- the way to the rest
  have way : Dt.Steps tab (fr0 [] none 12 (args ++ replUndef (103 - args.length)) [.code c12]) σ (fr0 [.fn (.func 30) [.ptr (σ.n + 5) 0, .ptr (σ.n + 7) 0, .ptr (σ.n + 3) 0, .ptr (σ.n + 4) 0] []] none 12 L4 [.code c12_1_1_1_1]) s8 := by
    rw [c12_eq]
    exact (Dt.Steps.seq _ _).trans ((k1 _).trans ((Dt.Steps.seq _ _).trans ((k2 _).trans ((Dt.Steps.seq _ _).trans ((k3 _).trans ((Dt.Steps.seq _ _).trans k4))))))
  have fin : ∀ {T' : Rg} {S' S'' : St} {rr : AEnd × St}, dd tab W V 103 c12_1_1_1_1 (putE 103 T3 (some 18) (fn30 T3)) s8 = .ok (.ret T' S') →
      denK tab W V 14 c30 (kRet tab []) (argE [.ptr (σ.n + 5) 0, .ptr (σ.n + 7) 0, .ptr (σ.n + 3) 0, .ptr (σ.n + 4) 0]) S' = .ok (.ret (.tuple []), S'') →
      resK tab S'' T' (fun vs => .ok (AEnd.ret (oneRes vs), S'')) Tryz.f12.results.toList = .ok rr → W 12 args σ = .ok rr := by
    intro T' S' S'' rr hd hdef hres
    obtain ⟨gc, m, hgc, hm⟩ := run_intro (D := tab) (f := 30) (args := [.ptr (σ.n + 5) 0, .ptr (σ.n + 7) 0, .ptr (σ.n + 3) 0, .ptr (σ.n + 4) 0]) f30f f30b f30n f30r (by simp) hdef
    obtain ⟨L', hL', kk⟩ := dd_run (ds := [.fn (.func 30) [.ptr (σ.n + 5) 0, .ptr (σ.n + 7) 0, .ptr (σ.n + 3) 0, .ptr (σ.n + 4) 0] []]) (rd := none) 12 c12_1_1_1_1 _ L4 s8 _ hL4 hd
    obtain ⟨n, hn⟩ := finish_defer (D := tab) (fid := 12) (f30c _ _ _ _) f30f hgc ⟨m, hm⟩ f12f hL' hres
    obtain ⟨m2, hm2⟩ := kk [] n (rr.1, none, rr.2) hn
    refine callW_fin f12f f12p f12b ?_
    rw [f12n]
    exact way.fin ⟨m2, hm2⟩
  have cR : ∀ {S' : St}, Up σ.n s8 S' → Gw σ S' := fun u => ((g8.up σ.n).trans u).gw (Nat.le_refl _)
  rcases add_body hA (by omega) (g8.len hw) (g8.M.trans hM) h0 h20 hN hlen (hS.gw g8) (hQ.gw g8) hj t4r with ⟨h4, T', S', hd, rT, A', U'⟩ | ⟨h4, T', S', v2, q', hd, rT, A', U', Q'⟩
  · obtain ⟨S'', hdef, Ud, hr⟩ := add_defer A' rfl (U'.len (g8.len hw)) (.inr rfl)
    rcases hr with ⟨h, _⟩ | ⟨_, A''⟩
    · cases h
    · exact ⟨S'', cR (U'.trans Ud), .inl ⟨h4, fin hd hdef (A''.res rfl rT)⟩⟩
  · obtain ⟨S'', hdef, Ud, hr⟩ := add_defer A' rfl (U'.len (g8.len hw)) (.inl rfl)
    rcases hr with ⟨_, rfl⟩ | ⟨h, _⟩
    · refine ⟨S'', cR U', .inr ⟨h4, v2, fin hd hdef (A'.res rfl rT), ?_⟩⟩
      exact Q'.mono (by omega) (Nat.le_refl _) (Nat.le_refl _) fun _ _ _ _ => rfl
    · cases h
end Go.Proofs.YtcibhglcmcgneaaGreatDoor
