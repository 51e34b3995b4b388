/-
  A part of the proof. No statement of this seat stands here.
-/
import Derived.Test.YtkpkmjanikkpoaaGreatDoorP19
import Derived.Test.YtkpkmjanikkpoaaGreatDoorP15
namespace Go.Proofs.YtkpkmjanikkpoaaGreatDoor
open Go Go.Dt
set_option maxRecDepth 100000

/-- the loop of Put over the items -/
theorem loop10 (v : AV) (cs : List Int) (lo hi : Nat) (hok : ∀ c ∈ cs, okC c) (hlen : cs.length < 1000) (q8 q10 q12 p q6 q7 : AV) : ∀ (m i : Nat), i + m = cs.length → ∀ (T : Rg) (σ : St), WF σ → σ.M = M0 → IL σ lo hi v cs →
    T 5 = v → T 14 = intV .i64 0 → T 15 = intV .i64 (i : Int) → T 8 = q8 → T 10 = q10 → T 12 = q12 → T 3 = p → T 6 = q6 → T 7 = q7 →
    ∃ T' σ', loopLim (dd tab W V 115 c10_1_1_1_1_0_1_0_0) T σ = .ok (.exit 1 T' σ') ∧ Gw σ σ' ∧ T' 5 = v ∧ T' 14 = intV .i64 0 ∧ T' 8 = q8 ∧ T' 10 = q10 ∧ T' 12 = q12 ∧ T' 3 = p := by
  intro m
  induction m with
  | zero =>
    intro i hm T σ hw hM hI t5 t14 t15 t8 t10 t12 t3 t6 t7
    have e := ec10_1_1_1_1_0_1_0_0 kOc T σ
    have d1 : decide ((i : Int) < (cs.length : Int)) = false := by simp; omega
    simp (decide := true) only [mv_eq, g1_eq, g2_eq, bindR_val, condR_boolV, condF, isBoolV_t, pickV_boolV, binOp_int, intOp_add, intOp_lss, kOc_nxt, kOc_exit, t5, t14, t15, hI.lenV, d1] at e
    refine ⟨_, σ, loop_exit (dd_of tab W V 115 e), Gw.refl σ, ?_, ?_, ?_, ?_, ?_, ?_⟩ <;> simp (decide := true) only [puts_cons, puts_nil, putE_ne, t5, t14, t8, t10, t12, t3]
  | succ m ih =>
    intro i hm T σ hw hM hI t5 t14 t15 t8 t10 t12 t3 t6 t7
    have hil : i < cs.length := by omega
    obtain ⟨c, hc⟩ : ∃ c, cs[i]? = some c := ⟨_, List.getElem?_eq_getElem hil⟩
    obtain ⟨b, g1, g2⟩ := hI.get hc
    obtain ⟨s8, p1, g8⟩ := P32 (hok c (List.mem_of_getElem? hc)) hM
    have e := ec10_1_1_1_1_0_1_0_0 kOc T σ
    have d1 : decide ((i : Int) < (cs.length : Int)) = true := by simp; omega
    have d0 : ((0 : Int) == 0) = true := rfl
    have w1 : IntKind.i64.wrap ((i : Int) + 1) = ((i + 1 : Nat) : Int) := by rw [wrapI (by omega) (by omega)]; omega
    simp (decide := true) only [mv_eq, g1_eq, g2_eq, bindR_val, retK_ret, condR_boolV, condT, isBoolV_t, pickV_boolV, binOp_int, intOp_add, intOp_eql, intOp_lss, kOc_nxt, kOc_exit, t5, t14, t15, hI.lenV, d1, d0, g1, g2, p1, w1] at e
    obtain ⟨T1, ee, k5, k14, k15, k8, k10, k12, k3, k6, k7⟩ : ∃ T1, denK tab W V 115 c10_1_1_1_1_0_1_0_0 kOc T σ = .ok (.nxt T1 s8) ∧ T1 5 = v ∧ T1 14 = intV .i64 0 ∧ T1 15 = intV .i64 ((i + 1 : Nat) : Int) ∧ T1 8 = q8 ∧ T1 10 = q10 ∧ T1 12 = q12 ∧ T1 3 = p ∧ T1 6 = q6 ∧ T1 7 = q7 := by
      refine ⟨_, e, ?_, ?_, ?_, ?_, ?_, ?_, ?_, ?_, ?_⟩ <;> simp (decide := true) only [puts_cons, puts_nil, putE_same, putE_ne, t5, t8, t10, t12, t3, t6, t7]
    obtain ⟨T', σ', z1, z2, z3⟩ := ih (i + 1) (by omega) T1 s8 (g8.len hw) (g8.M.trans hM) (hI.gw g8) k5 k14 k15 k8 k10 k12 k3 k6 k7
    exact ⟨T', σ', loop_next (dd_of tab W V 115 ee) z1, g8.trans z2, z3⟩

theorem cells_r {j : Nat} {m : Int} {σ : St} {lo hi : Nat} {r : List AV} (h : DpL σ lo hi (x0 j m) r) : beqA (.agg r) (.agg r) = true ∧ ∀ n, hi ≤ n → bndA n (.agg r) = true := by
  have c := h.cells (fam0.pl j m)
  exact ⟨by unfold beqA; exact c.2.1, fun n hn => c.2.2 n hn⟩
/-- what Put does when all was checked -/
theorem put2 {had : Int} (_ : AV) {qv : AV} {qs : List (Nat × Int)} (hN : Numb had qs) (hlen : qs.length ≤ 4) {cs : List Int} (hok : ∀ c ∈ cs, okC c) (hcl : cs.length ≤ 8) {p : Nat} (hp : p < qs.length) {j : Nat} {m : Int} (hq : okQ (j, m)) {r : List AV} {v : AV} {n0 bt br bz : Nat}
    {T : Rg} {σ : St} (hw : WF σ) (hM : σ.M = M0) (_ : n0 ≤ bz) (At8 : At σ bt (.cells (tenC had qv nilS) 29 true 7)) (At10 : At σ br (.cells r 71 true 24)) (At12 : At σ bz (.cells z29 29 true 7)) (hQ : QL x0 σ 0 σ.n qv qs) (hR : DpL σ 0 σ.n (x0 j m) r) (hI : IL σ 0 σ.n v cs)
    (t8 : T 8 = .ptr bt 0) (t10 : T 10 = .ptr br 0) (t12 : T 12 = .ptr bz 0) (t3 : T 3 = intV .i64 (p : Int)) (t5 : T 5 = v) :
    ∃ v' it' σ', denK tab W V 115 c10_1_1_1_1_1_1 (kRet tab [.cell 12 29, .tmp 13]) T σ = .ok (.ret (.tuple [.agg (tenC had v' it'), intV .i64 0]), σ') ∧ Up bz σ σ' ∧ QL x0 σ' σ.n σ'.n v' (cut p qs ++ [(j, m)]) ∧ IL σ' σ.n σ'.n it' cs := by
  have l0 : loadV tab σ 29 (.ptr bt 0) = .ok (.agg (tenC had qv nilS)) := lda a29 At8 rfl rfl
  obtain ⟨w, s3, v1, it1, mid, p3, g3, hws, A3, hwm, hmn, V3, I3, hit⟩ := W29 had qv nilS qs [] hN.ok (by omega) (by simp) (by simp) σ hw hM hQ ⟨.inl ⟨rfl, rfl⟩⟩
  have := hit rfl
  subst this
  have n3 := g3.n
  have r24 : r.length = 24 := by rw [hR.length, fam0.len]
  have l1 : loadV tab s3 71 (.ptr br 0) = .ok (.agg r) := lda a68 (At10.gw g3) (by rw [List.drop_zero]; exact List.take_of_length_le (by omega)) r24
  have cr := cells_r (hR.gw g3)
  obtain ⟨r', s8, p8, g8, D8⟩ := P34 hq (g3.M.trans hM) (hR.gw g3)
  have n8 := g8.n
  have r24' : r'.length = 24 := by rw [D8.length, fam0.len]
  have A8 := A3.gw g8
  have vc := V3.ql.cell
  have l13 : loadV tab s8 24 (.ptr w 3) = .ok v1 := ld l24 A8 rfl
  have l13' : loadV tab s3 24 (.ptr w 3) = .ok v1 := ld l24 A3 rfl
  have G8 := g3.trans g8
  obtain ⟨s9, hs9⟩ : ∃ s9, s9 = s8.push (.cells r' 71 true 24) := ⟨_, rfl⟩
  have g9 : Gw s8 s9 := by rw [hs9]; exact Gw.push _ _
  have n9 : s9.n = s8.n + 1 := by rw [hs9]; rfl
  have X9 : At s9 s8.n (.cells r' 71 true 24) := by rw [hs9]; exact At.new _ _
  have G9 := G8.trans g9
  have c8 := D8.cells (fam0.pl j m)
  have bs := bs24 r' r24' s8.n
  have A9 := A8.gw g9
  obtain ⟨v2, s18, p18, g18, V18⟩ := W33 p v1 qs hp (by omega) s9 (G9.len hw) (lo := w + 1) (mid := mid) (by omega) (by omega) ((V3.gw g8).gw g9) (cx := some 1) X9 (DpL.mono (by omega) (by omega) (fun _ _ _ _ => rfl) _ _ (DpL.mono (Nat.le_refl _) (Nat.le_refl _) (fun b _ _ hg => g9.old b (getO_gone hg)) _ _ D8))
  have n18 := g18.n
  have G18 := G9.trans g18
  have A18 := A9.gw g18
  have vc2 := V18.cell
  obtain ⟨s23, hs23⟩ : ∃ s23, s23 = s18.set w (.cells (tenC had v2 nilS) 106 true 7) := ⟨_, rfl⟩
  have st23 : storeV tab s18 24 (.ptr w 3) v2 = .ok s23 := by
    rw [hs23]
    have := stv (o := 3) (x := v2) s24 A18 (by rw [vc2.2.2.2]; rfl) (by omega) (by show 3 + 1 ≤ 7; omega) (by rw [vc2.2.2.2]; simp [vc2.1])
    rw [this, vc2.2.2.2, tenC_spl]
  have A23 : At s23 w (.cells (tenC had v2 nilS) 106 true 7) := by rw [hs23]; exact A18.set_same (G18.len hw) _
  have U23 : Up w s18 s23 := by rw [hs23]; exact Up.set (Nat.le_refl _) A18.1 _
  have n23 : s23.n = s18.n := by rw [hs23]; rfl
  have UU23 : Up w σ s23 := (G18.up w).trans U23
  have l29 : loadV tab s23 27 (.ptr w 4) = .ok (.agg (quC nilS)) := lda a27 A23 rfl rfl
  have hw23 := UU23.len hw
  have M23 := UU23.M.trans hM
  have I23 : IL s23 0 s23.n v cs := (hI.up UU23 (by omega)).le (Nat.le_refl _) UU23.n
  obtain ⟨it2, s33, p33, g33, I33⟩ := W35 hok hcl hw23 M23 I23
  have n33 := g33.n
  have A33 := A23.gw g33
  have ic := I33.il.cell
  obtain ⟨s41, hs41⟩ : ∃ s41, s41 = s33.set w (.cells (tenC had v2 it2) 106 true 7) := ⟨_, rfl⟩
  have st41 : storeV tab s33 27 (.ptr w 4) (.agg (quC it2)) = .ok s41 := by rw [hs41]; exact st27t A33 ic.1
  have A41 : At s41 w (.cells (tenC had v2 it2) 106 true 7) := by rw [hs41]; exact A33.set_same (g33.len hw23) _
  have U41 : Up w s33 s41 := by rw [hs41]; exact Up.set (Nat.le_refl _) A33.1 _
  have n41 : s41.n = s33.n := by rw [hs41]; rfl
  have UU41 : Up w σ s41 := (UU23.trans (g33.up w)).trans U41
  have l52 : loadV tab s41 29 (.ptr w 0) = .ok (.agg (tenC had v2 it2)) := lda a29 A41 rfl rfl
  have V23 : QL x0 s23 (w + 1) s23.n v2 (cut p qs ++ [(j, m)]) := V18.mono (Nat.le_refl _) (by omega) (by omega) fun b hb1 _ _ => by rw [hs23, getO_set_other A18.1 (by omega)]
  have V41 : QL x0 s41 0 s41.n v2 (cut p qs ++ [(j, m)]) := (V23.gw g33).mono (by omega) (by omega) (by omega) fun b hb1 _ _ => by rw [hs41, getO_set_other A33.1 (by omega)]
  have I41 : IL s41 0 s41.n it2 cs := I33.il.mono (by omega) (by omega) (by omega) fun b hb1 _ _ => by rw [hs41, getO_set_other A33.1 (by omega)]
  have hok' : ∀ q ∈ cut p qs ++ [(j, m)], okQ q := by
    intro q hq'
    rcases List.mem_append.1 hq' with h | h
    · rcases List.mem_append.1 h with h | h
      · exact hN.ok q (List.mem_of_mem_take h)
      · exact hN.ok q (List.mem_of_mem_drop h)
    · rw [List.mem_singleton.1 h]; exact hq
  obtain ⟨w2, s55, v3, it3, mid2, p55, g55, hws2, A55, hwm2, hmn2, V55, I55, _⟩ := W29 had v2 it2 (cut p qs ++ [(j, m)]) cs hok' (by rw [List.length_append, cut_len p qs hp]; simp; omega) hok (by omega) s41 (UU41.len hw) (UU41.M.trans hM) V41 I41
  have n55 := g55.n
  have l58 : loadV tab s55 29 (.ptr w2 0) = .ok (.agg (tenC had v3 it3)) := lda a29 A55 rfl rfl
  have UU55 : Up w σ s55 := UU41.trans (g55.up w)
  have bzn := At12.1
  have Z55 : At s55 bz (.cells z29 29 true 7) := At12.up UU55 (by omega)
  have vc3 := V55.ql.cell
  have ic3 := I55.il.cell
  obtain ⟨s59, hs59⟩ : ∃ s59, s59 = s55.set bz (.cells (tenC had v3 it3) 29 true 7) := ⟨_, rfl⟩
  have st59 : storeV tab s55 29 (.ptr bz 0) (.agg (tenC had v3 it3)) = .ok s59 := by rw [hs59]; exact st29 Z55 rfl rfl (tenC_one vc3.1 ic3.1)
  have Z59 : At s59 bz (.cells (tenC had v3 it3) 29 true 7) := by rw [hs59]; exact Z55.set_same (UU55.len hw) _
  have lr : loadV tab s59 29 (.ptr bz 0) = .ok (.agg (tenC had v3 it3)) := lda a29 Z59 rfl rfl
  have U59 : Up bz s55 s59 := by rw [hs59]; exact Up.set (Nat.le_refl _) Z55.1 _
  have n59 : s59.n = s55.n := by rw [hs59]; rfl
  refine ⟨v3, it3, s59, ?_, (UU55.le (by omega)).trans U59, ?_, ?_⟩
  · have e := ec10_1_1_1_1_1_1 (kRet tab [.cell 12 29, .tmp 13]) T σ
    have b0 : bndA s3.n (.func (.func 34) [] []) = true := rfl
    have b1 : bndA s3.n (.agg r) = true := cr.2 _ n3
    have b2 : bndO (s8.n + 1) (.cells r' 71 true 24) = true := c8.2.2 _ (by omega)
    have b3 : bndA s9.n (.func (.func 33) [] []) = true := rfl
    have b4 : bndA s9.n v1 = true := vc.2.2.1 _ (by omega)
    have b5 : bndA s9.n (.slice s8.n 0 1 (some 1) 24) = true := by
      show Nat.blt s8.n s9.n = true
      rw [blt_eq]; simp; omega
    have b6 : bndA s18.n v2 = true := vc2.2.2.1 _ (Nat.le_refl _)
    have b7 : bndA s18.n (.ptr w 3) = true := by
      show Nat.blt w s18.n = true
      rw [blt_eq]; simp; exact A18.1
    have b8 : bndA s9.n (intV .i64 (p : Int)) = true := rfl
    have y1 : Nat.ble s3.n s8.n = true := Nat.ble_eq_true_of_le n8
    have y2 : Nat.ble s9.n s18.n = true := Nat.ble_eq_true_of_le n18
    have y3 : Nat.ble s18.n s23.n = true := Nat.ble_eq_true_of_le (by omega)
    have d0 : ((0 : Int) != 0) = false := rfl
    simp (decide := true) only [mv_eq, g1_eq, g2_eq, g3_eq, bindR_val, retK_ret, condR_boolV, condT, condF, binOp_int, intOp_neq, extractV_0, extractV_1, extractV_2, t8, t10, t12, t3, t5, l0, p3, l1, sameR, cr.1, Bool.and_true, List.all_cons, List.all_nil, b0, b1, Bool.and_self, p8, y1, nilCheck_ptr, fa94_0, fa29_3, Nat.zero_add, l13, l13', vc.2.1, bs, b2, ← hs9, b3, b4, b8, b5, p18, y2, b6, b7, st23, y3, fa29_4, l29, p33, st41, d0, l52, p55, l58, st59, puts_cons, puts_nil] at e
    rw [e]
    simp (decide := true) only [kRet, resK, putE_same, putE_ne, t12, lr]
    rfl
  · refine V55.ql.mono (by omega) (by omega) (by omega) fun b hb1 _ _ => ?_
    rw [hs59, getO_set_other Z55.1 (by omega)]
  · refine I55.il.mono (by omega) (by omega) (by omega) fun b hb1 _ _ => ?_
    rw [hs59, getO_set_other Z55.1 (by omega)]
end Go.Proofs.YtkpkmjanikkpoaaGreatDoor
namespace Go.Proofs.YtkpkmjanikkpoaaGreatDoor
open Go Go.Dt
set_option maxRecDepth 100000

/-- the number of a query of the list -/
theorem QL.num {σ : St} {lo hi : Nat} {v : AV} {qs : List (Nat × Int)} (h : QL x0 σ lo hi v qs) {i j : Nat} {m : Int} (hq : qs[i]? = some (j, m)) :
    ∃ b, indexAddr tab 24 v (intV .i64 (i : Int)) = .ok (.ptr b (i * 24)) ∧ loadV tab σ 3 (.ptr b (i * 24)) = .ok (intV .i64 m) := by
  have hi' : i < qs.length := (List.getElem?_eq_some_iff.1 hq).1
  rcases h.is with ⟨rfl, rfl⟩ | ⟨b, cap, rows, rest, rfl, k2, k3, k4, k5⟩
  · simp at hq
  · obtain ⟨r, hr, hd⟩ := k5.get i (j, m) hq
    have hl := k5.lens fam0
    have hrows := rows_at 24 rows hl.1 i r hr
    have hle : i * 24 + 24 ≤ rows.flatten.length := by rw [k5.flen fam0]; omega
    have h0 : r[0]? = some (intV .i64 m) := hd.at 0 _ (x0_0 j m)
    refine ⟨b, ixA0 el24 hi', ld l3 k4 ?_⟩
    rw [← hrows, List.getElem?_take, if_pos (by omega), List.getElem?_drop, Nat.add_zero] at h0
    rw [List.getElem?_append_left (by omega)]
    exact h0

/-- tenant.Put, of a tenant without items -/
theorem W10 {had : Int} (h0 : 0 ≤ had) (h20 : had ≤ 4) (rv : AV) {qv : AV} {qs : List (Nat × Int)} (hN : Numb had qs) (hlen : qs.length ≤ 4) {cs : List Int} (hok : ∀ c ∈ cs, okC c) (hcl : cs.length ≤ 8) {p : Nat} {j : Nat} {m : Int} (hq : qs[p]? = some (j, m)) {r : List AV} {v : AV}
    (σ : St) (hw : WF σ) (hM : σ.M = M0) (hS : StV σ σ.n rv) (hQ : QL x0 σ 0 σ.n qv qs) (hR : DpL σ 0 σ.n (x0 j m) r) (hI : IL σ 0 σ.n v cs) :
    ∃ v' it' σ', W 10 [.agg (svC rv), .agg cC, .agg (tenC had qv nilS), intV .i64 (p : Int), .agg r, v] σ = .ok (.ret (.tuple [.agg (tenC had v' it'), intV .i64 0]), σ') ∧ Gw σ σ' ∧ QL x0 σ' σ.n σ'.n v' (cut p qs ++ [(j, m)]) ∧ IL σ' σ.n σ'.n it' cs := by
  have hp : p < qs.length := (List.getElem?_eq_some_iff.1 hq).1
  have hqok := hN.ok _ (List.mem_of_getElem? hq)
  have r24 : r.length = 24 := by rw [hR.length, fam0.len]
  have B := mkBox3 σ rv had qv nilS
  obtain ⟨S, hSt⟩ : ∃ S, S = ((σ.push (.cells (svC rv) 33 true 4)).push (.cells cC 36 true 5)).push (.cells (tenC had qv nilS) 29 true 7) := ⟨_, rfl⟩
  rw [← hSt] at B
  have hn3 := B.n
  obtain ⟨S', hSt'⟩ : ∃ S', S' = (S.push (.cells r 71 true 24)).push (.cells z29 29 true 7) := ⟨_, rfl⟩
  have gS : Gw S S' := by rw [hSt']; exact (Gw.push _ _).trans (Gw.push _ _)
  have A3 : At S' (σ.n + 3) (.cells r 71 true 24) := by rw [hSt', ← hn3]; exact (At.new _ _).push _
  have A4 : At S' (σ.n + 4) (.cells z29 29 true 7) := by
    have := At.new (S.push (.cells r 71 true 24)) (.cells z29 29 true 7)
    rw [push_n, hn3] at this
    rw [hSt']; exact this
  have G := B.g.trans gS
  have nS' : S'.n = σ.n + 5 := by rw [hSt', push_n, push_n, hn3]
  have B0 := B.a0.gw gS
  have B1 := B.a1.gw gS
  have B2 := B.a2.gw gS
  have l0 : loadV tab S' 33 (.ptr σ.n 0) = .ok (.agg (svC rv)) := lda a33 B0 rfl rfl
  have l1 : loadV tab S' 36 (.ptr (σ.n + 1) 0) = .ok (.agg cC) := lda a41 B1 rfl rfl
  have l2 : loadV tab S' 29 (.ptr (σ.n + 2) 0) = .ok (.agg (tenC had qv nilS)) := lda a29 B2 rfl rfl
  obtain ⟨s5, p5, g5⟩ := W20 had h0 h20 rv qv qs hN hlen S' (G.len hw) (G.M.trans hM) ((hS.gw G).le G.n) ((hQ.gw G).le G.n) (it := nilS) (cs := []) (by simp) (by simp) ⟨.inl ⟨rfl, rfl⟩⟩
  have G5 := G.trans g5
  have C0 := B0.gw g5
  have C1 := B1.gw g5
  have C2 := B2.gw g5
  have C3 := A3.gw g5
  have C4 := A4.gw g5
  have Q5 := hQ.gw G5
  have qc := Q5.cell
  have m1 : loadV tab s5 24 (.ptr (σ.n + 2) 3) = .ok qv := ld l24 C2 rfl
  obtain ⟨bq, x1, x2⟩ := Q5.num hq
  have m3 : loadV tab s5 3 (.ptr (σ.n + 3) 0) = .ok (intV .i64 m) := ld l3 C3 (hR.at 0 _ (x0_0 j m))
  have m4 : loadV tab s5 33 (.ptr σ.n 0) = .ok (.agg (svC rv)) := lda a33 C0 rfl rfl
  have m5 : loadV tab s5 71 (.ptr (σ.n + 3) 0) = .ok (.agg r) := lda a68 C3 (by rw [List.drop_zero]; exact List.take_of_length_le (by omega)) r24
  obtain ⟨s6, p6, g6⟩ := P30 hqok (G5.M.trans hM) (hS.gw G5) (hR.gw G5)
  have G6 := G5.trans g6
  have n1 : loadV tab s6 36 (.ptr (σ.n + 1) 0) = .ok (.agg cC) := lda a41 (C1.gw g6) rfl rfl
  have n2 : loadV tab s6 29 (.ptr (σ.n + 2) 0) = .ok (.agg (tenC had qv nilS)) := lda a29 (C2.gw g6) rfl rfl
  have n3 : loadV tab s6 71 (.ptr (σ.n + 3) 0) = .ok (.agg r) := lda a68 (C3.gw g6) (by rw [List.drop_zero]; exact List.take_of_length_le (by omega)) r24
  obtain ⟨s7, p7, g7⟩ := W31 had qv nilS s6 (hR.gw G6)
  have G7 := G6.trans g7
  have gg := g6.trans g7
  have e := ec10 (kRet tab [.cell 12 29, .tmp 13]) (.agg (svC rv)) (.agg cC) (.agg (tenC had qv nilS)) (intV .i64 (p : Int)) (.agg r) v σ
  have d0 : ((0 : Int) == 0) = true := rfl
  have d1 : ((0 : Int) != 0) = false := rfl
  have d2 : decide ((p : Int) < 0) = false := by simp
  have d3 : decide ((p : Int) ≥ (qs.length : Int)) = false := by simp; omega
  have d4 : (m != m) = false := by simp
  have bm : beqA (intV .i64 m) (intV .i64 m) = true := by simp [intV, beqA, beqBase]
  have q3 : argE [.agg (svC rv), .agg cC, .agg (tenC had qv nilS), intV .i64 (p : Int), .agg r, v] 3 = intV .i64 (p : Int) := rfl
  have q5 : argE [.agg (svC rv), .agg cC, .agg (tenC had qv nilS), intV .i64 (p : Int), .agg r, v] 5 = v := rfl
  simp only [bindR_val, mv_eq, box33', box41', box29', box68, push_n, ← hSt, alloc29, ← hSt'] at e
  simp (decide := true) only [mv_eq, g1_eq, g2_eq, bindR_val, retK_ret, condR_boolV, condT, condF, isBoolV_f, Bool.not_false, pickV_boolV, binOp_int, intOp_eql, intOp_neq, intOp_lss, intOp_geq, puts_cons, puts_nil, putE_same, putE_ne, Nat.add_assoc, Nat.reduceAdd, ec10_1, q3, l0, l1, l2, p5, ec10_1_1, d1, d2, fa29_3, Nat.zero_add, m1, Q5.lenV, d3, sameR, qc.2.1, Bool.and_true, condT, x1, fa68_0, x2, bm, m3, d4, m4, m5, p6, ec10_1_1_1, d0, n1, n2, n3, p7, ec10_1_1_1_1] at e
  obtain ⟨T0, ea, t5, t14, t15, t8, t10, t12, t3, t6, t7⟩ : ∃ T0 : Rg, denK tab W V 115 c10 (kRet tab [.cell 12 29, .tmp 13]) (argE [.agg (svC rv), .agg cC, .agg (tenC had qv nilS), intV .i64 (p : Int), .agg r, v]) σ = bindR (loopLim (dd tab W V 115 c10_1_1_1_1_0_1_0_0) T0 s7) (K.app (kblk 1 (kseq (denK tab W V 115 c10_1_1_1_1_1 (kRet tab [.cell 12 29, .tmp 13])) (kRet tab [.cell 12 29, .tmp 13])))) ∧
      T0 5 = v ∧ T0 14 = intV .i64 0 ∧ T0 15 = intV .i64 ((0 : Nat) : Int) ∧ T0 8 = .ptr (σ.n + 2) 0 ∧ T0 10 = .ptr (σ.n + 3) 0 ∧ T0 12 = .ptr (σ.n + 4) 0 ∧ T0 3 = intV .i64 (p : Int) ∧ T0 6 = .ptr σ.n 0 ∧ T0 7 = .ptr (σ.n + 1) 0 := by
    refine ⟨_, e, ?_, ?_, ?_, ?_, ?_, ?_, ?_, ?_, ?_⟩ <;> simp (decide := true) only [putE_same, putE_ne] <;> rfl
  clear e
  obtain ⟨T1, s8, z, g8, k5, k14, k8, k10, k12, k3⟩ := loop10 v cs 0 σ.n hok (by omega) _ _ _ _ _ _ cs.length 0 (by omega) T0 s7 (G7.len hw) (G7.M.trans hM) (hI.gw G7) t5 t14 t15 t8 t10 t12 t3 t6 t7
  have G8 := G7.trans g8
  have ggg := gg.trans g8
  have e := ec10_1_1_1_1_1 (kRet tab [.cell 12 29, .tmp 13]) T1 s8
  have n58 := ggg.n
  have ng5 := g5.n
  simp (decide := true) only [mv_eq, g1_eq, g3_eq, bindR_val, condR_boolV, condF, binOp_int, intOp_neq, k14, d1] at e
  obtain ⟨T2, eb, u5, u8, u10, u12, u3⟩ : ∃ T2 : Rg, denK tab W V 115 c10_1_1_1_1_1 (kRet tab [.cell 12 29, .tmp 13]) T1 s8 = denK tab W V 115 c10_1_1_1_1_1_1 (kRet tab [.cell 12 29, .tmp 13]) T2 s8 ∧ T2 5 = v ∧ T2 8 = .ptr (σ.n + 2) 0 ∧ T2 10 = .ptr (σ.n + 3) 0 ∧ T2 12 = .ptr (σ.n + 4) 0 ∧ T2 3 = intV .i64 (p : Int) := by
    refine ⟨_, e, ?_, ?_, ?_, ?_, ?_⟩ <;> simp (decide := true) only [puts_cons, puts_nil, putE_ne, k5, k8, k10, k12, k3]
  clear e
  have n8 := G8.n
  obtain ⟨v', it', s9, e9, U9, V9, I9⟩ := put2 rv hN hlen hok hcl hp hqok (n0 := σ.n) (bz := σ.n + 4) (G8.len hw) (G8.M.trans hM) (by omega) (C2.gw ggg) (C3.gw ggg) (C4.gw ggg) ((hQ.gw G8).le n8) (DpL.mono (Nat.le_refl _) n8 (fun _ _ _ _ => rfl) _ _ (hR.gw G8)) ((hI.gw G8).le (Nat.le_refl _) n8) u8 u10 u12 u3 u5
  refine ⟨v', it', s9, w10 (by simp) ?_, ((G8.up (σ.n + 4)).trans U9).gw (by omega), V9.mono n8 (Nat.le_refl _) (Nat.le_refl _) (fun _ _ _ _ => rfl), I9.le n8 (Nat.le_refl _)⟩
  rw [ea, z, bindR_val, app_exit, kblk_exit, if_pos rfl, kseq_nxt, eb, e9]

/-- the text of a query -/
theorem bs107 (n : Nat) : buildSliceA tab 107 6 [(0, (str [65, 32, 119, 105, 116, 104, 105, 110, 32, 53])), (1, (str [65, 32, 59, 32, 66, 32, 119, 105, 116, 104, 105, 110, 32, 51])), (2, (str [66, 64, 123, 48, 125, 32, 119, 105, 116, 104, 105, 110, 32, 48])), (3, (str [65, 32, 59, 32, 110, 111, 116, 32, 67, 32, 59, 32, 66, 32, 119, 105, 116, 104, 105, 110, 32, 55])), (4, (str [67, 123, 49, 44, 50, 125, 32, 119, 105, 116, 104, 105, 110, 32, 50])), (5, (str [65, 64, 123, 125, 32, 119, 105, 116, 104, 105, 110, 32, 57]))] n =
    .ok (.slice n 0 6 (some 6) 1, .cells [str (txt 0), str (txt 1), str (txt 2), str (txt 3), str (txt 4), str (txt 5)] 9 true 1) := by kernel_rfl
theorem el107 : elemB 107 9 1 = true := by kernel_rfl
theorem W9 (k : Int) (j : Nat) (hj : k % 6 = (j : Int)) (hj6 : j < 6) (σ : St) : ∃ σ', W 9 [intV .i64 k] σ = .ok (.ret (str (txt j)), σ') ∧ Gw σ σ' := by
  have A := At.new σ (.cells [str (txt 0), str (txt 1), str (txt 2), str (txt 3), str (txt 4), str (txt 5)] 9 true 1)
  have p1 := W7 k 6 (by omega) (by omega) (σ.push (.cells [str (txt 0), str (txt 1), str (txt 2), str (txt 3), str (txt 4), str (txt 5)] 9 true 1))
  rw [hj] at p1
  have ix : indexAddr tab 107 (.slice σ.n 0 6 (some 6) 1) (intV .i64 (j : Int)) = .ok (.ptr σ.n (j * 1)) := ixA0 el107 hj6
  rw [Nat.mul_one] at ix
  have l : loadV tab (σ.push (.cells [str (txt 0), str (txt 1), str (txt 2), str (txt 3), str (txt 4), str (txt 5)] 9 true 1)) 9 (.ptr σ.n j) = .ok (str (txt j)) := ld l9 A (by
    match j, hj6 with
    | 0, _ => rfl
    | 1, _ => rfl
    | 2, _ => rfl
    | 3, _ => rfl
    | 4, _ => rfl
    | 5, _ => rfl)
  refine ⟨_, w9 (by simp) ?_, Gw.push σ (.cells [str (txt 0), str (txt 1), str (txt 2), str (txt 3), str (txt 4), str (txt 5)] 9 true 1)⟩
  rw [ec9]
  simp (decide := true) only [mv_eq, g1_eq, g2_eq, bindR_val, retK_ret, puts_cons, puts_nil, putE_same, bs107, p1, ix, l, r9]
end Go.Proofs.YtkpkmjanikkpoaaGreatDoor
namespace Go.Proofs.YtkpkmjanikkpoaaGreatDoor
open Go Go.Dt
set_option maxRecDepth 100000
/- partywall/partywalllaw31.TenantPolls -/
noncomputable def c3 : Code := bodyC tab 3
noncomputable def c3_1_1_1 : Code := subC (bodyC tab 3) [1, 1, 1]
noncomputable def c3_1_1_1_1_1_0_1_0_0 : Code := subC (bodyC tab 3) [1, 1, 1, 1, 1, 0, 1, 0, 0]
noncomputable def c3_1_1_1_1_1_1 : Code := subC (bodyC tab 3) [1, 1, 1, 1, 1, 1]
noncomputable def c3_1_1_1_1_1_1_1 : Code := subC (bodyC tab 3) [1, 1, 1, 1, 1, 1, 1]
noncomputable def c3_1_1_1_1_1_1_1_1_0_1_0_0 : Code := subC (bodyC tab 3) [1, 1, 1, 1, 1, 1, 1, 1, 0, 1, 0, 0]
noncomputable def c3_1_1_1_1_1_1_1_1_1 : Code := subC (bodyC tab 3) [1, 1, 1, 1, 1, 1, 1, 1, 1]
noncomputable def c3_1_1_1_1_1_1_1_1_1_1 : Code := subC (bodyC tab 3) [1, 1, 1, 1, 1, 1, 1, 1, 1, 1]
noncomputable def c3_1_1_1_1_1_1_1_1_1_1_1 : Code := subC (bodyC tab 3) [1, 1, 1, 1, 1, 1, 1, 1, 1, 1, 1]
noncomputable def c3_1_1_1_1_1_1_1_1_1_1_1_1 : Code := subC (bodyC tab 3) [1, 1, 1, 1, 1, 1, 1, 1, 1, 1, 1, 1]
noncomputable def c3_1_1_1_1_1_1_1_1_1_1_1_1_1 : Code := subC (bodyC tab 3) [1, 1, 1, 1, 1, 1, 1, 1, 1, 1, 1, 1, 1]
noncomputable def c3_1_1_1_1_1_1_1_1_1_1_1_1_1_1_0_1_0_0 : Code := subC (bodyC tab 3) [1, 1, 1, 1, 1, 1, 1, 1, 1, 1, 1, 1, 1, 1, 0, 1, 0, 0]
noncomputable def c3_1_1_1_1_1_1_1_1_1_1_1_1_1_1_1 : Code := subC (bodyC tab 3) [1, 1, 1, 1, 1, 1, 1, 1, 1, 1, 1, 1, 1, 1, 1]
noncomputable def c3_1_1_1_1_1_1_1_1_1_1_1_1_1_1_0_1_0_0_1_1 : Code := subC (bodyC tab 3) [1, 1, 1, 1, 1, 1, 1, 1, 1, 1, 1, 1, 1, 1, 0, 1, 0, 0, 1, 1]
noncomputable def o3_1_1_1_1_1_1_1_1_1_1_1_1_0_0 : Array Oper := regOps (subC (bodyC tab 3) [1, 1, 1, 1, 1, 1, 1, 1, 1, 1, 1, 1, 0, 0])
noncomputable def p3_1_1_1_1_1_1_1_1_1_1_1_1_0_0_24 : List PlanItem := []
noncomputable def p3_1_1_1_1_1_1_1_1_1_1_1_1_0_0_23 : List PlanItem := (PlanItem.mk 23 1 false) :: p3_1_1_1_1_1_1_1_1_1_1_1_1_0_0_24
noncomputable def p3_1_1_1_1_1_1_1_1_1_1_1_1_0_0_22 : List PlanItem := (PlanItem.mk 22 1 false) :: p3_1_1_1_1_1_1_1_1_1_1_1_1_0_0_23
noncomputable def p3_1_1_1_1_1_1_1_1_1_1_1_1_0_0_21 : List PlanItem := (PlanItem.mk 21 0 true) :: p3_1_1_1_1_1_1_1_1_1_1_1_1_0_0_22
noncomputable def p3_1_1_1_1_1_1_1_1_1_1_1_1_0_0_20 : List PlanItem := (PlanItem.mk 20 0 false) :: p3_1_1_1_1_1_1_1_1_1_1_1_1_0_0_21
noncomputable def p3_1_1_1_1_1_1_1_1_1_1_1_1_0_0_19 : List PlanItem := (PlanItem.mk 19 0 false) :: p3_1_1_1_1_1_1_1_1_1_1_1_1_0_0_20
noncomputable def p3_1_1_1_1_1_1_1_1_1_1_1_1_0_0_18 : List PlanItem := (PlanItem.mk 18 0 false) :: p3_1_1_1_1_1_1_1_1_1_1_1_1_0_0_19
noncomputable def p3_1_1_1_1_1_1_1_1_1_1_1_1_0_0_17 : List PlanItem := (PlanItem.mk 17 0 false) :: p3_1_1_1_1_1_1_1_1_1_1_1_1_0_0_18
noncomputable def p3_1_1_1_1_1_1_1_1_1_1_1_1_0_0_16 : List PlanItem := (PlanItem.mk 16 0 false) :: p3_1_1_1_1_1_1_1_1_1_1_1_1_0_0_17
noncomputable def p3_1_1_1_1_1_1_1_1_1_1_1_1_0_0_15 : List PlanItem := (PlanItem.mk 15 0 false) :: p3_1_1_1_1_1_1_1_1_1_1_1_1_0_0_16
noncomputable def p3_1_1_1_1_1_1_1_1_1_1_1_1_0_0_14 : List PlanItem := (PlanItem.mk 14 0 false) :: p3_1_1_1_1_1_1_1_1_1_1_1_1_0_0_15
noncomputable def p3_1_1_1_1_1_1_1_1_1_1_1_1_0_0_13 : List PlanItem := (PlanItem.mk 13 0 false) :: p3_1_1_1_1_1_1_1_1_1_1_1_1_0_0_14
noncomputable def p3_1_1_1_1_1_1_1_1_1_1_1_1_0_0_12 : List PlanItem := (PlanItem.mk 12 0 false) :: p3_1_1_1_1_1_1_1_1_1_1_1_1_0_0_13
noncomputable def p3_1_1_1_1_1_1_1_1_1_1_1_1_0_0_11 : List PlanItem := (PlanItem.mk 11 0 false) :: p3_1_1_1_1_1_1_1_1_1_1_1_1_0_0_12
noncomputable def p3_1_1_1_1_1_1_1_1_1_1_1_1_0_0_10 : List PlanItem := (PlanItem.mk 10 0 false) :: p3_1_1_1_1_1_1_1_1_1_1_1_1_0_0_11
noncomputable def p3_1_1_1_1_1_1_1_1_1_1_1_1_0_0_9 : List PlanItem := (PlanItem.mk 9 0 false) :: p3_1_1_1_1_1_1_1_1_1_1_1_1_0_0_10
noncomputable def p3_1_1_1_1_1_1_1_1_1_1_1_1_0_0_8 : List PlanItem := (PlanItem.mk 8 0 false) :: p3_1_1_1_1_1_1_1_1_1_1_1_1_0_0_9
noncomputable def p3_1_1_1_1_1_1_1_1_1_1_1_1_0_0_7 : List PlanItem := (PlanItem.mk 7 0 false) :: p3_1_1_1_1_1_1_1_1_1_1_1_1_0_0_8
noncomputable def p3_1_1_1_1_1_1_1_1_1_1_1_1_0_0_6 : List PlanItem := (PlanItem.mk 6 0 false) :: p3_1_1_1_1_1_1_1_1_1_1_1_1_0_0_7
noncomputable def p3_1_1_1_1_1_1_1_1_1_1_1_1_0_0_5 : List PlanItem := (PlanItem.mk 5 0 false) :: p3_1_1_1_1_1_1_1_1_1_1_1_1_0_0_6
noncomputable def p3_1_1_1_1_1_1_1_1_1_1_1_1_0_0_4 : List PlanItem := (PlanItem.mk 4 0 false) :: p3_1_1_1_1_1_1_1_1_1_1_1_1_0_0_5
noncomputable def p3_1_1_1_1_1_1_1_1_1_1_1_1_0_0_3 : List PlanItem := (PlanItem.mk 3 0 false) :: p3_1_1_1_1_1_1_1_1_1_1_1_1_0_0_4
noncomputable def p3_1_1_1_1_1_1_1_1_1_1_1_1_0_0_2 : List PlanItem := (PlanItem.mk 2 0 false) :: p3_1_1_1_1_1_1_1_1_1_1_1_1_0_0_3
noncomputable def p3_1_1_1_1_1_1_1_1_1_1_1_1_0_0_1 : List PlanItem := (PlanItem.mk 1 0 false) :: p3_1_1_1_1_1_1_1_1_1_1_1_1_0_0_2
noncomputable def p3_1_1_1_1_1_1_1_1_1_1_1_1_0_0_0 : List PlanItem := (PlanItem.mk 0 0 false) :: p3_1_1_1_1_1_1_1_1_1_1_1_1_0_0_1
theorem ec3_1_1_1 {ρ : Type} (k : K ρ) (T : Rg) (s : St) : denK tab W V 183 c3_1_1_1 k T s =
  bindR (g1 (fieldAddr tab 36 (T 11) 3)) fun v0 =>
  bindR (g3 s (storeV tab s 3 v0 (intV .i64 8))) fun s1 =>
  bindR (g1 (fieldAddr tab 29 (T 9) 4)) fun v2 =>
  bindR (g1 (fieldAddr tab 27 v2 0)) fun v3 =>
  bindR (g3 s1 (storeV tab s1 3 v3 (intV .i64 8))) fun s4 =>
  bindR (mv (intV .i64 0)) fun v5 =>
  bindR (loopLim (dd tab W V 183 c3_1_1_1_1_1_0_1_0_0) (puts 183 T [(31, v0), (32, v2), (33, v3), (12, v5)]) s4) (K.app (kblk 0 (kseq (denK tab W V 183 c3_1_1_1_1_1_1 k) k))) := by kernel_rfl
theorem ec3_1_1_1_1_1_0_1_0_0 {ρ : Type} (k : K ρ) (T : Rg) (s : St) : denK tab W V 183 c3_1_1_1_1_1_0_1_0_0 k T s =
  bindR (mv (T 12)) fun v0 =>
  bindR (mv (T 0)) fun v1 =>
  bindR (g2 s (W 7 [v1, (intV .i64 4)] s)) fun q2 => retK q2 (fun v3 s4 =>
  bindR (g1 (Dt.binOp tab .add 3 (intV .i64 1) v3 true)) fun v5 =>
  bindR (g1 (Dt.binOp tab .lss 3 v0 v5 false)) fun v6 =>
  condR v6
  (bindR (.ok (T 0)) fun v7 =>
  bindR (Dt.binOp tab .quo 3 v7 (intV .i64 4) true) fun v8 =>
  bindR (.ok (T 12)) fun v9 =>
  bindR (Dt.binOp tab .add 3 v8 v9 false) fun v10 =>
  bif ([(AV.func (.func 9) [] []), v10].all fun x => bndA s4.n x) then bindR (g2 s4 (W 9 [v10] s4)) fun q11 => retK q11 (fun v12 s13 =>
  bif Nat.ble s4.n s13.n then bindR (loadV tab s13 33 (T 10)) fun v14 => bif (sameR (loadV tab s13 33 (T 10)) v14 && (sameR (loadV tab s4 33 (T 10)) v14 && true)) then
  bindR (loadV tab s13 36 (T 11)) fun v15 => bif (sameR (loadV tab s13 36 (T 11)) v15 && (sameR (loadV tab s4 36 (T 11)) v15 && true)) then
  bindR (loadV tab s13 29 (T 9)) fun v16 => bif (sameR (loadV tab s13 29 (T 9)) v16 && (sameR (loadV tab s4 29 (T 9)) v16 && true)) then
  bif ([(AV.func (.func 8) [] []), v14, v15, v16, v12].all fun x => bndA s13.n x) then bindR (g2 s13 (W 8 [v14, v15, v16, v12] s13)) fun q17 => retK q17 (fun v18 s19 =>
  bif Nat.ble s13.n s19.n then bindR (.ok v18) fun v20 =>
  bindR (extractV v20 0) fun v21 =>
  bindR (allocA tab 29 s19.n) fun q22 => bif bndO (s19.n + 1) q22.2 then
  bindR (allocA tab 41 (s19.push q22.2).n) fun q23 => bif bndO ((s19.push q22.2).n + 1) q23.2 then
  bif ([q22.1, v21].all fun x => bndA ((s19.push q22.2).push q23.2).n x) then bindR (g3 ((s19.push q22.2).push q23.2) (storeV tab ((s19.push q22.2).push q23.2) 29 q22.1 v21)) fun s24 =>
  bif Nat.ble ((s19.push q22.2).push q23.2).n s24.n then bindR (extractV v20 1) fun v25 =>
  bindR (extractV v20 2) fun v26 =>
  bindR (.ok v25) fun v27 =>
  bif ([q23.1, v26].all fun x => bndA s24.n x) then bindR (g3 s24 (storeV tab s24 41 q23.1 v26)) fun s28 =>
  bif Nat.ble s24.n s28.n then bindR (g1 (fieldAddr tab 41 q23.1 0)) fun v29 =>
  bindR (g1 (loadV tab s28 39 v29)) fun v30 =>
  bindR (g1 (Dt.binOp tab .neq 39 v30 (intV .i64 0) true)) fun v31 =>
  condR v31
  (bindR (mv (boolV false)) fun v32 =>
  k.ret (puts 183 T [(34, v0), (35, v1), (36, v3), (37, v5), (38, v6), (45, v7), (46, v8), (47, v9), (48, v10), (49, v12), (42, v14), (43, v15), (44, v16), (50, v18), (41, v20), (51, v21), (13, q22.1), (15, q23.1), (52, v25), (53, v26), (14, v27), (54, v29), (55, v30), (56, v31), (8, v32)]) s28)
  (bindR (g1 (loadV tab s28 29 q22.1)) fun v33 =>
  bindR (g3 s28 (storeV tab s28 29 (T 9) v33)) fun s34 =>
  bindR (mv (T 12)) fun v35 =>
  bindR (g1 (Dt.binOp tab .add 3 v35 (intV .i64 1) true)) fun v36 =>
  bindR (mv v36) fun v37 =>
  k.nxt (puts 183 T [(34, v0), (35, v1), (36, v3), (37, v5), (38, v6), (45, v7), (46, v8), (47, v9), (48, v10), (49, v12), (42, v14), (43, v15), (44, v16), (50, v18), (41, v20), (51, v21), (13, q22.1), (15, q23.1), (52, v25), (53, v26), (14, v27), (54, v29), (55, v30), (56, v31), (57, v33), (39, v35), (40, v36), (12, v37)]) s34) else .error "draw n" else .error "draw ids" else .error "draw n" else .error "draw ids" else .error "draw object" else .error "draw object" else .error "draw n") (fun _ _ => .error "panic in a drawn region") else .error "draw ids" else .error "unstable read" else .error "unstable read" else .error "unstable read" else .error "draw n") (fun _ _ => .error "panic in a drawn region") else .error "draw ids")
  (k.exit 0 (puts 183 T [(34, v0), (35, v1), (36, v3), (37, v5), (38, v6)]) s4)) k.pan := by kernel_rfl
theorem ec3_1_1_1_1_1_1 {ρ : Type} (k : K ρ) (T : Rg) (s : St) : denK tab W V 183 c3_1_1_1_1_1_1 k T s =
  bindR (g1 (fieldAddr tab 29 (T 9) 3)) fun v0 =>
  bindR (g1 (loadV tab s 24 v0)) fun v1 =>
  bindR (g1 (lenV tab 24 v1)) fun v2 =>
  bindR (g1 (Dt.binOp tab .eql 3 v2 (intV .i64 0) true)) fun v3 =>
  condR v3
  (bindR (mv (boolV false)) fun v4 =>
  k.ret (puts 183 T [(58, v0), (59, v1), (60, v2), (61, v3), (8, v4)]) s)
  (denK tab W V 183 c3_1_1_1_1_1_1_1 k (puts 183 T [(58, v0), (59, v1), (60, v2), (61, v3)]) s) := by kernel_rfl
theorem ec3_1_1_1_1_1_1_1 {ρ : Type} (k : K ρ) (T : Rg) (s : St) : denK tab W V 183 c3_1_1_1_1_1_1_1 k T s =
  bindR (mv (AV.base (.slice none 0 0))) fun v0 =>
  bindR (mv (intV .i64 0)) fun v1 =>
  bindR (loopLim (dd tab W V 183 c3_1_1_1_1_1_1_1_1_0_1_0_0) (puts 183 T [(16, v0), (17, v1)]) s) (K.app (kblk 2 (kseq (denK tab W V 183 c3_1_1_1_1_1_1_1_1_1 k) k))) := by kernel_rfl
theorem ec3_1_1_1_1_1_1_1_1_0_1_0_0 {ρ : Type} (k : K ρ) (T : Rg) (s : St) : denK tab W V 183 c3_1_1_1_1_1_1_1_1_0_1_0_0 k T s =
  bindR (mv (T 17)) fun v0 =>
  bindR (mv (T 3)) fun v1 =>
  bindR (g1 (lenV tab 22 v1)) fun v2 =>
  bindR (g1 (Dt.binOp tab .lss 3 v0 v2 false)) fun v3 =>
  bindR (mv v3) fun v4 =>
  bindR (bif isBoolV v4 true then .ok (T 17) else .ok AV.undef) fun v5 =>
  bindR (bif isBoolV v4 true then Dt.binOp tab .lss 3 v5 (intV .i64 8) true else .ok AV.undef) fun v6 =>
  bindR (g1 (pickV v4 v6 (boolV false))) fun v7 =>
  condR v7
  (bindR (mv (T 16)) fun v8 =>
  bindR (mv (T 3)) fun v9 =>
  bindR (mv (T 17)) fun v10 =>
  bindR (g1 (indexAddr tab 22 v9 v10)) fun v11 =>
  bindR (g1 (loadV tab s 3 v11)) fun v12 =>
  bindR (g2 s (W 7 [v12, (intV .i64 99)] s)) fun q13 => retK q13 (fun v14 s15 =>
  bindR (g1 (Dt.binOp tab .add 3 (intV .i64 1) v14 true)) fun v16 =>
  bindR (g1 (Dt.build tab 48 [(0, (intV .i64 2)), (1, (intV .i64 1)), (5, (intV .i64 18)), (6, v16)])) fun v17 =>
  bindR (buildSliceA tab 25 1 [(0, v17)] s15.n) fun q18 =>
  bindR (g4 (s15.push q18.2) (appendV tab (s15.push q18.2) 25 25 v8 q18.1)) fun q19 =>
  bindR (mv q19.1) fun v20 =>
  bindR (mv (T 17)) fun v21 =>
  bindR (g1 (Dt.binOp tab .add 3 v21 (intV .i64 1) true)) fun v22 =>
  bindR (mv v22) fun v23 =>
  k.nxt (puts 183 T [(62, v0), (63, v1), (64, v2), (65, v3), (66, v4), (67, v5), (68, v6), (69, v7), (72, v8), (73, v9), (74, v10), (75, v11), (76, v12), (77, v14), (78, v16), (79, v17), (80, q18.1), (81, q19.1), (16, v20), (70, v21), (71, v22), (17, v23)]) q19.2) k.pan)
  (k.exit 2 (puts 183 T [(62, v0), (63, v1), (64, v2), (65, v3), (66, v4), (67, v5), (68, v6), (69, v7)]) s) := by kernel_rfl
theorem ec3_1_1_1_1_1_1_1_1_1 {ρ : Type} (k : K ρ) (T : Rg) (s : St) : denK tab W V 183 c3_1_1_1_1_1_1_1_1_1 k T s =
  bindR (mv (T 1)) fun v0 =>
  bindR (g1 (fieldAddr tab 29 (T 9) 3)) fun v1 =>
  bindR (g1 (loadV tab s 24 v1)) fun v2 =>
  bindR (g1 (lenV tab 24 v2)) fun v3 =>
  bindR (g2 s (W 7 [v0, v3] s)) fun q4 => retK q4 (fun v5 s6 =>
  bindR (mv v5) fun v7 =>
  denK tab W V 183 c3_1_1_1_1_1_1_1_1_1_1 k (puts 183 T [(82, v0), (83, v1), (84, v2), (85, v3), (86, v5), (18, v7)]) s6) k.pan := by kernel_rfl
theorem ec3_1_1_1_1_1_1_1_1_1_1 {ρ : Type} (k : K ρ) (T : Rg) (s : St) : denK tab W V 183 c3_1_1_1_1_1_1_1_1_1_1 k T s =
  bindR (g1 (fieldAddr tab 29 (T 9) 3)) fun v0 =>
  bindR (g1 (loadV tab s 24 v0)) fun v1 =>
  bindR (mv (T 18)) fun v2 =>
  bindR (g1 (indexAddr tab 24 v1 v2)) fun v3 =>
  bindR (g1 (loadV tab s 71 v3)) fun v4 =>
  bindR (allocA tab 71 s.n) fun q5 =>
  bindR (g3 (s.push q5.2) (storeV tab (s.push q5.2) 71 q5.1 v4)) fun s6 =>
  denK tab W V 183 c3_1_1_1_1_1_1_1_1_1_1_1 k (puts 183 T [(87, v0), (88, v1), (89, v2), (90, v3), (91, v4), (19, q5.1)]) s6 := by kernel_rfl
theorem ec3_1_1_1_1_1_1_1_1_1_1_1 {ρ : Type} (k : K ρ) (T : Rg) (s : St) : denK tab W V 183 c3_1_1_1_1_1_1_1_1_1_1_1 k T s =
  bindR (g1 (loadV tab s 33 (T 10))) fun v0 =>
  bindR (g1 (loadV tab s 36 (T 11))) fun v1 =>
  bindR (g1 (loadV tab s 29 (T 9))) fun v2 =>
  bindR (mv (T 18)) fun v3 =>
  bindR (g1 (loadV tab s 71 (T 19))) fun v4 =>
  bindR (mv (T 16)) fun v5 =>
  bindR (g2 s (W 10 [v0, v1, v2, v3, v4, v5] s)) fun q6 => retK q6 (fun v7 s8 =>
  bindR (mv v7) fun v9 =>
  bindR (g1 (extractV v9 0)) fun v10 =>
  bindR (g1 (extractV v9 1)) fun v11 =>
  bindR (allocA tab 29 s8.n) fun q12 =>
  bindR (g3 (s8.push q12.2) (storeV tab (s8.push q12.2) 29 q12.1 v10)) fun s13 =>
  bindR (mv v11) fun v14 =>
  denK tab W V 183 c3_1_1_1_1_1_1_1_1_1_1_1_1 k (puts 183 T [(93, v0), (94, v1), (95, v2), (96, v3), (97, v4), (98, v5), (99, v7), (92, v9), (100, v10), (101, v11), (20, q12.1), (21, v14)]) s13) k.pan := by kernel_rfl
theorem ec3_1_1_1_1_1_1_1_1_1_1_1_1 {ρ : Type} (k : K ρ) (T : Rg) (s : St) : denK tab W V 183 c3_1_1_1_1_1_1_1_1_1_1_1_1 k T s =
  drawK tab W V 183 o3_1_1_1_1_1_1_1_1_1_1_1_1_0_0 (fun T s0 =>
  condR (T 125)
  (bindR (mv (boolV false)) fun v1 =>
  k.ret (puts 183 T [(8, v1)]) s0)
  (denK tab W V 183 c3_1_1_1_1_1_1_1_1_1_1_1_1_1 k T s0)) p3_1_1_1_1_1_1_1_1_1_1_1_1_0_0_0 [s] T s := by kernel_rfl
theorem ec3_1_1_1_1_1_1_1_1_1_1_1_1_1 {ρ : Type} (k : K ρ) (T : Rg) (s : St) : denK tab W V 183 c3_1_1_1_1_1_1_1_1_1_1_1_1_1 k T s =
  bindR (mv (intV .i64 0)) fun v0 =>
  bindR (mv (intV .i64 0)) fun v1 =>
  bindR (loopLim (dd tab W V 183 c3_1_1_1_1_1_1_1_1_1_1_1_1_1_1_0_1_0_0) (puts 183 T [(22, v0), (23, v1)]) s) (K.app (kblk 4 (kseq (denK tab W V 183 c3_1_1_1_1_1_1_1_1_1_1_1_1_1_1_1 k) k))) := by kernel_rfl
theorem ec3_1_1_1_1_1_1_1_1_1_1_1_1_1_1_0_1_0_0 {ρ : Type} (k : K ρ) (T : Rg) (s : St) : denK tab W V 183 c3_1_1_1_1_1_1_1_1_1_1_1_1_1_1_0_1_0_0 k T s =
  bindR (mv (T 23)) fun v0 =>
  bindR (g1 (fieldAddr tab 29 (T 9) 3)) fun v1 =>
  bindR (g1 (loadV tab s 24 v1)) fun v2 =>
  bindR (g1 (lenV tab 24 v2)) fun v3 =>
  bindR (g1 (Dt.binOp tab .lss 3 v0 v3 false)) fun v4 =>
  condR v4
  (bindR (mv (T 23)) fun v5 =>
  bindR (mv (T 18)) fun v6 =>
  bindR (g1 (Dt.binOp tab .eql 3 v5 v6 false)) fun v7 =>
  condR v7
  (denK tab W V 183 c3_1_1_1_1_1_1_1_1_1_1_1_1_1_1_0_1_0_0_1_1 k (puts 183 T [(126, v0), (127, v1), (128, v2), (129, v3), (130, v4), (133, v5), (134, v6), (135, v7)]) s)
  (bindR (fieldAddr tab 29 (T 20) 3) fun v8 =>
  bindR (loadV tab s 24 v8) fun v9 => bif (sameR (loadV tab s 24 v8) v9 && true) then
  bindR (.ok (T 22)) fun v10 =>
  bindR (indexAddr tab 24 v9 v10) fun v11 =>
  bindR (loadV tab s 71 v11) fun v12 => bif (sameR (loadV tab s 71 v11) v12 && true) then
  bindR (fieldAddr tab 29 (T 9) 3) fun v13 =>
  bindR (loadV tab s 24 v13) fun v14 => bif (sameR (loadV tab s 24 v13) v14 && true) then
  bindR (.ok (T 23)) fun v15 =>
  bindR (indexAddr tab 24 v14 v15) fun v16 =>
  bindR (loadV tab s 71 v16) fun v17 => bif (sameR (loadV tab s 71 v16) v17 && true) then
  bif ([(AV.func (.func 11) [] []), v12, v17].all fun x => bndA s.n x) then bindR (g2 s (W 11 [v12, v17] s)) fun q18 => retK q18 (fun v19 s20 =>
  bif Nat.ble s.n s20.n then bindR (Dt.unOp .not v19) fun v21 =>
  condR v21
  (bindR (mv (boolV false)) fun v22 =>
  k.ret (puts 183 T [(126, v0), (127, v1), (128, v2), (129, v3), (130, v4), (133, v5), (134, v6), (135, v7), (136, v8), (137, v9), (138, v10), (139, v11), (140, v12), (141, v13), (142, v14), (143, v15), (144, v16), (145, v17), (146, v19), (147, v21), (8, v22)]) s20)
  (bindR (mv (T 22)) fun v23 =>
  bindR (g1 (Dt.binOp tab .add 3 v23 (intV .i64 1) true)) fun v24 =>
  bindR (mv v24) fun v25 =>
  denK tab W V 183 c3_1_1_1_1_1_1_1_1_1_1_1_1_1_1_0_1_0_0_1_1 k (puts 183 T [(126, v0), (127, v1), (128, v2), (129, v3), (130, v4), (133, v5), (134, v6), (135, v7), (136, v8), (137, v9), (138, v10), (139, v11), (140, v12), (141, v13), (142, v14), (143, v15), (144, v16), (145, v17), (146, v19), (147, v21), (148, v23), (149, v24), (22, v25)]) s20) else .error "draw n") (fun _ _ => .error "panic in a drawn region") else .error "draw ids" else .error "unstable read" else .error "unstable read" else .error "unstable read" else .error "unstable read"))
  (k.exit 4 (puts 183 T [(126, v0), (127, v1), (128, v2), (129, v3), (130, v4)]) s) := by kernel_rfl
theorem ec3_1_1_1_1_1_1_1_1_1_1_1_1_1_1_1 {ρ : Type} (k : K ρ) (T : Rg) (s : St) : denK tab W V 183 c3_1_1_1_1_1_1_1_1_1_1_1_1_1_1_1 k T s =
  bindR (.ok (T 2)) fun v0 =>
  bif ([(AV.func (.func 7) [] []), v0, (intV .i64 8)].all fun x => bndA s.n x) then bindR (g2 s (W 7 [v0, (intV .i64 8)] s)) fun q1 => retK q1 (fun v2 s3 =>
  bif Nat.ble s.n s3.n then bindR (loadV tab s3 33 (T 10)) fun v4 => bif (sameR (loadV tab s3 33 (T 10)) v4 && (sameR (loadV tab s 33 (T 10)) v4 && true)) then
  bindR (loadV tab s3 36 (T 11)) fun v5 => bif (sameR (loadV tab s3 36 (T 11)) v5 && (sameR (loadV tab s 36 (T 11)) v5 && true)) then
  bindR (loadV tab s3 29 (T 20)) fun v6 => bif (sameR (loadV tab s3 29 (T 20)) v6 && (sameR (loadV tab s 29 (T 20)) v6 && true)) then
  bindR (Dt.binOp tab .add 3 (intV .i64 1) v2 true) fun v7 =>
  bif ([(AV.func (.func 12) [] []), v4, v5, v6, v7].all fun x => bndA s3.n x) then bindR (g2 s3 (W 12 [v4, v5, v6, v7] s3)) fun q8 => retK q8 (fun v9 s10 =>
  bif Nat.ble s3.n s10.n then bindR (.ok v9) fun v11 =>
  bindR (extractV v11 0) fun v12 =>
  bindR (allocA tab 29 s10.n) fun q13 => bif bndO (s10.n + 1) q13.2 then
  bif ([q13.1, v12].all fun x => bndA (s10.push q13.2).n x) then bindR (g3 (s10.push q13.2) (storeV tab (s10.push q13.2) 29 q13.1 v12)) fun s14 =>
  bif Nat.ble (s10.push q13.2).n s14.n then bindR (extractV v11 1) fun v15 =>
  bindR (extractV v11 2) fun v16 =>
  bindR (.ok v15) fun v17 =>
  bindR (.ok v16) fun v18 =>
  bindR (mv v18) fun v19 =>
  bindR (g1 (Dt.binOp tab .neq 39 v19 (intV .i64 0) true)) fun v20 =>
  condR v20
  (bindR (mv (boolV false)) fun v21 =>
  k.ret (puts 183 T [(154, v0), (155, v2), (151, v4), (152, v5), (153, v6), (156, v7), (157, v9), (150, v11), (158, v12), (24, q13.1), (159, v15), (160, v16), (25, v17), (21, v18), (161, v19), (162, v20), (8, v21)]) s14)
  (bindR (g1 (loadV tab s14 33 (T 10))) fun v22 =>
  bindR (g1 (loadV tab s14 36 (T 11))) fun v23 =>
  bindR (g1 (loadV tab s14 29 q13.1)) fun v24 =>
  bindR (g2 s14 (W 12 [v22, v23, v24, (intV .i64 64)] s14)) fun q25 => retK q25 (fun v26 s27 =>
  bindR (mv v26) fun v28 =>
  bindR (g1 (extractV v28 0)) fun v29 =>
  bindR (g1 (extractV v28 1)) fun v30 =>
  bindR (g1 (extractV v28 2)) fun v31 =>
  bindR (allocA tab 29 s27.n) fun q32 =>
  bindR (g3 (s27.push q32.2) (storeV tab (s27.push q32.2) 29 q32.1 v29)) fun s33 =>
  bindR (mv v30) fun v34 =>
  bindR (mv v31) fun v35 =>
  bindR (mv v35) fun v36 =>
  bindR (g1 (Dt.binOp tab .eql 39 v36 (intV .i64 0) true)) fun v37 =>
  bindR (mv v37) fun v38 =>
  bindR (bif isBoolV v38 true then .ok v17 else .ok AV.undef) fun v39 =>
  bindR (bif isBoolV v38 true then .ok v34 else .ok AV.undef) fun v40 =>
  bindR (bif isBoolV v38 true then appendV tab s33 25 25 v39 v40 else .ok (AV.undef, s33)) fun q41 =>
  bindR (bif isBoolV v38 true then .ok (T 16) else .ok AV.undef) fun v42 =>
  bindR (bif isBoolV v38 true then W 13 [q41.1, v42] q41.2 else .ok (.ret AV.undef, q41.2)) fun q43 => retK q43 (fun v44 s45 =>
  bindR (g1 (pickV v38 v44 (boolV false))) fun v46 =>
  bindR (mv v46) fun v47 =>
  bindR (bif isBoolV v47 true then W 14 [] s45 else .ok (.ret AV.undef, s45)) fun q48 => retK q48 (fun v49 s50 =>
  bindR (g1 (pickV v47 v49 (boolV false))) fun v51 =>
  bindR (mv v51) fun v52 =>
  k.ret (puts 183 T [(154, v0), (155, v2), (151, v4), (152, v5), (153, v6), (156, v7), (157, v9), (150, v11), (158, v12), (24, q13.1), (159, v15), (160, v16), (25, v17), (21, v18), (161, v19), (162, v20), (164, v22), (165, v23), (166, v24), (167, v26), (163, v28), (168, v29), (169, v30), (170, v31), (26, q32.1), (27, v34), (21, v35), (171, v36), (172, v37), (173, v38), (174, v39), (175, v40), (176, q41.1), (177, v42), (178, v44), (179, v46), (180, v47), (181, v49), (182, v51), (8, v52)]) s50) k.pan) k.pan) k.pan) else .error "draw n" else .error "draw ids" else .error "draw object" else .error "draw n") (fun _ _ => .error "panic in a drawn region") else .error "draw ids" else .error "unstable read" else .error "unstable read" else .error "unstable read" else .error "draw n") (fun _ _ => .error "panic in a drawn region") else .error "draw ids" := by kernel_rfl
theorem ec3_1_1_1_1_1_1_1_1_1_1_1_1_1_1_0_1_0_0_1_1 {ρ : Type} (k : K ρ) (T : Rg) (s : St) : denK tab W V 183 c3_1_1_1_1_1_1_1_1_1_1_1_1_1_1_0_1_0_0_1_1 k T s =
  bindR (mv (T 23)) fun v0 =>
  bindR (g1 (Dt.binOp tab .add 3 v0 (intV .i64 1) true)) fun v1 =>
  bindR (mv v1) fun v2 =>
  k.nxt (puts 183 T [(131, v0), (132, v1), (23, v2)]) s := by kernel_rfl
theorem ec3 {ρ : Type} (k : K ρ) (a0 a1 a2 a3 : AV) (s : St) : denK tab W V 183 c3 k (argE [a0, a1, a2, a3]) s =
  bindR (mv (boolV false)) fun v0 =>
  bindR (g2 s (W 4 [] s)) fun q1 => retK q1 (fun v2 s3 =>
  bindR (allocA tab 29 s3.n) fun q4 =>
  bindR (g3 (s3.push q4.2) (storeV tab (s3.push q4.2) 29 q4.1 v2)) fun s5 =>
  bindR (g2 s5 (W 5 [] s5)) fun q6 => retK q6 (fun v7 s8 =>
  bindR (g2 s8 (W 6 [] s8)) fun q9 => retK q9 (fun v10 s11 =>
  bindR (allocA tab 33 s11.n) fun q12 =>
  bindR (allocA tab 36 (s11.push q12.2).n) fun q13 =>
  bindR (g3 ((s11.push q12.2).push q13.2) (storeV tab ((s11.push q12.2).push q13.2) 33 q12.1 v7)) fun s14 =>
  bindR (g3 s14 (storeV tab s14 36 q13.1 v10)) fun s15 =>
  denK tab W V 183 c3_1_1_1 k (puts 183 (argE [a0, a1, a2, a3]) [(8, v0), (28, v2), (9, q4.1), (29, v7), (30, v10), (10, q12.1), (11, q13.1)]) s15) k.pan) k.pan) k.pan := by kernel_rfl
theorem w3 {args : List AV} {s : St} {r : AEnd × St} (hl : args.length ≤ 183) (h : denK tab W V 183 c3 (kRet tab [.tmp 8]) (argE args) s = .ok r) : W 3 args s = .ok r :=
  callW_of (fn := Tryz.f3) (by kernel_rfl) (by kernel_rfl) (by kernel_rfl) (by kernel_rfl) (by kernel_rfl) hl h
theorem r3 (T : Rg) (s : St) : (kRet tab [.tmp 8]).ret T s = .ok (.ret (T 8), s) := eqBy rfl
end Go.Proofs.YtkpkmjanikkpoaaGreatDoor
namespace Go.Proofs.YtkpkmjanikkpoaaGreatDoor
open Go Go.Dt
set_option maxRecDepth 100000

theorem P4 {σ : St} (hM : σ.M = M0) : ∃ σ', W 4 [] σ = .ok (.ret (.agg [boolV true, intV .u64 1, intV .i64 0, nilS, intV .i64 2, nilS, intV .i64 0]), σ') ∧ Gw σ σ' := by
  obtain ⟨x, σ', h1, h2, h3⟩ := k4.call hM (xs := []) (lo := 0) (hi := 0) (by simp only [DpL])
  simp only [Dp, DpL, t0C, I, B, U, N] at h3
  obtain ⟨l, rfl, _, _, rfl, rfl, _, _, rfl, rfl, _, _, rfl, rfl, _, _, rfl, rfl, _, _, rfl, rfl, _, _, rfl, rfl, _, _, rfl, rfl, rfl⟩ := h3
  exact ⟨σ', h1, h2⟩
theorem P6 {σ : St} (hM : σ.M = M0) : ∃ σ', W 6 [] σ = .ok (.ret (.agg [intV .i64 1, intV .i64 4, intV .i64 9, intV .i64 2, intV .i64 0]), σ') ∧ Gw σ σ' := by
  obtain ⟨x, σ', h1, h2, h3⟩ := k6.call hM (xs := []) (lo := 0) (hi := 0) (by simp only [DpL])
  simp only [Dp, DpL, cfC, I] at h3
  obtain ⟨l, rfl, _, _, rfl, rfl, _, _, rfl, rfl, _, _, rfl, rfl, _, _, rfl, rfl, _, _, rfl, rfl, rfl⟩ := h3
  exact ⟨σ', h1, h2⟩
theorem P14 {σ : St} (hM : σ.M = M0) : ∃ σ', W 14 [] σ = .ok (.ret (boolV true), σ') ∧ Gw σ σ' := by
  obtain ⟨x, σ', h1, h2, h3⟩ := k14.call hM (xs := []) (lo := 0) (hi := 0) (by simp only [DpL])
  simp only [Dp, B] at h3
  subst h3
  exact ⟨σ', h1, h2⟩
theorem P5 {σ : St} (hM : σ.M = M0) : ∃ rv σ', W 5 [] σ = .ok (.ret (.agg (svC rv)), σ') ∧ Gw σ σ' ∧ Dp σ' σ.n σ'.n stS (.agg (svC rv)) := by
  obtain ⟨x, σ', h1, h2, h3⟩ := k5.call hM (xs := []) (lo := 0) (hi := 0) (by simp only [DpL])
  have h3' := h3
  rw [stS, Dp] at h3
  obtain ⟨l, rfl, h3⟩ := h3
  rw [DpL] at h3
  obtain ⟨rv, r, rfl, _, h3⟩ := h3
  simp only [Dp, DpL, U] at h3
  obtain ⟨_, _, rfl, rfl, _, _, rfl, rfl, _, _, rfl, rfl, rfl⟩ := h3
  exact ⟨rv, σ', h1, h2, h3'⟩
theorem P11 {j : Nat} {m : Int} (hq : okQ (j, m)) {σ : St} (hM : σ.M = M0) {lo hi lo' hi' : Nat} {r r' : List AV} (hr : DpL σ lo hi (x0 j m) r) (hr' : DpL σ lo' hi' (x0 j m) r') :
    ∃ σ', W 11 [.agg r, .agg r'] σ = .ok (.ret (boolV true), σ') ∧ Gw σ σ' := by
  obtain ⟨x, σ', h1, h2, h3⟩ := (k11 j m hq.1 hq.2.1 hq.2.2).call hM (xs := [.agg r, .agg r']) (lo := 0) (hi := max hi hi') (by
    simp only [DpL, Dp]
    exact ⟨_, _, rfl, ⟨r, rfl, DpL.mono (Nat.zero_le _) (Nat.le_max_left _ _) (fun _ _ _ _ => rfl) _ _ hr⟩, _, _, rfl, ⟨r', rfl, DpL.mono (Nat.zero_le _) (Nat.le_max_right _ _) (fun _ _ _ _ => rfl) _ _ hr'⟩, rfl⟩)
  simp only [Dp, B] at h3
  subst h3
  exact ⟨σ', h1, h2⟩
/-- a query is added -/
theorem P8 {j i : Nat} (hj : j < 6) (hi4 : i < 4) {σ : St} (hM : σ.M = M0) {hi : Nat} {rv : AV} (hS : StV σ hi rv) {lo hi' : Nat} {qv : AV} (hQ : Dp σ lo hi' (qT (chQ j i)) qv) :
    ∃ qv' σ', W 8 [.agg (svC rv), .agg cC, .agg (tenC (i : Int) qv nilS), str (txt ((j + i) % 6))] σ = .ok (.ret (.tuple [.agg (tenC ((i + 1 : Nat) : Int) qv' nilS), intV .i64 ((i + 1 : Nat) : Int), .agg [intV .i64 0, intV .i64 0]]), σ') ∧ Gw σ σ' ∧ Dp σ' σ.n σ'.n (qT (chQ j (i + 1))) qv' := by
  obtain ⟨x, σ', h1, h2, h3⟩ := (k8 j i hj hi4).call hM (xs := [.agg (svC rv), .agg cC, .agg (tenC (i : Int) qv nilS), str (txt ((j + i) % 6))]) (lo := 0) (hi := max hi hi') (by
    rw [DpL]
    refine ⟨_, _, rfl, Dp.mono (Nat.le_refl _) (Nat.le_max_left _ _) (fun _ _ _ _ => rfl) _ _ hS.is, ?_⟩
    have hQ' : Dp σ 0 (max hi hi') (qT (chQ j i)) qv := Dp.mono (Nat.zero_le _) (Nat.le_max_right _ _) (fun _ _ _ _ => rfl) _ _ hQ
    simp only [DpL, Dp, cf8, tT, I, U, B, N, Z]
    exact ⟨_, _, rfl, ⟨_, rfl, _, _, rfl, rfl, _, _, rfl, rfl, _, _, rfl, rfl, _, _, rfl, rfl, _, _, rfl, rfl, rfl⟩, _, _, rfl, ⟨_, rfl, _, _, rfl, rfl, _, _, rfl, rfl, _, _, rfl, rfl, _, _, rfl, hQ', _, _, rfl, rfl, _, _, rfl, rfl, _, _, rfl, rfl, rfl⟩, _, _, rfl, rfl, rfl⟩)
  simp only [Dp, DpL, tT, I, B, U, N] at h3
  obtain ⟨l, rfl, x1, r1, rfl, ⟨l1, rfl, _, _, rfl, rfl, _, _, rfl, rfl, _, _, rfl, rfl, qv', _, rfl, hq, _, _, rfl, rfl, _, _, rfl, rfl, _, _, rfl, rfl, rfl⟩, x2, r2, rfl, rfl, x3, r3, rfl, ⟨l3, rfl, _, _, rfl, rfl, _, _, rfl, rfl, rfl⟩, rfl⟩ := h3
  exact ⟨qv', σ', h1, h2, hq⟩

/-- the numbers that are handed in -/
structure Nums (σ : St) (b3 : Nat) (nv : AV) (ns : List Int) : Prop where
  is : ((∃ a cap, nv = .base (.slice a 0 cap)) ∧ ns = []) ∨ ∃ bn cap e ow, nv = .slice bn 0 ns.length cap 1 ∧ bn < b3 ∧ At σ bn (.cells (ns.map fun n => intV .i64 n) e ow 1)
theorem sl22 : sliceB 22 = true := by kernel_rfl
theorem len22 (a : Option Addr) (cap : Nat) : lenV tab 22 (.base (.slice a 0 cap)) = .ok (intV .i64 0) := by kernel_rfl
theorem el22 : elemB 22 3 1 = true := by kernel_rfl
theorem Nums.lenV {σ : St} {b3 : Nat} {nv : AV} {ns : List Int} (h : Nums σ b3 nv ns) : lenV tab 22 nv = .ok (intV .i64 (ns.length : Int)) := by
  rcases h.is with ⟨⟨a, cap, rfl⟩, rfl⟩ | ⟨bn, cap, e, ow, rfl, _, _⟩
  · exact len22 a cap
  · exact len_sl sl22
theorem Nums.get {σ : St} {b3 : Nat} {nv : AV} {ns : List Int} (h : Nums σ b3 nv ns) {i : Nat} {n : Int} (hi : ns[i]? = some n) : ∃ p, indexAddr tab 22 nv (intV .i64 (i : Int)) = .ok p ∧ loadV tab σ 3 p = .ok (intV .i64 n) := by
  have hl := (List.getElem?_eq_some_iff.1 hi).1
  rcases h.is with ⟨⟨a, cap, rfl⟩, rfl⟩ | ⟨bn, cap, e, ow, rfl, _, hA⟩
  · simp at hi
  · refine ⟨.ptr bn (i * 1), ixA0 el22 hl, ?_⟩
    rw [Nat.mul_one]
    exact ld l3 hA (by rw [List.getElem?_map, hi]; rfl)
theorem Nums.up {lo : Nat} {σ σ' : St} {b3 : Nat} {nv : AV} {ns : List Int} (h : Nums σ b3 nv ns) (u : Up lo σ σ') (hl : b3 ≤ lo) : Nums σ' b3 nv ns := by
  rcases h.is with h | ⟨bn, cap, e, ow, h1, h2, h3⟩
  · exact ⟨.inl h⟩
  · exact ⟨.inr ⟨bn, cap, e, ow, h1, h2, h3.up u (by omega)⟩⟩

/-- what the law keeps -/
structure Inv (σ : St) (b9 b10 : Nat) (rv nv : AV) (ns : List Int) (had : Int) (qv : AV) : Prop where
  wf : WF σ
  M : σ.M = M0
  a9 : At σ b9 (.cells (tenC had qv nilS) 29 true 7)
  a10 : At σ b10 (.cells (svC rv) 33 true 4)
  a11 : At σ (b10 + 1) (.cells cC 36 true 5)
  lt : b9 < b10
  st : Dp σ (b9 + 1) b10 stS (.agg (svC rv))
  nm : Nums σ b9 nv ns
theorem bC : beqA (.agg cC) (.agg cC) = true := by simp [cC, beqA, beqL, intV, beqBase]
theorem nC (n : Nat) : bndA n (.agg cC) = true := rfl
theorem ten_b {had : Int} {v it : AV} (h1 : beqA v v = true) (h2 : beqA it it = true) : beqA (.agg (tenC had v it)) (.agg (tenC had v it)) = true := by
  simp [tenC, beqA, beqL, h1, h2, boolV, intV, beqBase]
theorem ten_n {had : Int} {v it : AV} {n : Nat} (h1 : bndA n v = true) (h2 : bndA n it = true) : bndA n (.agg (tenC had v it)) = true := by
  show (true && (true && (true && (bndA n v && (true && (bndA n it && (true && true))))))) = true
  rw [h1, h2]; rfl
section
variable {σ σ' : St} {b9 b10 : Nat} {rv nv : AV} {ns : List Int} {had : Int} {qv : AV}
theorem Inv.up {lo : Nat} (h : Inv σ b9 b10 rv nv ns had qv) (u : Up lo σ σ') (hl : b10 + 2 ≤ lo) : Inv σ' b9 b10 rv nv ns had qv := by
  have := h.lt
  exact ⟨u.len h.wf, u.M.trans h.M, h.a9.up u (by omega), h.a10.up u (by omega), h.a11.up u (by omega), h.lt, Dp.mono (Nat.le_refl _) (Nat.le_refl _) (fun b _ hb hg => u.old b (getO_gone hg) (by omega)) _ _ h.st, h.nm.up u (by omega)⟩
theorem Inv.n2 (h : Inv σ b9 b10 rv nv ns had qv) : b10 + 2 ≤ σ.n := h.a11.1
theorem Inv.gw (h : Inv σ b9 b10 rv nv ns had qv) (g : Gw σ σ') : Inv σ' b9 b10 rv nv ns had qv := h.up (g.up σ.n) h.n2
theorem Inv.sv (h : Inv σ b9 b10 rv nv ns had qv) : StV σ σ.n rv := ⟨Dp.mono (Nat.zero_le _) (Nat.le_of_lt h.a10.1) (fun _ _ _ _ => rfl) _ _ h.st⟩
theorem Inv.l9 (h : Inv σ b9 b10 rv nv ns had qv) : loadV tab σ 29 (.ptr b9 0) = .ok (.agg (tenC had qv nilS)) := lda a29 h.a9 rfl rfl
theorem Inv.lq (h : Inv σ b9 b10 rv nv ns had qv) : loadV tab σ 24 (.ptr b9 3) = .ok qv := ld l24 h.a9 rfl
theorem Inv.l10 (h : Inv σ b9 b10 rv nv ns had qv) : loadV tab σ 33 (.ptr b10 0) = .ok (.agg (svC rv)) := lda a33 h.a10 rfl rfl
theorem Inv.l11 (h : Inv σ b9 b10 rv nv ns had qv) : loadV tab σ 36 (.ptr (b10 + 1) 0) = .ok (.agg cC) := lda a41 h.a11 rfl rfl
theorem Inv.rvc (h : Inv σ b9 b10 rv nv ns had qv) : AV.oneCell rv = true ∧ beqA rv rv = true ∧ ∀ n, b10 ≤ n → bndA n rv = true := by
  have h3 := h.st
  rw [stS, Dp] at h3
  obtain ⟨l, hl, h3⟩ := h3
  cases hl
  rw [svC, DpL] at h3
  obtain ⟨x, r, hx, h3, _⟩ := h3
  cases hx
  exact h3.cell rfl
theorem Inv.bS (h : Inv σ b9 b10 rv nv ns had qv) : beqA (.agg (svC rv)) (.agg (svC rv)) = true ∧ ∀ n, σ.n ≤ n → bndA n (.agg (svC rv)) = true := by
  have c := h.rvc
  have h4 := h.a10.1
  refine ⟨by simp [svC, beqA, beqL, c.2.1, intV, beqBase], fun n hn => ?_⟩
  show (bndA n rv && (true && (true && (true && true)))) = true
  rw [c.2.2 n (by omega)]; rfl
end
structure RgA (T : Rg) (a0 a1 a2 nv : AV) (b9 b10 : Nat) : Prop where
  t0 : T 0 = a0
  t1 : T 1 = a1
  t2 : T 2 = a2
  t3 : T 3 = nv
  t9 : T 9 = .ptr b9 0
  t10 : T 10 = .ptr b10 0
  t11 : T 11 = .ptr (b10 + 1) 0
theorem qT_pl (qs : List (Nat × Int)) : plT (qT qs) = true := by cases qs <;> rfl
theorem tdiv_b (n : Int) : n = n.tmod 4 + 4 * n.tdiv 4 ∧ -4 < n.tmod 4 ∧ n.tmod 4 < 4 := by
  have h3 := Int.tmod_add_mul_tdiv n 4
  have e1 := Int.tmod_lt_of_pos n (show (0 : Int) < 4 by omega)
  have e2 : -4 < n.tmod 4 := by
    rcases Int.le_total 0 n with h | h
    · have := Int.tmod_nonneg 4 h; omega
    · obtain ⟨k, hk⟩ : ∃ k, n = -k := ⟨-n, by omega⟩
      subst hk
      rw [Int.neg_tmod]
      have := Int.tmod_lt_of_pos k (show (0 : Int) < 4 by omega)
      omega
  exact ⟨h3.symm, e2, e1⟩
theorem alloc41 (n : Nat) : allocA tab 41 n = .ok (.ptr n 0, .cells [intV .i64 0, intV .i64 0] 41 true 2) := by kernel_rfl
theorem fa41_0 (b o : Nat) : fieldAddr tab 41 (.ptr b o) 0 = .ok (.ptr b o) := by kernel_rfl
theorem bz29 (n : Nat) : bndO n (.cells z29 29 true 7) = true := rfl
theorem bz41 (n : Nat) : bndO n (.cells [intV .i64 0, intV .i64 0] 41 true 2) = true := rfl

/-- queries are added -/
theorem loopA {n : Int} (hn1 : -9223372036854775808 ≤ n) (hn2 : n < 9223372036854775808) {j0 : Nat} (hj0 : j0 < 6) (hj : (n.tdiv 4) % 6 = (j0 : Int)) {N : Nat} (hN : (N : Int) = 1 + n % 4) {a1 a2 nv rv : AV} {ns : List Int} {b9 b10 : Nat} :
    ∀ (m i : Nat), i + m = N → ∀ (T : Rg) (S : St) (qv : AV), Inv S b9 b10 rv nv ns (i : Int) qv → Dp S (b10 + 2) S.n (qT (chQ j0 i)) qv → RgA T (intV .i64 n) a1 a2 nv b9 b10 → T 12 = intV .i64 (i : Int) →
    ∃ T' S' qv', loopLim (dd tab W V 183 c3_1_1_1_1_1_0_1_0_0) T S = .ok (.exit 0 T' S') ∧ Inv S' b9 b10 rv nv ns (N : Int) qv' ∧ Dp S' (b10 + 2) S'.n (qT (chQ j0 N)) qv' ∧ RgA T' (intV .i64 n) a1 a2 nv b9 b10 ∧ Up b9 S S' := by
  have hm0 := Int.emod_nonneg n (b := 4) (by omega)
  have hm4 := Int.emod_lt_of_pos n (b := 4) (by omega)
  have wN : IntKind.i64.wrap (1 + n % 4) = (N : Int) := by rw [wrapI (by omega) (by omega)]; omega
  intro m
  induction m with
  | zero =>
    intro i hm T S qv I hQ R t12
    have w7 := W7 n 4 (by omega) (by omega) S
    have e := ec3_1_1_1_1_1_0_1_0_0 kOc T S
    have d1 : decide ((i : Int) < (N : Int)) = false := by simp; omega
    simp (decide := true) only [mv_eq, g1_eq, g2_eq, g3_eq, bindR_val, retK_ret, condR_boolV, condF, binOp_int, intOp_add, intOp_lss, kOc_nxt, kOc_ret, kOc_exit, R.t0, t12, w7, wN, d1] at e
    have : i = N := by omega
    subst this
    refine ⟨_, S, qv, loop_exit (dd_of tab W V 183 e), I, hQ, ?_, (Gw.refl S).up _⟩
    constructor <;> simp (decide := true) only [puts_cons, puts_nil, putE_ne, R.t0, R.t1, R.t2, R.t3, R.t9, R.t10, R.t11]
  | succ m ih =>
    intro i hm T S qv I hQ R t12
    have hi4 : i < 4 := by omega
    have w7 := W7 n 4 (by omega) (by omega) S
    have d1 : decide ((i : Int) < (N : Int)) = true := by simp; omega
    obtain ⟨q1, q2, q3⟩ := tdiv_b n
    have wq : IntKind.i64.wrap (n.tdiv 4) = n.tdiv 4 := wrapI (by omega) (by omega)
    have wa : IntKind.i64.wrap (n.tdiv 4 + (i : Int)) = n.tdiv 4 + (i : Int) := wrapI (by omega) (by omega)
    have hq := intOp_quo .i64 n 4 (by omega)
    obtain ⟨s13, p9, g1⟩ := W9 (n.tdiv 4 + (i : Int)) ((j0 + i) % 6) (by omega) (by omega) S
    have I1 := I.gw g1
    have n1 := g1.n
    have hQc := hQ.cell (qT_pl _)
    obtain ⟨qv', s19, p8, g2, D2⟩ := P8 hj0 hi4 I1.M I1.sv (hQ.gw g1)
    have I2 := I1.gw g2
    have n2 := g2.n
    have hQc' := D2.cell (qT_pl _)
    obtain ⟨S2, hS2⟩ : ∃ S2, S2 = (s19.push (.cells z29 29 true 7)).push (.cells [intV .i64 0, intV .i64 0] 41 true 2) := ⟨_, rfl⟩
    have A2 : At S2 s19.n (.cells z29 29 true 7) := by rw [hS2]; exact (At.new _ _).push _
    have B2 : At S2 (s19.n + 1) (.cells [intV .i64 0, intV .i64 0] 41 true 2) := by rw [hS2]; exact At.new _ _
    have gS2 : Gw s19 S2 := by rw [hS2]; exact (Gw.push _ _).trans (Gw.push _ _)
    have nS2 : S2.n = s19.n + 2 := by rw [hS2]; rfl
    have one : (tenC ((i + 1 : Nat) : Int) qv' nilS).all AV.oneCell = true := tenC_one hQc'.1 rfl
    obtain ⟨S3, hS3⟩ : ∃ S3, S3 = S2.set s19.n (.cells (tenC ((i + 1 : Nat) : Int) qv' nilS) 29 true 7) := ⟨_, rfl⟩
    have st3 : storeV tab S2 29 (.ptr s19.n 0) (.agg (tenC ((i + 1 : Nat) : Int) qv' nilS)) = .ok S3 := by rw [hS3]; exact st29 A2 rfl rfl one
    have hw2 := gS2.len I2.wf
    have A3 : At S3 s19.n (.cells (tenC ((i + 1 : Nat) : Int) qv' nilS) 29 true 7) := by rw [hS3]; exact A2.set_same hw2 _
    have B3 : At S3 (s19.n + 1) (.cells [intV .i64 0, intV .i64 0] 41 true 2) := by rw [hS3]; exact B2.set_ne A2.1 (by omega) _
    have U3 : Up s19.n S2 S3 := by rw [hS3]; exact Up.set (Nat.le_refl _) A2.1 _
    have n3 : S3.n = S2.n := by rw [hS3]; rfl
    obtain ⟨S4, hS4⟩ : ∃ S4, S4 = S3.set (s19.n + 1) (.cells [intV .i64 0, intV .i64 0] 41 true 2) := ⟨_, rfl⟩
    have st4 : storeV tab S3 41 (.ptr (s19.n + 1) 0) (.agg [intV .i64 0, intV .i64 0]) = .ok S4 := by
      rw [hS4]
      exact stv (o := 0) (x := .agg [intV .i64 0, intV .i64 0]) s70 B3 rfl (by omega) (Nat.le_refl _) rfl
    have hw3 := U3.len hw2
    have A4 : At S4 s19.n (.cells (tenC ((i + 1 : Nat) : Int) qv' nilS) 29 true 7) := by rw [hS4]; exact A3.set_ne B3.1 (by omega) _
    have B4 : At S4 (s19.n + 1) (.cells [intV .i64 0, intV .i64 0] 41 true 2) := by rw [hS4]; exact B3.set_same hw3 _
    have U4 : Up s19.n S3 S4 := by rw [hS4]; exact Up.set (by omega) B3.1 _
    have n4 : S4.n = S3.n := by rw [hS4]; rfl
    have U24 : Up s19.n s19 S4 := ((gS2.up _).trans U3).trans U4
    have I4 := I2.up U24 I2.n2
    have le4 : loadV tab S4 39 (.ptr (s19.n + 1) 0) = .ok (intV .i64 0) := ld l37 B4 rfl
    have lt4 : loadV tab S4 29 (.ptr s19.n 0) = .ok (.agg (tenC ((i + 1 : Nat) : Int) qv' nilS)) := lda a29 A4 rfl rfl
    obtain ⟨S5, hS5⟩ : ∃ S5, S5 = S4.set b9 (.cells (tenC ((i + 1 : Nat) : Int) qv' nilS) 29 true 7) := ⟨_, rfl⟩
    have st5 : storeV tab S4 29 (.ptr b9 0) (.agg (tenC ((i + 1 : Nat) : Int) qv' nilS)) = .ok S5 := by rw [hS5]; exact st29 I4.a9 rfl rfl one
    have hlt := I.lt
    have hb2 := I.n2
    have U5 : Up b9 S4 S5 := by rw [hS5]; exact Up.set (Nat.le_refl _) I4.a9.1 _
    have n5 : S5.n = S4.n := by rw [hS5]; rfl
    have U05 : Up b9 S S5 := (((g1.trans g2).up b9).trans (U24.le (by omega))).trans U5
    have I5 : Inv S5 b9 b10 rv nv ns ((i + 1 : Nat) : Int) qv' := by
      refine ⟨U5.len I4.wf, U5.M.trans I4.M, ?_, ?_, ?_, I.lt, ?_, I4.nm.up U5 (Nat.le_refl _)⟩
      · rw [hS5]; exact I4.a9.set_same I4.wf _
      · rw [hS5]; exact I4.a10.set_ne I4.a9.1 (by omega) _
      · rw [hS5]; exact I4.a11.set_ne I4.a9.1 (by omega) _
      · exact Dp.mono (Nat.le_refl _) (Nat.le_refl _) (fun b hb1 _ _ => by rw [hS5, getO_set_other I4.a9.1 (by omega)]) _ _ I4.st
    have Q5 : Dp S5 (b10 + 2) S5.n (qT (chQ j0 (i + 1))) qv' := by
      refine Dp.mono (by omega) (by omega) (fun b hb1 hb2' hg => ?_) _ _ D2
      rw [hS5, getO_set_other I4.a9.1 (by omega)]
      exact U24.old b (getO_gone hg) hb2'
    have e := ec3_1_1_1_1_1_0_1_0_0 kOc T S
    have b1 : bndA S.n (.func (.func 9) [] []) = true := rfl
    have b2 : bndA S.n (intV .i64 (n.tdiv 4 + (i : Int))) = true := rfl
    have b3 : bndA s13.n (.func (.func 8) [] []) = true := rfl
    have b4 : bndA s13.n (str (txt ((j0 + i) % 6))) = true := rfl
    have b5 := ten_b (had := (i : Int)) (v := qv) (it := nilS) hQc.2.1 (by simp [nilS, beqA, beqBase])
    have b6 : bndA s13.n (.agg (tenC (i : Int) qv nilS)) = true := ten_n (hQc.2.2 _ n1) rfl
    have b7 : bndA (s19.n + 1 + 1) (.ptr s19.n 0) = true := by
      show Nat.blt s19.n (s19.n + 1 + 1) = true
      rw [blt_eq]; simp; omega
    have b8 : bndA (s19.n + 1 + 1) (.agg (tenC ((i + 1 : Nat) : Int) qv' nilS)) = true := ten_n (hQc'.2.2 _ (by omega)) rfl
    have b9' : bndA S3.n (.ptr (s19.n + 1) 0) = true := by
      show Nat.blt (s19.n + 1) S3.n = true
      rw [blt_eq]; simp; omega
    have b10' : bndA S3.n (.agg [intV .i64 0, intV .i64 0]) = true := rfl
    have y1 : Nat.ble S.n s13.n = true := Nat.ble_eq_true_of_le n1
    have y2 : Nat.ble s13.n s19.n = true := Nat.ble_eq_true_of_le n2
    have y3 : Nat.ble (s19.n + 1 + 1) S3.n = true := Nat.ble_eq_true_of_le (by omega)
    have y4 : Nat.ble S3.n S4.n = true := Nat.ble_eq_true_of_le (by omega)
    have d0 : ((0 : Int) != 0) = false := rfl
    have w1 : IntKind.i64.wrap ((i : Int) + 1) = ((i + 1 : Nat) : Int) := by rw [wrapI (by omega) (by omega)]; omega
    simp (decide := true) only [mv_eq, g1_eq, g2_eq, g3_eq, bindR_val, retK_ret, condR_boolV, condT, condF, binOp_int, intOp_add, intOp_neq, intOp_lss, kOc_nxt, kOc_ret, kOc_exit, extractV_0, extractV_1, extractV_2, R.t0, R.t9, R.t10, R.t11, t12, w7, wN, d1, hq, wq, wa, List.all_cons, List.all_nil, Bool.and_true, Bool.and_self, b1, b2, p9, y1, I1.l10, I.l10, I1.l11, I.l11, I1.l9, I.l9, sameR, I.bS.1, bC, b5, b3, I1.bS.2 _ (Nat.le_refl _), nC, b6, b4, p8, y2, alloc29, alloc41, bz29, bz41, push_n, ← hS2, b7, b8, st3, y3, b9', b10', st4, y4, fa41_0, le4, d0, lt4, st5, w1] at e
    obtain ⟨T1, e1, R1, k12⟩ : ∃ T1, denK tab W V 183 c3_1_1_1_1_1_0_1_0_0 kOc T S = .ok (.nxt T1 S5) ∧ RgA T1 (intV .i64 n) a1 a2 nv b9 b10 ∧ T1 12 = intV .i64 ((i + 1 : Nat) : Int) := by
      refine ⟨_, e, ?_, ?_⟩
      · constructor <;> simp (decide := true) only [puts_cons, puts_nil, putE_ne, R.t0, R.t1, R.t2, R.t3, R.t9, R.t10, R.t11]
      · simp (decide := true) only [puts_cons, puts_nil, putE_same]
    obtain ⟨T', S', qv2, z1, z2, z3, z4, z5⟩ := ih (i + 1) (by omega) T1 S5 qv' I5 Q5 R1 k12
    exact ⟨T', S', qv2, loop_next (dd_of tab W V 183 e1) z1, z2, z3, z4, U05.trans z5⟩
end Go.Proofs.YtkpkmjanikkpoaaGreatDoor
