/-
  A part of the proof. No statement of this seat stands here.
-/
import Derived.Test.YtkpkmjanikkpoaaGreatDoorP21
namespace Go.Proofs.YtkpkmjanikkpoaaGreatDoor
open Go Go.Dt
set_option maxRecDepth 100000

/-- items behind items -/
theorem appAll {s : St} (hw : WF s) {lo hi : Nat} {v x : AV} {cs ds : List Int} (h : IC s lo hi v cs) (hx : srcCells s 7 x = .ok (itR ds, ds.length)) (hlen : cs.length + ds.length < 1000) (hhi : hi ≤ s.n) (hlo : lo ≤ s.n) :
    ∃ v' s', appendV tab s 25 25 v x = .ok (v', s') ∧ IL s' lo s'.n v' (cs ++ ds) ∧ Up lo s s' := by
  by_cases h0 : ds = []
  · subst h0
    rw [List.append_nil]
    have hok := app25
    unfold appB at hok
    split at hok
    · rename_i e' s' i xd z h1 h2 h3 h4 h5
      simp only [Bool.and_eq_true, beq_iff_eq, decide_eq_true_eq, Bool.not_eq_true'] at hok
      obtain ⟨⟨⟨⟨rfl, rfl⟩, hb⟩, hx2⟩, hz⟩ := hok
      have hc : (!(decide (0 < 2 ^ 30) && decide (0 < i.bytes ∧ i.bytes < 2 ^ 14 ∧ 0 < 7) && !isIntD xd && z.cells.length == 7)) = false := by
        simp only [Bool.not_eq_false', Bool.and_eq_true, decide_eq_true_eq, beq_iff_eq, hx2, Bool.not_false, hz, and_true]
        exact ⟨by omega, hb⟩
      have hx' : srcCells s 7 x = .ok ([], 0) := hx
      rcases h.is with h | ⟨b, rfl, rfl, k2, k3, k4⟩
      · rcases h.is with ⟨rfl, rfl⟩ | ⟨b, rfl, k2, k3, k4⟩
        · refine ⟨nilS, s, ?_, ⟨.inl ⟨rfl, rfl⟩⟩, (Gw.refl s).up lo⟩
          simp only [appendV, h1, h2, h3, h4, h5, hx', bindR_eq, bindR_val, hc, nilS, Bool.false_eq_true, if_false]
          rfl
        · have told : takeN (itR cs) 0 (cs.length * 7) = .ok (itR cs) := by
            unfold takeN
            rw [List.drop_zero, List.take_of_length_le (by rw [itR_len]; omega), if_pos (itR_len cs)]
          have c2 : (!(decide (cs.length + 0 < 2 ^ 30) && true)) = false := by simp; omega
          refine ⟨.slice s.n 0 (cs.length + 0) none 7, (s.set b .gone).push (.cells (itR cs ++ []) 48 true 7), ?_, ⟨.inr ⟨s.n, none, [], rfl, hlo, by rw [push_n, set_n]; omega, At.new _ _⟩⟩, (Up.set k2 k4.1 _).trans ((Gw.push _ _).up lo)⟩
          simp only [appendV, h1, h2, h3, h4, h5, hx', bindR_eq, bindR_val, hc, c2, cellsOf, k4.1, k4.2, if_true, told, beq_self_eq_true, Bool.and_self, Bool.not_true, Nat.zero_mod, Bool.true_and, Bool.false_eq_true, if_false, List.all_nil]
          rfl
      · exact ⟨_, s, appI0 k4 hx', ⟨.inr ⟨b, some 0, [], rfl, k2, k4.1, k4⟩⟩, (Gw.refl s).up lo⟩
    · cases hok
  · obtain ⟨b, s', q1, q2, q3, q4, q5, q6⟩ := appI hw h hx (by cases ds with | nil => exact (h0 rfl).elim | cons => simp) hlen hhi
    exact ⟨_, s', q1, ⟨.inr ⟨b, none, [], rfl, by omega, q3, by simpa using q5⟩⟩, q6⟩

/-- what is polled in two parts -/
theorem sEnd {n : Nat} (hn4 : n ≤ 4) {rv nv a0 a1 qv iv v' it' : AV} {mo : Int} {ns : List Int} {b9 b10 : Nat} {qs' : List (Nat × Int)} (hN : Numb (n : Int) qs') (hql : qs'.length ≤ 4) {cs : List Int} (hok : ∀ c ∈ cs, okC c) (hcl : cs.length ≤ 8) {p b19 b20 : Nat}
    {T : Rg} {S : St} (I : Inv S b9 b10 rv nv ns (n : Int) qv) (R : RgA T a0 a1 (intV .i64 mo) nv b9 b10) (P : RgP T iv p b19 b20) (A20 : At S b20 (.cells (tenC (n : Int) v' it') 29 true 7)) (hV : QL x0 S 0 S.n v' qs') (hI' : IL S 0 S.n it' cs) (hI : IL S 0 S.n iv cs) :
    ∃ S', denK tab W V 183 c3_1_1_1_1_1_1_1_1_1_1_1_1_1_1_1 (kRet tab [.tmp 8]) T S = .ok (.ret (boolV true), S') ∧ Gw S S' := by
  have hk0 := Int.emod_nonneg mo (b := 8) (by omega)
  have hk1 := Int.emod_lt_of_pos mo (b := 8) (by omega)
  have w7 := W7 mo 8 (by omega) (by omega) S
  obtain ⟨mm, hmm⟩ : ∃ mm, mm = 1 + mo % 8 := ⟨_, rfl⟩
  have wm : IntKind.i64.wrap (1 + mo % 8) = mm := by rw [hmm, wrapI (by omega) (by omega)]
  obtain ⟨n1, hn1⟩ : ∃ n1 : Nat, (n1 : Int) = min mm (cs.length : Int) := ⟨(min mm (cs.length : Int)).toNat, by omega⟩
  obtain ⟨out1, v1, it1, s10, p10, g10, V10, O10, I10⟩ := W12 (n : Int) (by omega) (by omega) rv v' it' qs' hN hql hok hcl (by omega) (by omega) n1 hn1 S I.wf I.M I.sv hV hI'
  have J10 := I.gw g10
  have n10 := g10.n
  have vc := V10.cell
  have ic := I10.il.cell
  have oc := O10.il.cell
  have hvc := hV.cell
  have hic := hI'.cell
  have l20 : loadV tab S 29 (.ptr b20 0) = .ok (.agg (tenC (n : Int) v' it')) := lda a29 A20 rfl rfl
  obtain ⟨s14, e14, A14, g14, n14⟩ := box29s (g10.len I.wf) (l := tenC (n : Int) v1 it1) rfl (tenC_one vc.1 ic.1)
  have G14 := g10.trans g14
  have J14 := I.gw G14
  have l24' : loadV tab s14 29 (.ptr s10.n 0) = .ok (.agg (tenC (n : Int) v1 it1)) := lda a29 A14 rfl rfl
  have hld : (cs.drop n1).length = cs.length - n1 := List.length_drop
  obtain ⟨out2, v2, it2, s27, p27, g27, V27, O27, I27⟩ := W12 (n : Int) (by omega) (by omega) rv v1 it1 qs' hN hql (cs := cs.drop n1) (fun c hc => hok c (List.mem_of_mem_drop hc)) (by omega) (most := 64) (by omega) (by omega) (cs.drop n1).length (by omega) s14 J14.wf J14.M J14.sv
    ((V10.gw g14).mono (Nat.zero_le _) g14.n (Nat.le_refl _) (fun _ _ _ _ => rfl)) ((I10.il.gw g14).le (Nat.zero_le _) g14.n)
  have n27 := g27.n
  have G27 := G14.trans g27
  have vc2 := V27.cell
  have ic2 := I27.il.cell
  obtain ⟨s33, e33, A33, g33, n33⟩ := box29s (G27.len I.wf) (l := tenC (n : Int) v2 it2) rfl (tenC_one vc2.1 ic2.1)
  have G33 := G27.trans g33
  have O1 := ((O10.gw g14).gw g27).gw g33
  have O2 := O27.il.gw g33
  rw [List.take_of_length_le (Nat.le_refl _)] at O2
  have hlt : (cs.take n1).length = n1 := by rw [List.length_take]; omega
  obtain ⟨nw, s41, e41, L41, U41⟩ := appAll (G33.len I.wf) O1 (x := out2) (ds := cs.drop n1) O2.src (by omega) (by omega) (by omega)
  rw [List.take_append_drop] at L41
  have g41 : Gw S s41 := ((G33.up S.n).trans U41).gw (Nat.le_refl _)
  obtain ⟨s45, p45, g45⟩ := W13 hok (by omega) (g41.len I.wf) (g41.M.trans I.M) L41 (hI.gw g41)
  have G45 := g41.trans g45
  obtain ⟨s50, p50, g50⟩ := P14 (G45.M.trans I.M)
  refine ⟨s50, ?_, G45.trans g50⟩
  have e := ec3_1_1_1_1_1_1_1_1_1_1_1_1_1_1_1 (kRet tab [.tmp 8]) T S
  have d0 : ((0 : Int) != 0) = false := rfl
  have d1 : ((0 : Int) == 0) = true := rfl
  have b0 : bndA S.n (.func (.func 7) [] []) = true := rfl
  have b1 : bndA S.n (intV .i64 mo) = true := rfl
  have b2 : bndA S.n (intV .i64 8) = true := rfl
  have b3 : bndA S.n (.func (.func 12) [] []) = true := rfl
  have b4 : bndA S.n (intV .i64 mm) = true := rfl
  have b5 := ten_b (had := (n : Int)) (v := v') (it := it') hvc.2.1 hic.2.1
  have b6 : bndA S.n (.agg (tenC (n : Int) v' it')) = true := ten_n (hvc.2.2.1 _ (Nat.le_refl _)) (hic.2.2.1 _ (Nat.le_refl _))
  have b7 : bndA (s10.n + 1) (.ptr s10.n 0) = true := by
    show Nat.blt s10.n (s10.n + 1) = true
    rw [blt_eq]; simp
  have b8 : bndA (s10.n + 1) (.agg (tenC (n : Int) v1 it1)) = true := ten_n (vc.2.2.1 _ (by omega)) (ic.2.2.1 _ (by omega))
  have y0 : Nat.ble S.n S.n = true := Nat.ble_eq_true_of_le (Nat.le_refl _)
  have y1 : Nat.ble S.n s10.n = true := Nat.ble_eq_true_of_le n10
  have y2 : Nat.ble (s10.n + 1) s14.n = true := Nat.ble_eq_true_of_le (by omega)
  simp (decide := true) only [mv_eq, g1_eq, g2_eq, g3_eq, bindR_val, retK_ret, condR_boolV, condT, condF, isBoolV_t, pickV_boolV, binOp_int, intOp_add, intOp_eql, intOp_neq, extractV_0, extractV_1, extractV_2, R.t2, R.t10, R.t11, P.t16, P.t20, List.all_cons, List.all_nil, Bool.and_true, Bool.and_self, b0, b1, b2, w7, y0, I.l10, I.l11, l20, sameR, I.bS.1, bC, b5, wm, b3, I.bS.2 _ (Nat.le_refl _), nC, b6, b4, p10, y1, alloc29, bz29, push_n, b7, b8, e14, y2, d0, d1, J14.l10, J14.l11, l24', p27, e33, e41, p45, p50, r3, puts_cons, puts_nil, putE_same] at e
  exact e

def z33 : List AV := [nilS, intV .u64 0, intV .u64 0, intV .u64 0]
def z36 : List AV := [intV .i64 0, intV .i64 0, intV .i64 0, intV .i64 0, intV .i64 0]
theorem alloc33 (n : Nat) : allocA tab 33 n = .ok (.ptr n 0, .cells z33 33 true 4) := by kernel_rfl
theorem alloc36 (n : Nat) : allocA tab 36 n = .ok (.ptr n 0, .cells z36 36 true 5) := by kernel_rfl
theorem s33 : sizeB 33 4 = true := by kernel_rfl
theorem s36 : sizeB 36 5 = true := by kernel_rfl
theorem Nums.mono {σ σ' : St} {b b' : Nat} {nv : AV} {ns : List Int} (h : Nums σ b nv ns) (g : Gw σ σ') (hb : b ≤ b') : Nums σ' b' nv ns := by
  rcases h.is with h | ⟨bn, cap, e, ow, h1, h2, h3⟩
  · exact ⟨.inl h⟩
  · exact ⟨.inr ⟨bn, cap, e, ow, h1, by omega, h3.gw g⟩⟩

/-- the law says true -/
theorem law3 {σ : St} {n pl mo : Int} (hn1 : -9223372036854775808 ≤ n) (hn2 : n < 9223372036854775808) {nv : AV} {ns : List Int} (hw : WF σ) (hM : σ.M = M0) (hNm : Nums σ σ.n nv ns) : ∃ σ', W 3 [intV .i64 n, intV .i64 pl, intV .i64 mo, nv] σ = .ok (.ret (boolV true), σ') ∧ Gw σ σ' := by
  obtain ⟨s1, p1, g1⟩ := P4 hM
  obtain ⟨s5, e5, A5, g5, n5⟩ := box29s (g1.len hw) (l := [boolV true, intV .u64 1, intV .i64 0, nilS, intV .i64 2, nilS, intV .i64 0]) rfl rfl
  have G5 := g1.trans g5
  obtain ⟨rv, s8, p8, g8, d8⟩ := P5 (G5.M.trans hM)
  have G8 := G5.trans g8
  obtain ⟨s11, p11, g11⟩ := P6 (G8.M.trans hM)
  have G11 := G8.trans g11
  have m1 := g1.n
  have m8 := g8.n
  have m11 := g11.n
  have rvc : AV.oneCell rv = true := by
    have h3 := d8
    rw [stS, Dp] at h3
    obtain ⟨l, hl, h3⟩ := h3
    cases hl
    rw [svC, DpL] at h3
    obtain ⟨x, r, hx, h3, _⟩ := h3
    cases hx
    exact (h3.cell rfl).1
  have one : (svC rv).all AV.oneCell = true := by
    simp only [svC, List.all_cons, List.all_nil, Bool.and_true, rvc]; rfl
  obtain ⟨S2, hS2⟩ : ∃ S2, S2 = (s11.push (.cells z33 33 true 4)).push (.cells z36 36 true 5) := ⟨_, rfl⟩
  have gS2 : Gw s11 S2 := by rw [hS2]; exact (Gw.push _ _).trans (Gw.push _ _)
  have hw2 : WF S2 := (G11.trans gS2).len hw
  have A2 : At S2 s11.n (.cells z33 33 true 4) := by rw [hS2]; exact (At.new _ _).push _
  have B2 : At S2 (s11.n + 1) (.cells z36 36 true 5) := by rw [hS2]; exact At.new _ _
  have C2 := ((A5.gw g8).gw g11).gw gS2
  have D2 := (d8.gw g11).gw gS2
  have nS2 : S2.n = s11.n + 2 := by rw [hS2]; rfl
  obtain ⟨S3, hS3⟩ : ∃ S3, S3 = S2.set s11.n (.cells (svC rv) 33 true 4) := ⟨_, rfl⟩
  have st3 : storeV tab S2 33 (.ptr s11.n 0) (.agg (svC rv)) = .ok S3 := by
    rw [hS3]
    exact stv (o := 0) (x := .agg (svC rv)) s33 A2 rfl (by omega) (by show 0 + 4 ≤ 4; omega) one
  have A3 : At S3 s11.n (.cells (svC rv) 33 true 4) := by rw [hS3]; exact A2.set_same hw2 _
  have B3 : At S3 (s11.n + 1) (.cells z36 36 true 5) := by rw [hS3]; exact B2.set_ne A2.1 (by omega) _
  have C3 : At S3 s1.n (.cells [boolV true, intV .u64 1, intV .i64 0, nilS, intV .i64 2, nilS, intV .i64 0] 29 true 7) := by rw [hS3]; exact C2.set_ne A2.1 (by omega) _
  have hw3 : WF S3 := by rw [hS3]; exact hw2.set _ _
  obtain ⟨S4, hS4⟩ : ∃ S4, S4 = S3.set (s11.n + 1) (.cells [intV .i64 1, intV .i64 4, intV .i64 9, intV .i64 2, intV .i64 0] 36 true 5) := ⟨_, rfl⟩
  have st4 : storeV tab S3 36 (.ptr (s11.n + 1) 0) (.agg [intV .i64 1, intV .i64 4, intV .i64 9, intV .i64 2, intV .i64 0]) = .ok S4 := by
    rw [hS4]
    exact stv (o := 0) (x := .agg [intV .i64 1, intV .i64 4, intV .i64 9, intV .i64 2, intV .i64 0]) s36 B3 rfl (by omega) (by show 0 + 5 ≤ 5; omega) rfl
  have A4 : At S4 s11.n (.cells (svC rv) 33 true 4) := by rw [hS4]; exact A3.set_ne B3.1 (by omega) _
  have B4 : At S4 (s11.n + 1) (.cells [intV .i64 1, intV .i64 4, intV .i64 9, intV .i64 2, intV .i64 0] 36 true 5) := by rw [hS4]; exact B3.set_same hw3 _
  have C4 : At S4 s1.n (.cells [boolV true, intV .u64 1, intV .i64 0, nilS, intV .i64 2, nilS, intV .i64 0] 29 true 7) := by rw [hS4]; exact C3.set_ne B3.1 (by omega) _
  have hw4 : WF S4 := by rw [hS4]; exact hw3.set _ _
  obtain ⟨S5, hS5⟩ : ∃ S5, S5 = S4.set (s11.n + 1) (.cells cC 36 true 5) := ⟨_, rfl⟩
  have st5 : storeV tab S4 3 (.ptr (s11.n + 1) 3) (intV .i64 8) = .ok S5 := by
    rw [hS5]
    exact stv (o := 3) (x := intV .i64 8) s3 B4 rfl (by omega) (by show 3 + 1 ≤ 5; omega) rfl
  have A5' : At S5 s11.n (.cells (svC rv) 33 true 4) := by rw [hS5]; exact A4.set_ne B4.1 (by omega) _
  have B5 : At S5 (s11.n + 1) (.cells cC 36 true 5) := by rw [hS5]; exact B4.set_same hw4 _
  have C5 : At S5 s1.n (.cells [boolV true, intV .u64 1, intV .i64 0, nilS, intV .i64 2, nilS, intV .i64 0] 29 true 7) := by rw [hS5]; exact C4.set_ne B4.1 (by omega) _
  have hw5 : WF S5 := by rw [hS5]; exact hw4.set _ _
  obtain ⟨S6, hS6⟩ : ∃ S6, S6 = S5.set s1.n (.cells (tenC 0 nilS nilS) 29 true 7) := ⟨_, rfl⟩
  have st6 : storeV tab S5 3 (.ptr s1.n 4) (intV .i64 8) = .ok S6 := by
    rw [hS6]
    exact stv (o := 4) (x := intV .i64 8) s3 C5 rfl (by omega) (by show 4 + 1 ≤ 7; omega) rfl
  have U6 : Up s1.n S2 S6 := by
    rw [hS6, hS5, hS4, hS3]
    exact (((Up.set (by omega) A2.1 _).trans (Up.set (by omega) (by have := B3.1; rw [hS3] at this; exact this) _)).trans (Up.set (by omega) (by have := B4.1; rw [hS4, hS3] at this; exact this) _)).trans (Up.set (Nat.le_refl _) (by have := C5.1; rw [hS5, hS4, hS3] at this; exact this) _)
  have I6 : Inv S6 s1.n s11.n rv nv ns ((0 : Nat) : Int) nilS := by
    refine ⟨by rw [hS6]; exact hw5.set _ _, U6.M.trans ((G11.trans gS2).M.trans hM), by rw [hS6]; exact C5.set_same hw5 _, by rw [hS6]; exact A5'.set_ne C5.1 (by omega) _, by rw [hS6]; exact B5.set_ne C5.1 (by omega) _, by omega, ?_, (hNm.mono (G11.trans gS2) m1).up U6 (Nat.le_refl _)⟩
    refine Dp.mono (by omega) (by omega) (fun b hb1 hb2 _ => ?_) _ _ D2
    rw [hS6, getO_set_other C5.1 (by omega), hS5, getO_set_other B4.1 (by omega), hS4, getO_set_other B3.1 (by omega), hS3, getO_set_other A2.1 (by omega)]
  have Utop : Up s1.n σ S6 := ((G11.trans gS2).up _).trans U6
  -- the numbers of the call
  have hj0 := Int.emod_nonneg (n.tdiv 4) (b := 6) (by omega)
  have hj6 := Int.emod_lt_of_pos (n.tdiv 4) (b := 6) (by omega)
  obtain ⟨j0, hj⟩ : ∃ j0 : Nat, (n.tdiv 4) % 6 = (j0 : Int) := ⟨((n.tdiv 4) % 6).toNat, by omega⟩
  have hm0 := Int.emod_nonneg n (b := 4) (by omega)
  have hm4 := Int.emod_lt_of_pos n (b := 4) (by omega)
  obtain ⟨N, hN⟩ : ∃ N : Nat, (N : Int) = 1 + n % 4 := ⟨(1 + n % 4).toNat, by omega⟩
  have e := ec3 (kRet tab [.tmp 8]) (intV .i64 n) (intV .i64 pl) (intV .i64 mo) nv σ
  simp (decide := true) only [mv_eq, g1_eq, g2_eq, g3_eq, bindR_val, retK_ret, p1, alloc29, e5, p8, p11, alloc33, alloc36, push_n, ← hS2, st3, st4, ec3_1_1_1, fa41_3, fa29_4, fa27_0, Nat.zero_add, st5, st6, puts_cons, puts_nil, putE_same, putE_ne] at e
  obtain ⟨T0, ea, R0, t12⟩ : ∃ T0 : Rg, denK tab W V 183 c3 (kRet tab [.tmp 8]) (argE [intV .i64 n, intV .i64 pl, intV .i64 mo, nv]) σ = bindR (loopLim (dd tab W V 183 c3_1_1_1_1_1_0_1_0_0) T0 S6) (K.app (kblk 0 (kseq (denK tab W V 183 c3_1_1_1_1_1_1 (kRet tab [.tmp 8])) (kRet tab [.tmp 8])))) ∧ RgA T0 (intV .i64 n) (intV .i64 pl) (intV .i64 mo) nv s1.n s11.n ∧ T0 12 = intV .i64 ((0 : Nat) : Int) := by
    refine ⟨_, e, ?_, ?_⟩
    · constructor <;> simp (decide := true) only [putE_same, putE_ne] <;> rfl
    · simp (decide := true) only [putE_same]; rfl
  clear e
  obtain ⟨T1, S7, qv, z1, I7, Q7, R7, U7⟩ := loopA hn1 hn2 (by omega) hj hN N 0 (by omega) T0 S6 nilS I6 (by simp only [chQ, qT, Go.Proofs.YtkpkmjanikkpoaaGreatDoor.N, Dp]; rfl) R0 t12
  have hNq := chQ_numb j0 N (by omega)
  have hl := chQ_len j0 N
  have Q7l : QL x0 S7 (s11.n + 2) S7.n qv (chQ j0 N) := ql_of (Nat.le_refl _) Q7
  have lv := Q7l.lenV
  rw [hl] at lv
  have dN : ((N : Int) == 0) = false := by simp; omega
  have e := ec3_1_1_1_1_1_1 (kRet tab [.tmp 8]) T1 S7
  have nn : AV.base (.slice none 0 0) = nilS := rfl
  simp (decide := true) only [mv_eq, g1_eq, bindR_val, condR_boolV, condF, binOp_int, intOp_eql, R7.t9, fa29_3, Nat.zero_add, I7.lq, lv, dN, ec3_1_1_1_1_1_1_1, nn, puts_cons, puts_nil] at e
  obtain ⟨T2, eb, R2, t16, t17⟩ : ∃ T2 : Rg, denK tab W V 183 c3_1_1_1_1_1_1 (kRet tab [.tmp 8]) T1 S7 = bindR (loopLim (dd tab W V 183 c3_1_1_1_1_1_1_1_1_0_1_0_0) T2 S7) (K.app (kblk 2 (kseq (denK tab W V 183 c3_1_1_1_1_1_1_1_1_1 (kRet tab [.tmp 8])) (kRet tab [.tmp 8])))) ∧ RgA T2 (intV .i64 n) (intV .i64 pl) (intV .i64 mo) nv s1.n s11.n ∧ T2 16 = nilS ∧ T2 17 = intV .i64 ((0 : Nat) : Int) := by
    refine ⟨_, e, ?_, ?_, ?_⟩
    · constructor <;> simp (decide := true) only [putE_ne, R7.t0, R7.t1, R7.t2, R7.t3, R7.t9, R7.t10, R7.t11]
    · simp (decide := true) only [putE_same, putE_ne]
    · simp (decide := true) only [putE_same]; rfl
  clear e
  obtain ⟨T3, S8, iv, z2, V8, R3, t16', U8⟩ := loopB (lo := S7.n) I7.n2 (itm ns).length 0 (by omega) T2 S7 nilS I7 (Nat.le_refl _) ⟨.inl ⟨rfl, by simp⟩⟩ R2 t16 t17
  have g8' := U8.gw (Nat.le_refl _)
  have I8 := I7.gw g8'
  have n8 := g8'.n
  have Q8 : QL x0 S8 0 S7.n qv (chQ j0 N) := (Q7l.gw g8').mono (Nat.zero_le _) (Nat.le_refl _) (Nat.le_refl _) (fun _ _ _ _ => rfl)
  have J8 : IL S8 0 S8.n iv (itm ns) := V8.il.le (Nat.zero_le _) (Nat.le_refl _)
  have hcl : (itm ns).length ≤ 8 := by rw [itm_len]; omega
  obtain ⟨T4, S9, v', it', b19, b20, r, p, j, m, ec, hq, R4, Pa, t21, G9, A19, A20, D9, V9, I9⟩ := sPut (kRet tab [.tmp 8]) (n := N) (by omega) (by omega) hl hNq (itm_ok ns) hcl I8 Q8 n8 J8 R3 t16'
  have I9' := I8.gw G9
  have n9 := G9.n
  obtain ⟨T5, S10, ed, R5, Pb, G10⟩ := sReg (kRet tab [.tmp 8]) (n := N) (by omega) (by omega) hl hNq hq I9' (Q8.gw G9) (Nat.le_trans n8 n9) R4 Pa t21 A19 A20 D9 V9
  have I10 := I9'.gw G10
  have n10 := G10.n
  have e := ec3_1_1_1_1_1_1_1_1_1_1_1_1_1 (kRet tab [.tmp 8]) T5 S10
  simp (decide := true) only [mv_eq, bindR_val, puts_cons, puts_nil] at e
  obtain ⟨T6, ef, R6, Pc, t22, t23⟩ : ∃ T6 : Rg, denK tab W V 183 c3_1_1_1_1_1_1_1_1_1_1_1_1_1 (kRet tab [.tmp 8]) T5 S10 = bindR (loopLim (dd tab W V 183 c3_1_1_1_1_1_1_1_1_1_1_1_1_1_1_0_1_0_0) T6 S10) (K.app (kblk 4 (kseq (denK tab W V 183 c3_1_1_1_1_1_1_1_1_1_1_1_1_1_1_1 (kRet tab [.tmp 8])) (kRet tab [.tmp 8])))) ∧ RgA T6 (intV .i64 n) (intV .i64 pl) (intV .i64 mo) nv s1.n s11.n ∧ RgP T6 iv p b19 b20 ∧ T6 22 = intV .i64 ((if 0 ≤ p then 0 else 0 - 1 : Nat) : Int) ∧ T6 23 = intV .i64 ((0 : Nat) : Int) := by
    refine ⟨_, e, ?_, ?_, ?_, ?_⟩
    · constructor <;> simp (decide := true) only [putE_ne, R5.t0, R5.t1, R5.t2, R5.t3, R5.t9, R5.t10, R5.t11]
    · constructor <;> simp (decide := true) only [putE_ne, Pb.t16, Pb.t18, Pb.t19, Pb.t20]
    · rw [if_pos (Nat.zero_le _)]; simp (decide := true) only [putE_same, putE_ne]; rfl
    · simp (decide := true) only [putE_same]; rfl
  clear e
  obtain ⟨T7, S11, z3, R8, Pd, G11'⟩ := loopC (n := N) (by omega) hl hNq hq N 0 (by omega) T6 S10 I10 ((Q8.gw G9).gw G10) (Nat.le_trans n8 (Nat.le_trans n9 n10)) (hv := S9.n) n10 (A20.gw G10) (V9.gw G10) R6 Pc t22 t23
  have I11 := I10.gw G11'
  have G911 := G10.trans G11'
  have hp : p < (chQ j0 N).length := (List.getElem?_eq_some_iff.1 hq).1
  obtain ⟨S12, eg, G12⟩ := sEnd (n := N) (by omega) (cut_numb hNq hq) (by rw [List.length_append, cut_len p _ hp, List.length_singleton]; omega) (itm_ok ns) hcl I11 R8 Pd (A20.gw G911) ((V9.gw G911).le G911.n) ((I9.gw G911).le (Nat.zero_le _) G911.n) (((J8.gw G9).gw G911).le (Nat.zero_le _) (Nat.le_trans n9 G911.n))
  refine ⟨S12, w3 (by simp) ?_, ?_⟩
  · rw [ea, z1, bindR_val, app_exit, kblk_exit, if_pos rfl, kseq_nxt, eb, z2, bindR_val, app_exit, kblk_exit, if_pos rfl, kseq_nxt, ec, ed, ef, z3, bindR_val, app_exit, kblk_exit, if_pos rfl, kseq_nxt, eg]
  · exact ((((((Utop.trans U7).trans (g8'.up _)).trans (G9.up _)).trans (G911.up _)).trans (G12.up _))).gw m1
end Go.Proofs.YtkpkmjanikkpoaaGreatDoor
