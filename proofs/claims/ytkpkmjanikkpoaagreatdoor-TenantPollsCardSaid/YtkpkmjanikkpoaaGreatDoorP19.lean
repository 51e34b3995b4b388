/-
  A part of the proof. No statement of this seat stands here.
-/
import Derived.Test.YtkpkmjanikkpoaaGreatDoorP18
namespace Go.Proofs.YtkpkmjanikkpoaaGreatDoor
open Go Go.Dt
set_option maxRecDepth 100000

/-- memory but for one block, and the blocks from lo on -/
structure Hold (n1 lo : Nat) (σ σ' : St) : Prop where
  n : σ.n ≤ σ'.n
  old : ∀ b, b < σ.n → b < lo → b ≠ n1 → σ'.getO b = σ.getO b
  len : WF σ → WF σ'
  M : σ'.M = σ.M
theorem Hold.trans {n1 lo : Nat} {a b c : St} (h : Hold n1 lo a b) (k : Hold n1 lo b c) : Hold n1 lo a c :=
  ⟨Nat.le_trans h.n k.n, fun x hx hl hne => (k.old x (Nat.lt_of_lt_of_le hx h.n) hl hne).trans (h.old x hx hl hne), fun hw => k.len (h.len hw), k.M.trans h.M⟩
theorem Up.hold {lo : Nat} {σ σ' : St} (u : Up lo σ σ') (n1 : Nat) : Hold n1 lo σ σ' := ⟨u.n, fun b hb hl _ => u.old b hb hl, u.len, u.M⟩
theorem Hold.refl (n1 lo : Nat) (σ : St) : Hold n1 lo σ σ := ⟨Nat.le_refl _, fun _ _ _ _ => rfl, id, rfl⟩
theorem Hold.set {n1 lo : Nat} {σ : St} (hlt : n1 < σ.n) (o : AO) : Hold n1 lo σ (σ.set n1 o) :=
  ⟨Nat.le_refl _, fun _ _ _ hne => getO_set_other hlt (Ne.symm hne), fun h => h.set _ _, rfl⟩
theorem At.hold {n1 lo : Nat} {σ σ' : St} {b : Nat} {o : AO} (h : At σ b o) (u : Hold n1 lo σ σ') (hl : b < lo) (hne : b ≠ n1) : At σ' b o := ⟨Nat.lt_of_lt_of_le h.1 u.n, (u.old b h.1 hl hne).trans h.2⟩
theorem tenC_spl5 (had : Int) (v a b : AV) : splice (tenC had v a) 5 [b] = tenC had v b := rfl
theorem bs7 (c : Int) (n : Nat) : buildSliceA tab 25 1 [(0, .agg (itV c))] n = .ok (.slice n 0 1 (some 1) 7, .cells (itV c) 48 true 7) := by kernel_rfl

/-- the loop of tenant.own over the items -/
theorem loop29i (had : Int) (n1 lo lq : Nat) (v it : AV) (cs : List Int) (hok : ∀ c ∈ cs, okC c) (hlen : cs.length < 500) : ∀ (m i : Nat), i + m = cs.length → ∀ (T : Rg) (σ : St) (w : AV), WF σ → σ.M = M0 →
    n1 < lo → lo ≤ σ.n → lq ≤ n1 → IL σ 0 lq it cs → At σ n1 (.cells (tenC had v w) 106 true 7) → IV σ lo σ.n w (cs.take i) →
    T 3 = .ptr n1 0 → T 43 = it → T 44 = intV .i64 (cs.length : Int) → T 45 = intV .i64 (i : Int) →
    ∃ T' σ' w', loopLim (dd tab W V 66 c29_1_1_1_1_1_0_1_0_0) T σ = .ok (.exit 2 T' σ') ∧ Hold n1 lo σ σ' ∧ At σ' n1 (.cells (tenC had v w') 106 true 7) ∧ IV σ' lo σ'.n w' cs ∧ T' 3 = .ptr n1 0 ∧ (cs = [] → w' = w) := by
  intro m
  induction m with
  | zero =>
    intro i hm T σ w hw hM h01 hlo hlq hI hA hV t3 t43 t44 t45
    have e := ec29_1_1_1_1_1_0_1_0_0 kOc T σ
    have d1 : decide ((i : Int) < (cs.length : Int)) = false := by simp; omega
    simp only [g1_eq, bindR_val, t44, t45, binOp_int, intOp_lss, d1, condR_boolV, condF, kOc_exit] at e
    have hi : cs.take i = cs := List.take_of_length_le (by omega)
    rw [hi] at hV
    exact ⟨_, σ, w, loop_exit (dd_of tab W V 66 e), Hold.refl _ _ _, hA, hV, by simp (decide := true) only [puts_cons, puts_nil, putE_ne, t3], fun _ => rfl⟩
  | succ m ih =>
    intro i hm T σ w hw hM h01 hlo hlq hI hA hV t3 t43 t44 t45
    have hil : i < cs.length := by omega
    obtain ⟨c, hc⟩ : ∃ c, cs[i]? = some c := ⟨_, List.getElem?_eq_getElem hil⟩
    obtain ⟨b, g1, g2⟩ := hI.get hc
    have hcok := hok c (List.mem_of_getElem? hc)
    obtain ⟨s4, e1, A4, g4, n4, l4⟩ := box48 c hw
    obtain ⟨s8, p1, g8⟩ := P59 hcok (g4.M.trans hM)
    have G := g4.trans g8
    have hw8 : WF s8 := G.len hw
    have n8 := g8.n
    have lt1 := hA.1
    have A8 := hA.gw G
    have ld12 : loadV tab s8 25 (.ptr n1 5) = .ok w := ld l25 A8 rfl
    have ld12' : loadV tab s4 25 (.ptr n1 5) = .ok w := ld l25 (hA.gw g4) rfl
    have V8 := hV.gw G
    have vc := V8.il.cell
    -- the append
    have hB := At.new s8 (.cells (itV c) 48 true 7)
    have gB := Gw.push s8 (.cells (itV c) 48 true 7)
    have hsrc : srcCells (s8.push (.cells (itV c) 48 true 7)) 7 (.slice s8.n 0 1 (some 1) 7) = .ok (itR [c], [c].length) :=
      IL.src (lo := 0) (hi := s8.n + 1) ⟨.inr ⟨s8.n, some 1, [], rfl, Nat.zero_le _, by omega, by simpa [itR] using hB⟩⟩
    obtain ⟨b2, s15, q1, q2, q3, q4, q5, q6⟩ := appI (hw8.push _) ((V8.gw gB).le (Nat.le_refl _) (hi' := (s8.push (.cells (itV c) 48 true 7)).n) (by rw [push_n]; omega)).ic hsrc (by simp) (by rw [List.length_take]; simp; omega) (Nat.le_refl _)
    rw [push_n] at q2 q4
    have ht : cs.take (i + 1) = cs.take i ++ [c] := by rw [List.take_add_one, hc]; rfl
    rw [← ht] at q1 q5
    have U15 : Up lo σ s15 := ((G.trans gB).up lo).trans q6
    have A15 : At s15 n1 (.cells (tenC had v w) 106 true 7) := hA.up U15 h01
    obtain ⟨w2, hw2⟩ : ∃ w2, w2 = AV.slice b2 0 (cs.take (i + 1)).length none 7 := ⟨_, rfl⟩
    rw [← hw2] at q1
    have V15 : IV s15 lo s15.n w2 (cs.take (i + 1)) := ⟨.inr ⟨b2, hw2, by omega, q3, q5⟩⟩
    have vc2 := V15.il.cell
    obtain ⟨s22, hs22⟩ : ∃ s22, s22 = s15.set n1 (.cells (tenC had v w2) 106 true 7) := ⟨_, rfl⟩
    have st22 : storeV tab s15 25 (.ptr n1 5) w2 = .ok s22 := by
      rw [hs22]
      have := stv (o := 5) (x := w2) s25 A15 (by rw [vc2.2.2.2]; rfl) (by omega) (by show 5 + 1 ≤ 7; omega) (by rw [vc2.2.2.2]; simp [vc2.1])
      rw [this, vc2.2.2.2, tenC_spl5]
    have H22 : Hold n1 lo σ s22 := by rw [hs22]; exact (U15.hold n1).trans (Hold.set A15.1 _)
    have A22 : At s22 n1 (.cells (tenC had v w2) 106 true 7) := by rw [hs22]; exact A15.set_same (U15.len hw) _
    have V22 : IV s22 lo s22.n w2 (cs.take (i + 1)) := by
      rw [hs22]
      exact V15.mono (Nat.le_refl _) (Nat.le_refl _) (Nat.le_refl _) fun b hb1 _ _ => getO_set_other A15.1 (by omega)
    have n22 : s22.n = s8.n + 2 := by rw [hs22]; exact q4
    have n15 : s15.n = s8.n + 2 := q4
    have e := ec29_1_1_1_1_1_0_1_0_0 kOc T σ
    have d1 : decide ((i : Int) < (cs.length : Int)) = true := by simp; omega
    have w1 : IntKind.i64.wrap ((i : Int) + 1) = ((i + 1 : Nat) : Int) := by rw [wrapI (by omega) (by omega)]; omega
    have x2 : beqA (.agg (itV c)) (.agg (itV c)) = true := by simp [itV, beqA, beqL, intV, nilS, beqBase]
    have x3 : bndA s4.n (.agg (itV c)) = true := rfl
    have x4 : bndO (s8.n + 1) (.cells (itV c) 48 true 7) = true := rfl
    have x5 : bndA (s8.n + 1) w = true := vc.2.2.1 _ (by omega)
    have x6 : bndA (s8.n + 1) (.slice s8.n 0 1 (some 1) 7) = true := by
      show Nat.blt s8.n (s8.n + 1) = true
      rw [blt_eq]; simp
    have x7 : bndA s15.n w2 = true := vc2.2.2.1 _ (Nat.le_refl _)
    have x8 : bndA s15.n (.ptr n1 5) = true := by
      show Nat.blt n1 s15.n = true
      rw [blt_eq]; simp; omega
    have y1 : Nat.ble s4.n s8.n = true := Nat.ble_eq_true_of_le n8
    have y2 : Nat.ble (s8.n + 1) s15.n = true := Nat.ble_eq_true_of_le (by omega)
    have y3 : Nat.ble s15.n s22.n = true := Nat.ble_eq_true_of_le (by omega)
    have x0 : bndA s4.n (.func (.func 59) [] []) = true := rfl
    simp (decide := true) only [mv_eq, g1_eq, g2_eq, g3_eq, g4_eq, bindR_val, retK_ret, condR_boolV, condT, binOp_int, intOp_add, intOp_lss, kOc_nxt, kOc_exit, t3, t43, t44, t45, d1, g1, g2, alloc48, e1, l4, sameR, x2, Bool.and_true, List.all_cons, List.all_nil, x0, x3, Bool.and_self, p1, y1, nilCheck_ptr, fa94_0, fa29_4, fa27_1', Nat.zero_add, Nat.reduceAdd, ld12, ld12', vc.2.1, bs7, x4, push_n, x5, x6, q1, y2, x7, x8, st22, y3, w1] at e
    obtain ⟨T1, ee, k3, k43, k44, k45⟩ : ∃ T1, denK tab W V 66 c29_1_1_1_1_1_0_1_0_0 kOc T σ = .ok (.nxt T1 s22) ∧ T1 3 = .ptr n1 0 ∧ T1 43 = it ∧ T1 44 = intV .i64 (cs.length : Int) ∧ T1 45 = intV .i64 ((i + 1 : Nat) : Int) := by
      refine ⟨_, e, ?_, ?_, ?_, ?_⟩ <;> simp (decide := true) only [puts_cons, puts_nil, putE_same, putE_ne, t3, t43, t44]
    obtain ⟨T', σ', w', z1, z2, z3, z4, z5, _⟩ := ih (i + 1) (by omega) T1 s22 w2 (H22.len hw) (H22.M.trans hM) h01 (Nat.le_trans hlo H22.n) hlq
      (hI.mono (Nat.le_refl _) (Nat.le_refl _) H22.n fun b _ hb hbn => H22.old b hbn (by omega) (by omega)) A22 V22 k3 k43 k44 k45
    exact ⟨T', σ', w', loop_next (dd_of tab W V 66 ee) z1, H22.trans z2, z3, z4, z5, fun h => by rw [h] at hil; simp at hil⟩
end Go.Proofs.YtkpkmjanikkpoaaGreatDoor
namespace Go.Proofs.YtkpkmjanikkpoaaGreatDoor
open Go Go.Dt
set_option maxRecDepth 100000

theorem nilS_eq : AV.base (.slice none 0 0) = nilS := rfl

/-- tenant.own -/
theorem W29 (had : Int) (qv it : AV) (qs : List (Nat × Int)) (cs : List Int) (hok : ∀ q ∈ qs, okQ q) (hlen : qs.length < 1000) (hokc : ∀ c ∈ cs, okC c) (hcl : cs.length < 500) (σ : St) (hw : WF σ) (hM : σ.M = M0) (hQ : QL x0 σ 0 σ.n qv qs) (hI : IL σ 0 σ.n it cs) :
    ∃ w σ' v' it' mid, W 29 [.agg (tenC had qv it)] σ = .ok (.ret (.ptr w 0), σ') ∧ Gw σ σ' ∧ σ.n < w ∧ At σ' w (.cells (tenC had v' it') 106 true 7) ∧ w < mid ∧ mid ≤ σ'.n ∧ QV x0 σ' (w + 1) mid v' qs ∧ IV σ' mid σ'.n it' cs ∧ (cs = [] → it' = nilS) := by
  have hB0 := At.new σ (.cells (tenC had qv it) 29 true 7)
  have hB1 := At.new (σ.push (.cells (tenC had qv it) 29 true 7)) (.cells (tenC had qv it) 106 true 7)
  have hB0' := hB0.push (.cells (tenC had qv it) 106 true 7)
  obtain ⟨S2, hS2⟩ : ∃ S2, S2 = (σ.push (.cells (tenC had qv it) 29 true 7)).push (.cells (tenC had qv it) 106 true 7) := ⟨_, rfl⟩
  rw [← hS2] at hB1 hB0'
  have g2 : Gw σ S2 := by rw [hS2]; exact (Gw.push _ _).trans (Gw.push _ _)
  have nS2 : S2.n = σ.n + 2 := by rw [hS2]; rfl
  have hn1 : (σ.push (.cells (tenC had qv it) 29 true 7)).n = σ.n + 1 := rfl
  rw [hn1] at hB1
  have ld2 : loadV tab (σ.push (.cells (tenC had qv it) 29 true 7)) 29 (.ptr σ.n 0) = .ok (.agg (tenC had qv it)) := lda a29 hB0 rfl rfl
  obtain ⟨s4, hs4⟩ : ∃ s4, s4 = S2.set (σ.n + 1) (.cells (tenC had nilS it) 106 true 7) := ⟨_, rfl⟩
  have hst : storeV tab S2 24 (.ptr (σ.n + 1) 3) nilS = .ok s4 := by
    rw [hs4]
    exact stv (o := 3) (x := nilS) s24 hB1 rfl (by omega) (by show 3 + 1 ≤ 7; omega) rfl
  have u4 : Up (σ.n + 1) S2 s4 := by rw [hs4]; exact Up.set (Nat.le_refl _) hB1.1 _
  have hA1 : At s4 (σ.n + 1) (.cells (tenC had nilS it) 106 true 7) := by rw [hs4]; exact hB1.set_same (g2.len hw) _
  have hA0 : At s4 σ.n (.cells (tenC had qv it) 29 true 7) := hB0'.up u4 (by omega)
  have ld1 : loadV tab s4 24 (.ptr σ.n 3) = .ok qv := ld l24 hA0 rfl
  have hQ4 : QL x0 s4 0 σ.n qv qs := (hQ.gw g2).mono (Nat.le_refl _) (Nat.le_refl _) u4.n fun b _ hb hg => u4.old b (getO_gone hg) (by omega)
  have n4 : s4.n = σ.n + 2 := by rw [hs4]; exact nS2
  have hw4 : WF s4 := u4.len (g2.len hw)
  have hM4 : s4.M = M0 := u4.M.trans (g2.M.trans hM)
  -- the loop
  obtain ⟨T0, hT0⟩ : ∃ T0 : Rg, T0 = puts 66 (puts 66 (puts 66 (argE [.agg (tenC had qv it)]) [(1, .ptr σ.n 0), (2, AV.base (.pointer none)), (8, .agg (tenC had qv it)), (9, .agg (tenC had qv it)), (10, .ptr (σ.n + 1) 0), (3, .ptr (σ.n + 1) 0)])
      [(11, .ptr (σ.n + 1) 0), (12, .ptr (σ.n + 1) 0), (13, .ptr (σ.n + 1) 0), (14, .ptr (σ.n + 1) 3)]) [(15, .ptr σ.n 3), (16, qv), (17, intV .i64 (qs.length : Int)), (18, intV .i64 0)] := ⟨_, rfl⟩
  have t1 : T0 1 = .ptr σ.n 0 := by rw [hT0]; simp (decide := true) only [puts_cons, puts_nil, putE_same, putE_ne]
  have t3 : T0 3 = .ptr (σ.n + 1) 0 := by rw [hT0]; simp (decide := true) only [puts_cons, puts_nil, putE_same, putE_ne]
  have t16 : T0 16 = qv := by rw [hT0]; simp (decide := true) only [puts_cons, puts_nil, putE_same, putE_ne]
  have t17 : T0 17 = intV .i64 (qs.length : Int) := by rw [hT0]; simp (decide := true) only [puts_cons, puts_nil, putE_same, putE_ne]
  have t18 : T0 18 = intV .i64 ((0 : Nat) : Int) := by rw [hT0]; simp (decide := true) only [puts_cons, puts_nil, putE_same]; rfl
  obtain ⟨T', s5, v', z1, z2, z3, z4, z5, z6⟩ := loop29 had σ.n (σ.n + 1) σ.n qv it it qs hok hlen qs.length 0 (by omega) T0 s4 nilS hw4 hM4 (by omega) (Nat.le_refl _) hQ4 hA0 hA1
    ⟨.inl ⟨rfl, by simp⟩⟩ t1 t3 t16 t17 t18
  have hA05 := hA0.up z2 (by omega)
  -- the items
  have vc' := z4.ql.cell
  obtain ⟨s6, hs6⟩ : ∃ s6, s6 = s5.set (σ.n + 1) (.cells (tenC had v' nilS) 106 true 7) := ⟨_, rfl⟩
  have hst6 : storeV tab s5 25 (.ptr (σ.n + 1) 5) nilS = .ok s6 := by
    have := stv (o := 5) (x := nilS) s25 z3 rfl (by omega) (by show 5 + 1 ≤ 7; omega) rfl
    rw [this, hs6]; rfl
  have u6 : Up (σ.n + 1) s5 s6 := by rw [hs6]; exact Up.set (Nat.le_refl _) z3.1 _
  have hA6 : At s6 (σ.n + 1) (.cells (tenC had v' nilS) 106 true 7) := by rw [hs6]; exact z3.set_same (z2.len hw4) _
  have hA06 := hA05.up u6 (by omega)
  have ldi : loadV tab s6 25 (.ptr σ.n 5) = .ok it := ld l25 hA06 rfl
  have hV6 : QV x0 s6 (σ.n + 1 + 1) s6.n v' qs := by
    rw [hs6]
    exact z4.mono (Nat.le_refl _) (Nat.le_refl _) (Nat.le_refl _) fun b hb1 _ _ => getO_set_other z3.1 (by omega)
  have uall : Up (σ.n + 1) σ s6 := (((g2.up _).trans u4).trans z2).trans u6
  have hI6 : IL s6 0 σ.n it cs := hI.up uall (by omega)
  have hw6 : WF s6 := uall.len hw
  have a6n := hA6.1
  obtain ⟨T6, hT6⟩ : ∃ T6 : Rg, T6 = puts 66 T' [(36, .ptr (σ.n + 1) 0), (37, .ptr (σ.n + 1) 0), (38, .ptr (σ.n + 1) 0), (39, .ptr (σ.n + 1) 4), (40, .ptr (σ.n + 1) 5), (41, .ptr σ.n 4), (42, .ptr σ.n 5), (43, it), (44, intV .i64 (cs.length : Int)), (45, intV .i64 0)] := ⟨_, rfl⟩
  obtain ⟨T7, s7, it', y1, y2, y3, y4, y5, y6⟩ := loop29i had (σ.n + 1) s6.n σ.n v' it cs hokc hcl cs.length 0 (by omega) T6 s6 nilS hw6 (uall.M.trans hM) a6n (Nat.le_refl _) (by omega) hI6 hA6 ⟨.inl ⟨rfl, by simp⟩⟩
    (by rw [hT6]; simp (decide := true) only [puts_cons, puts_nil, putE_ne, z6]) (by rw [hT6]; simp (decide := true) only [puts_cons, puts_nil, putE_same, putE_ne]) (by rw [hT6]; simp (decide := true) only [puts_cons, puts_nil, putE_same, putE_ne]) (by rw [hT6]; simp (decide := true) only [puts_cons, puts_nil, putE_same]; rfl)
  have hV7 : QV x0 s7 (σ.n + 1 + 1) s6.n v' qs := hV6.mono (Nat.le_refl _) (Nat.le_refl _) y2.n fun b hb1 hb2 hg => y2.old b (getO_gone hg) hb2 (by omega)
  have gall : Gw σ s7 := ⟨Nat.le_trans uall.n y2.n, fun b hb => (y2.old b (Nat.lt_of_lt_of_le hb uall.n) (by omega) (by omega)).trans (uall.old b hb (by omega)), fun h => y2.len (uall.len h), y2.M.trans uall.M⟩
  refine ⟨σ.n + 1, s7, v', it', s6.n, ?_, gall, by omega, y3, a6n, y2.n, hV7, y4, y6⟩
  refine w29 (by simp) ?_
  rw [ec29]
  have b1 : boxA tab 29 (.agg (tenC had qv it)) σ.n = .ok (.ptr σ.n 0, .cells (tenC had qv it) 29 true 7) := box29 _ _ _ _ _ _ _ _
  have b2 : Dt.build tab 106 [(0, .agg (tenC had qv it))] = .ok (.agg (tenC had qv it)) := build94 _ _ _ _ _ _ _
  have b3 : boxA tab 106 (.agg (tenC had qv it)) (σ.n + 1) = .ok (.ptr (σ.n + 1) 0, .cells (tenC had qv it) 106 true 7) := box94 _ _ _ _ _ _ _ _
  simp only [mv_eq, g1_eq, g3_eq, bindR_val, b1, ld2, b2, push_n, b3, ← hS2, ec29_1_1]
  simp (decide := true) only [mv_eq, g1_eq, bindR_val, putE_same, putE_ne, puts_cons, puts_nil, nilCheck_ptr, fa94_0, fa29_3, Nat.zero_add, nilS_eq, hst, ec29_1_1_1, ld1, hQ.lenV]
  simp only [puts_cons, puts_nil] at hT0
  rw [← hT0, z1, bindR_val]
  simp (decide := true) only [app_exit, kblk_exit, if_true, kseq_nxt, ec29_1_1_1_1, mv_eq, g1_eq, g3_eq, bindR_val, z6, z5, nilCheck_ptr, fa94_0, fa29_4, fa27_1, Nat.zero_add, Nat.reduceAdd, nilS_eq, hst6, ldi, hI6.lenV]
  rw [← hT6, y1, bindR_val]
  simp (decide := true) only [bindR_val, app_exit, kblk_exit, if_true, kseq_nxt, ec29_1_1_1_1_1_1, mv_eq, puts_cons, puts_nil, putE_same, y5, r29]
end Go.Proofs.YtkpkmjanikkpoaaGreatDoor
namespace Go.Proofs.YtkpkmjanikkpoaaGreatDoor
open Go Go.Dt
set_option maxRecDepth 100000

/- slices of items -/
theorem u25 : und tab 25 = .ok (.slice 48) := by kernel_rfl
theorem sz48 : size tab 48 = .ok 7 := by kernel_rfl
theorem sl3i (b L p : Nat) (h : p ≤ L) : sliceV tab 25 (.slice b 0 L none 7) none (some (intV .i64 (p : Int))) (some (intV .i64 (p : Int))) = .ok (.slice b 0 p (some p) 7) := by
  unfold sliceV
  simp only [u25, bindR_eq, bindR_val, sz48, boundO, bound_nat p L h, bound_nat p p (Nat.le_refl _)]
  rw [if_pos (show True ∧ 0 < 7 from ⟨trivial, by omega⟩)]
  simp
theorem sl3n : sliceV tab 25 nilS none (some (intV .i64 0)) (some (intV .i64 0)) = .ok nilS := by kernel_rfl
theorem sl1n : sliceV tab 25 nilS (some (intV .i64 0)) none none = .ok nilS := by kernel_rfl
theorem isNil_n : Dt.binOp tab .eql 25 nilS nilS true = .ok (boolV true) := by kernel_rfl
theorem isNil_s (b o n : Nat) (cap : Option Nat) (z : Nat) : Dt.binOp tab .eql 25 (.slice b o n cap z) nilS true = .ok (boolV false) := by kernel_rfl
theorem isNil_z (b o n z : Nat) : Dt.binOp tab .eql 25 (.sliceZ b o n z) nilS true = .ok (boolV false) := by kernel_rfl
theorem bs0 (n : Nat) : buildSliceA tab 25 0 [] n = .ok (.slice n 0 0 (some 0) 7, .cells [] 48 true 7) := by kernel_rfl

/-- queue.room -/
theorem box202 (it : AV) (n : Nat) : boxA tab 202 (.agg (quC it)) n = .ok (.ptr n 0, .cells (quC it) 202 true 3) := by kernel_rfl
theorem fa202 (b o : Nat) : fieldAddr tab 202 (.ptr b o) 0 = .ok (.ptr b o) := by kernel_rfl
theorem W142 {it : AV} {cs : List Int} {lo hi : Nat} (hcl : cs.length < 500) {σ : St} (hI : IL σ lo hi it cs) : ∃ σ', W 142 [.agg (quC it)] σ = .ok (.ret (intV .i64 (8 - (cs.length : Int))), σ') ∧ Gw σ σ' := by
  have A := At.new σ (.cells (quC it) 202 true 3)
  have gp := Gw.push σ (.cells (quC it) 202 true 3)
  have l0 : loadV tab (σ.push (.cells (quC it) 202 true 3)) 3 (.ptr σ.n 0) = .ok (intV .i64 8) := ld l3 A rfl
  have l1 : loadV tab (σ.push (.cells (quC it) 202 true 3)) 25 (.ptr σ.n 1) = .ok it := ld l25 A rfl
  have l2 : loadV tab (σ.push (.cells (quC it) 202 true 3)) 3 (.ptr σ.n 2) = .ok (intV .i64 0) := ld l3 A rfl
  have w1 : IntKind.i64.wrap (8 - (cs.length : Int)) = 8 - (cs.length : Int) := wrapI (by omega) (by omega)
  have d0 : ((0 : Int) != 0) = false := rfl
  have e := ec142 (kRet tab [.tmp 2]) (.agg (quC it)) σ
  simp (decide := true) only [mv_eq, g1_eq, bindR_val, condR_boolV, condF, binOp_int, intOp_sub, intOp_neq, box202, fa202, fa27_0', fa27_1', fa27_2', Nat.zero_add, l0, l1, l2, d0, hI.lenV, w1, r142, puts_cons, puts_nil, putE_same] at e
  exact ⟨_, w142 (by simp) e, gp⟩
theorem appI0 {s : St} {b : Nat} {x : AV} (hA : At s b (.cells [] 48 true 7)) (hx : srcCells s 7 x = .ok ([], 0)) : appendV tab s 25 25 (.slice b 0 0 (some 0) 7) x = .ok (.slice b 0 0 (some 0) 7, s) := by
  have hok := app25
  unfold appB at hok
  split at hok
  · rename_i e' s' i xd z h1 h2 h3 h4 h5
    simp only [Bool.and_eq_true, beq_iff_eq, decide_eq_true_eq, Bool.not_eq_true'] at hok
    obtain ⟨⟨⟨⟨rfl, rfl⟩, hb⟩, hx2⟩, hz⟩ := hok
    have hc : (!(decide (0 < 2 ^ 30) && decide (0 < i.bytes ∧ i.bytes < 2 ^ 14 ∧ 0 < 7) && !isIntD xd && z.cells.length == 7)) = false := by
      simp only [Bool.not_eq_false', Bool.and_eq_true, decide_eq_true_eq, beq_iff_eq, hx2, Bool.not_false, hz, and_true]
      exact ⟨by omega, hb⟩
    have told : takeN ([] : List AV) 0 (0 * 7) = .ok [] := rfl
    simp only [appendV, h1, h2, h3, h4, h5, hx, bindR_eq, bindR_val, hc, cellsOf, hA.1, hA.2, if_true, told, beq_self_eq_true, Bool.false_eq_true, if_false, Nat.zero_add]
    rfl
  · cases hok
/-- slices.Clone -/
theorem W147 {v : AV} {ds : List Int} (hv : v = nilS ∧ ds = [] ∨ ∃ b o n cap z, v = .slice b o n cap z ∨ v = .sliceZ b o n z) {σ : St} (hw : WF σ) (hlen : ds.length < 500) (hs : ∀ s, Gw σ s → srcCells s 7 v = .ok (itR ds, ds.length)) :
    ∃ v' σ', W 147 [v] σ = .ok (.ret v', σ') ∧ Gw σ σ' ∧ IC σ' σ.n σ'.n v' ds := by
  have e := ec147 (kRet tab [.tmp 2]) v σ
  have nn : AV.base (.slice none 0 0) = nilS := rfl
  rcases hv with ⟨rfl, rfl⟩ | hv
  · simp (decide := true) only [mv_eq, g1_eq, g4_eq, bindR_val, condR_boolV, condT, nn, isNil_n, r147, puts_cons, puts_nil, putE_same] at e
    exact ⟨nilS, σ, w147 (by simp) e, Gw.refl σ, ⟨.inl ⟨.inl ⟨rfl, rfl⟩⟩⟩⟩
  · have hn : Dt.binOp tab .eql 25 v nilS true = .ok (boolV false) := by
      obtain ⟨b, o, n, cap, z, rfl | rfl⟩ := hv
      · exact isNil_s b o n cap z
      · exact isNil_z b o n z
    have gp := Gw.push σ (.cells [] 48 true 7)
    have A := At.new σ (.cells [] 48 true 7)
    have hsrc := hs _ gp
    have hIC : IC (σ.push (.cells [] 48 true 7)) σ.n (σ.n + 1) (.slice σ.n 0 0 (some 0) 7) [] := ⟨.inr ⟨σ.n, rfl, rfl, Nat.le_refl _, by omega, A⟩⟩
    by_cases h0 : ds = []
    · subst h0
      simp (decide := true) only [mv_eq, g1_eq, g4_eq, bindR_val, condR_boolV, condF, nn, hn, bs0, appI0 A hsrc, r147, puts_cons, puts_nil, putE_same] at e
      exact ⟨_, _, w147 (by simp) e, gp, ⟨.inr ⟨σ.n, rfl, rfl, Nat.le_refl _, by rw [push_n]; omega, A⟩⟩⟩
    · obtain ⟨b, s', q1, q2, q3, q4, q5, q6⟩ := appI (WF.push hw _) hIC hsrc (by cases ds with | nil => exact (h0 rfl).elim | cons => simp) (by simp; omega) (Nat.le_refl _)
      rw [List.nil_append] at q1 q5
      rw [push_n] at q2 q4
      simp (decide := true) only [mv_eq, g1_eq, g4_eq, bindR_val, condR_boolV, condF, nn, hn, bs0, q1, r147, puts_cons, puts_nil, putE_same] at e
      refine ⟨_, s', w147 (by simp) e, (((gp.up σ.n).trans q6).gw (Nat.le_refl _)), ⟨.inl ⟨.inr ⟨b, rfl, by omega, q3, q5⟩⟩⟩⟩
end Go.Proofs.YtkpkmjanikkpoaaGreatDoor
namespace Go.Proofs.YtkpkmjanikkpoaaGreatDoor
open Go Go.Dt
set_option maxRecDepth 100000

theorem appS {s : St} {b : Nat} {x : AV} {cs ds : List Int} {rest : List AV} (hA : At s b (.cells (itR cs ++ rest) 48 true 7)) (hx : srcCells s 7 x = .ok (itR ds, ds.length)) (hd : 0 < ds.length) (hlen : cs.length + ds.length < 1000) :
    appendV tab s 25 25 (.slice b 0 cs.length (some cs.length) 7) x = .ok (.slice s.n 0 (cs ++ ds).length none 7, s.push (.cells (itR (cs ++ ds)) 48 true 7)) := by
  have hok := app25
  unfold appB at hok
  split at hok
  · rename_i e' s' i xd z h1 h2 h3 h4 h5
    simp only [Bool.and_eq_true, beq_iff_eq, decide_eq_true_eq, Bool.not_eq_true'] at hok
    obtain ⟨⟨⟨⟨rfl, rfl⟩, hb⟩, hx2⟩, hz⟩ := hok
    have hc : (!(decide (ds.length < 2 ^ 30) && decide (0 < i.bytes ∧ i.bytes < 2 ^ 14 ∧ 0 < 7) && !isIntD xd && z.cells.length == 7)) = false := by
      simp only [Bool.not_eq_false', Bool.and_eq_true, decide_eq_true_eq, beq_iff_eq, hx2, Bool.not_false, hz, and_true]
      exact ⟨by omega, hb⟩
    have told : takeN (itR cs ++ rest) 0 (cs.length * 7) = .ok (itR cs) := by
      unfold takeN
      have e : ((itR cs ++ rest).drop 0).take (cs.length * 7) = itR cs := by
        rw [List.drop_zero, List.take_append_of_le_length (by rw [itR_len]; omega)]
        exact List.take_of_length_le (by rw [itR_len]; omega)
      rw [e, if_pos (itR_len cs)]
    have c2 : (!(decide (cs.length + ds.length < 2 ^ 30) && true)) = false := by simp; omega
    simp only [appendV, h1, h2, h3, h4, h5, hx, bindR_eq, bindR_val, hc, c2, cellsOf, hA.1, hA.2, if_true, told, beq_self_eq_true, Bool.false_eq_true, if_false, List.length_append, itR_app]
    rw [if_neg (show ¬ cs.length + ds.length ≤ cs.length by omega)]
    rfl
  · cases hok
/-- an item behind a list whose room is cut -/
theorem appC {s : St} (_ : WF s) {lo hi : Nat} {v : AV} {cs : List Int} (h : IV s lo hi v cs) {x : AV} {ds : List Int} (hx : ∀ s', Gw s s' → srcCells s' 7 x = .ok (itR ds, ds.length)) (hd : 0 < ds.length) (hlen : cs.length + ds.length < 1000) :
    ∃ v1, sliceV tab 25 v none (some (intV .i64 (cs.length : Int))) (some (intV .i64 (cs.length : Int))) = .ok v1 ∧ (∀ n, hi ≤ n → bndA n v1 = true) ∧ beqA v1 v1 = true ∧
      ∀ s', Gw s s' → appendV tab s' 25 25 v1 x = .ok (.slice s'.n 0 (cs ++ ds).length none 7, s'.push (.cells (itR (cs ++ ds)) 48 true 7)) := by
  rcases h.is with ⟨rfl, rfl⟩ | ⟨b, rfl, k2, k3, k4⟩
  · refine ⟨nilS, sl3n, fun _ _ => rfl, rfl, fun s' g => ?_⟩
    have hok := app25
    unfold appB at hok
    split at hok
    · rename_i e' s'' i xd z h1 h2 h3 h4 h5
      simp only [Bool.and_eq_true, beq_iff_eq, decide_eq_true_eq, Bool.not_eq_true'] at hok
      obtain ⟨⟨⟨⟨rfl, rfl⟩, hb⟩, hx2⟩, hz⟩ := hok
      have hc : (!(decide (ds.length < 2 ^ 30) && decide (0 < i.bytes ∧ i.bytes < 2 ^ 14 ∧ 0 < 7) && !isIntD xd && z.cells.length == 7)) = false := by
        simp only [Bool.not_eq_false', Bool.and_eq_true, decide_eq_true_eq, beq_iff_eq, hx2, Bool.not_false, hz, and_true]
        exact ⟨by omega, hb⟩
      simp only [appendV, h1, h2, h3, h4, h5, hx s' g, bindR_eq, bindR_val, hc, nilS, List.nil_append, Bool.false_eq_true, if_false]
      rw [if_neg (by omega)]
      rfl
    · cases hok
  · refine ⟨_, sl3i b cs.length cs.length (Nat.le_refl _), fun n hn => ?_, by simp [beqA], fun s' g => appS (rest := []) (by simpa using k4.gw g) (hx s' g) hd hlen⟩
    show Nat.blt b n = true
    rw [blt_eq]; simp; omega
/-- queue.put: there is room -/
theorem a202 : aggB 202 3 = true := by kernel_rfl
theorem nilCheck_p (b o : Nat) : nilCheckV (.ptr b o) = .ok (.ptr b o) := nilCheck_ptr b o
theorem box48' (c : Int) (n : Nat) : boxA tab 48 (.agg (itV c)) n = .ok (.ptr n 0, .cells (itV c) 48 true 7) := by kernel_rfl
theorem W78 {it : AV} {cs : List Int} {q lo : Nat} {c : Int} (hcl : cs.length < 8) {σ : St} (hw : WF σ) (hA : At σ q (.cells (quC it) 202 true 3)) (hq : q < lo) (hlo : lo ≤ σ.n) (hI : IV σ lo σ.n it cs) :
    ∃ it' σ', W 78 [.ptr q 0, .agg (itV c)] σ = .ok (.ret (boolV true), σ') ∧ Hold q lo σ σ' ∧ At σ' q (.cells (quC it') 202 true 3) ∧ IV σ' lo σ'.n it' (cs ++ [c]) := by
  have g0 := Gw.push σ (.cells (itV c) 48 true 7)
  have hB := At.new σ (.cells (itV c) 48 true 7)
  have A1 := hA.gw g0
  have lq : loadV tab (σ.push (.cells (itV c) 48 true 7)) 202 (.ptr q 0) = .ok (.agg (quC it)) := lda a202 A1 rfl rfl
  obtain ⟨s7, p1, g1⟩ := W142 (by omega) (hI.gw g0).il
  have G := g0.trans g1
  have A7 := hA.gw G
  have B7 := hB.gw g1
  have l18 : loadV tab s7 25 (.ptr q 1) = .ok it := ld l25 A7 rfl
  have l29 : loadV tab s7 48 (.ptr σ.n 0) = .ok (.agg (itV c)) := lda a48 B7 rfl rfl
  have e1 : IL (s7.push (.cells (itV c) 48 true 7)) 0 (s7.n + 1) (.slice s7.n 0 1 (some 1) 7) [c] := ⟨.inr ⟨s7.n, some 1, [], rfl, Nat.zero_le _, by omega, by simpa [itR] using At.new s7 (.cells (itV c) 48 true 7)⟩⟩
  have g7 := Gw.push s7 (.cells (itV c) 48 true 7)
  obtain ⟨v1, c1, c2, c3, c4⟩ := appC (WF.push (G.len hw) (.cells (itV c) 48 true 7)) ((hI.gw G).gw g7) (x := .slice s7.n 0 1 (some 1) 7) (ds := [c]) (fun s' g => (e1.gw g).src) (by simp) (by simp; omega)
  have c4' := c4 _ (Gw.refl _)
  rw [push_n] at c4'
  obtain ⟨S, hS⟩ : ∃ S, S = (s7.push (.cells (itV c) 48 true 7)).push (.cells (itR (cs ++ [c])) 48 true 7) := ⟨_, rfl⟩
  obtain ⟨it', hit⟩ : ∃ it', it' = AV.slice (s7.n + 1) 0 (cs ++ [c]).length none 7 := ⟨_, rfl⟩
  rw [← hS, ← hit] at c4'
  have gS : Gw s7 S := by rw [hS]; exact g7.trans (Gw.push _ _)
  have nS : S.n = s7.n + 2 := by rw [hS]; rfl
  have nG := G.n
  have AS := A7.gw gS
  have VS : IV S lo S.n it' (cs ++ [c]) := ⟨.inr ⟨s7.n + 1, hit, by omega, by omega, by rw [hS]; exact At.new _ _⟩⟩
  have vc := VS.il.cell
  obtain ⟨S', hS'⟩ : ∃ S', S' = S.set q (.cells (quC it') 202 true 3) := ⟨_, rfl⟩
  have st : storeV tab S 25 (.ptr q 1) it' = .ok S' := by
    rw [hS']
    have := stv (o := 1) (x := it') s25 AS (by rw [vc.2.2.2]; rfl) (by omega) (by show 1 + 1 ≤ 3; omega) (by rw [vc.2.2.2]; simp [vc.1])
    rw [this, vc.2.2.2]; rfl
  have ic := (hI.gw G).il.cell
  have d8 : ((8 - (cs.length : Int)) == 0) = false := by simp; omega
  have x1 : beqA it it = true := ic.2.1
  have x2 : beqA (.agg (itV c)) (.agg (itV c)) = true := by simp [itV, beqA, beqL, intV, nilS, beqBase]
  have x3 : bndO (s7.n + 1) (.cells (itV c) 48 true 7) = true := rfl
  have x4 : bndA (s7.n + 1) v1 = true := c2 _ (by omega)
  have x5 : bndA (s7.n + 1) (.slice s7.n 0 1 (some 1) 7) = true := by
    show Nat.blt s7.n (s7.n + 1) = true
    rw [blt_eq]; simp
  have x6 : bndA S.n it' = true := vc.2.2.1 _ (Nat.le_refl _)
  have lt := hA.1
  have x7 : bndA S.n (.ptr q 1) = true := by
    show Nat.blt q S.n = true
    rw [blt_eq]; simp; omega
  have y1 : Nat.ble (s7.n + 1) S.n = true := Nat.ble_eq_true_of_le (by omega)
  have y2 : Nat.ble S.n S'.n = true := Nat.ble_eq_true_of_le (by rw [hS']; exact Nat.le_refl _)
  have e := ec78 (kRet tab [.tmp 4]) (.ptr q 0) (.agg (itV c)) σ
  simp (decide := true) only [mv_eq, g1_eq, g2_eq, g3_eq, g4_eq, bindR_val, retK_ret, condR_boolV, condT, condF, binOp_int, intOp_eql, box48', nilCheck_ptr, lq, p1, d8, fa202, fa27_1', Nat.zero_add, l18, (hI.gw G).il.lenV, sameR, x1, Bool.and_true, c1, l29, x2, bs7, x3, push_n, List.all_cons, List.all_nil, x4, x5, Bool.and_self, c4', y1, x6, x7, st, y2, r78, puts_cons, puts_nil, putE_same] at e
  refine ⟨it', S', w78 (by simp) e, ?_, ?_, ?_⟩
  · rw [hS']; exact (((G.trans gS).up lo).hold q).trans (Hold.set AS.1 _)
  · rw [hS']; exact AS.set_same ((G.trans gS).len hw) _
  · rw [hS']
    exact VS.mono (Nat.le_refl _) (Nat.le_refl _) (Nat.le_refl _) fun b hb _ _ => getO_set_other AS.1 (by omega)
end Go.Proofs.YtkpkmjanikkpoaaGreatDoor
namespace Go.Proofs.YtkpkmjanikkpoaaGreatDoor
open Go Go.Dt
set_option maxRecDepth 100000

/- queue.PutAll -/
def z27 : List AV := [intV .i64 0, nilS, intV .i64 0]
theorem alloc27 (n : Nat) : allocA tab 27 n = .ok (.ptr n 0, .cells z27 27 true 3) := by kernel_rfl
theorem alloc202 (n : Nat) : allocA tab 202 n = .ok (.ptr n 0, .cells z27 202 true 3) := by kernel_rfl
theorem build202 (it : AV) : Dt.build tab 202 [(0, .agg (quC it))] = .ok (.agg (quC it)) := by kernel_rfl
theorem s202 : sizeB 202 3 = true := by kernel_rfl
theorem wrap_u (i : Nat) (h : i < 100) : IntKind.u64.wrap ((i : Int) + 1) = ((i + 1 : Nat) : Int) := by
  have hb : IntKind.u64.bits = 64 := rfl
  have hs : IntKind.u64.signed = false := rfl
  simp only [IntKind.wrap, hb, hs]
  simp
  omega
theorem add203 (a : Int) : Dt.binOp tab .add 203 (intV .u64 a) (intV .u64 1) true = intOp .add .u64 .u64 a 1 := by kernel_rfl
/-- the loop of PutAll -/
theorem loop35 (q lo lq : Nat) (v : AV) (cs : List Int) (_ : ∀ c ∈ cs, okC c) (hlen : cs.length ≤ 8) : ∀ (m i : Nat), i + m = cs.length → ∀ (T : Rg) (σ : St) (it : AV) (z : AV), WF σ → σ.M = M0 →
    q < lo → lo ≤ σ.n → lq ≤ q → IL σ 0 lq v cs → At σ q (.cells (quC it) 202 true 3) → IV σ lo σ.n it (cs.take i) →
    T 8 = .ptr q 0 → T 9 = intV .u64 (i : Int) → T 24 = v → T 25 = intV .i64 (cs.length : Int) → T 26 = intV .i64 (i : Int) → T 4 = z →
    ∃ T' σ' it', loopLim (dd tab W V 39 c35_1_1_1_1_1_0_1_0_0) T σ = .ok (.exit 0 T' σ') ∧ Hold q lo σ σ' ∧ At σ' q (.cells (quC it') 202 true 3) ∧ IV σ' lo σ'.n it' cs ∧ T' 8 = .ptr q 0 ∧ T' 9 = intV .u64 (cs.length : Int) ∧ T' 4 = z := by
  intro m
  induction m with
  | zero =>
    intro i hm T σ it z hw hM h1 h2 h3 hI hA hV t8 t9 t24 t25 t26 t4
    have e := ec35_1_1_1_1_1_0_1_0_0 kOc T σ
    have d1 : decide ((i : Int) < (cs.length : Int)) = false := by simp; omega
    simp only [g1_eq, bindR_val, t25, t26, binOp_int, intOp_lss, d1, condR_boolV, condF, kOc_exit] at e
    have hi : cs.take i = cs := List.take_of_length_le (by omega)
    rw [hi] at hV
    have ie : i = cs.length := by omega
    refine ⟨_, σ, it, loop_exit (dd_of tab W V 39 e), Hold.refl _ _ _, hA, hV, ?_, ?_, ?_⟩ <;> simp (decide := true) only [puts_cons, puts_nil, putE_ne, t8, t9, t4, ie]
  | succ m ih =>
    intro i hm T σ it z hw hM h1 h2 h3 hI hA hV t8 t9 t24 t25 t26 t4
    have hil : i < cs.length := by omega
    obtain ⟨c, hc⟩ : ∃ c, cs[i]? = some c := ⟨_, List.getElem?_eq_getElem hil⟩
    obtain ⟨b, g1, g2⟩ := hI.get hc
    obtain ⟨s4, e1, A4, g4, n4, l4⟩ := box48 c hw
    have n44 := g4.n
    obtain ⟨it', s8, p1, H8, A8, V8⟩ := W78 (c := c) (by rw [List.length_take]; omega) (g4.len hw) (hA.gw g4) h1 (Nat.le_trans h2 n44) ((hV.gw g4).le (Nat.le_refl _) n44)
    have ht : cs.take (i + 1) = cs.take i ++ [c] := by rw [List.take_add_one, hc]; rfl
    rw [← ht] at V8
    have H : Hold q lo σ s8 := ((g4.up lo).hold q).trans H8
    have e := ec35_1_1_1_1_1_0_1_0_0 kOc T σ
    have d1 : decide ((i : Int) < (cs.length : Int)) = true := by simp; omega
    have w1 : IntKind.i64.wrap ((i : Int) + 1) = ((i + 1 : Nat) : Int) := by rw [wrapI (by omega) (by omega)]; omega
    have w2 : intOp .add .u64 .u64 (i : Int) 1 = .ok (intV .u64 ((i + 1 : Nat) : Int)) := by
      rw [intOp_add, wrap_u i (by omega)]
    simp (decide := true) only [mv_eq, g1_eq, g2_eq, g3_eq, bindR_val, retK_ret, condR_boolV, condT, binOp_int, intOp_add, intOp_lss, kOc_nxt, kOc_exit, t8, t9, t24, t25, t26, d1, g1, g2, alloc48, e1, l4, p1, w2, ec35_1_1_1_1_1_0_1_0_0_1_1_1, w1, puts_cons, puts_nil, putE_ne] at e
    obtain ⟨T1, ee, k8, k9, k24, k25, k26, k4⟩ : ∃ T1, denK tab W V 39 c35_1_1_1_1_1_0_1_0_0 kOc T σ = .ok (.nxt T1 s8) ∧ T1 8 = .ptr q 0 ∧ T1 9 = intV .u64 ((i + 1 : Nat) : Int) ∧ T1 24 = v ∧ T1 25 = intV .i64 (cs.length : Int) ∧ T1 26 = intV .i64 ((i + 1 : Nat) : Int) ∧ T1 4 = z := by
      refine ⟨_, e, ?_, ?_, ?_, ?_, ?_, ?_⟩ <;> simp (decide := true) only [putE_same, putE_ne, t8, t24, t25, t4]
    obtain ⟨T', σ', it2, z1, z2, z3, z4, z5, z6, z7⟩ := ih (i + 1) (by omega) T1 s8 it' z (H.len hw) (H.M.trans hM) h1 (Nat.le_trans h2 H.n) h3
      (hI.mono (Nat.le_refl _) (Nat.le_refl _) H.n fun b _ hb hbn => H.old b hbn (by omega) (by omega)) A8 V8 k8 k9 k24 k25 k26 k4
    exact ⟨T', σ', it2, loop_next (dd_of tab W V 39 ee) z1, H.trans z2, z3, z4, z5, z6, z7⟩
end Go.Proofs.YtkpkmjanikkpoaaGreatDoor
namespace Go.Proofs.YtkpkmjanikkpoaaGreatDoor
open Go Go.Dt
set_option maxRecDepth 100000

theorem Hold.up {n1 lo lo' : Nat} {σ σ' : St} (h : Hold n1 lo σ σ') (h1 : lo' ≤ n1) (h2 : lo' ≤ lo) : Up lo' σ σ' := ⟨h.n, fun b hb hl => h.old b hb (by omega) (by omega), h.len, h.M⟩
theorem und3 : und tab 3 = .ok (.int .i64) := by kernel_rfl
theorem und203 : und tab 203 = .ok (.int .u64) := by kernel_rfl
theorem quC_one {it : AV} (h : AV.oneCell it = true) : (quC it).all AV.oneCell = true := by
  simp only [quC, List.all_cons, List.all_nil, h]; rfl
theorem quC_spl (a b c it : AV) : splice [a, b, c] 0 (quC it) = quC it := rfl
/-- a queue is stored -/
theorem st27 {σ : St} {b : Nat} {cs : List AV} {e : Nat} {it : AV} (hA : At σ b (.cells cs e true 3)) (hc : cs.length = 3) (ho : AV.oneCell it = true) : storeV tab σ 27 (.ptr b 0) (.agg (quC it)) = .ok (σ.set b (.cells (quC it) e true 3)) := by
  have := stv (o := 0) (x := .agg (quC it)) s27 hA rfl (by omega) (by omega) (quC_one ho)
  rw [this]
  congr 3
  match cs, hc with
  | [_, _, _], _ => rfl
/-- queue.PutAll, of a queue without items -/
theorem W35 {v : AV} {cs : List Int} (hok : ∀ c ∈ cs, okC c) (hlen : cs.length ≤ 8) {σ : St} (hw : WF σ) (hM : σ.M = M0) (hI : IL σ 0 σ.n v cs) :
    ∃ it' σ', W 35 [.agg (quC nilS), v] σ = .ok (.ret (.tuple [.agg (quC it'), intV .i64 (cs.length : Int), intV .i64 0]), σ') ∧ Gw σ σ' ∧ IV σ' σ.n σ'.n it' cs := by
  obtain ⟨S1, hS1⟩ : ∃ S1, S1 = (σ.push (.cells (quC nilS) 27 true 3)).push (.cells z27 27 true 3) := ⟨_, rfl⟩
  have G1 : Gw σ S1 := by rw [hS1]; exact (Gw.push _ _).trans (Gw.push _ _)
  have n1 : S1.n = σ.n + 2 := by rw [hS1]; rfl
  have A0 : At S1 σ.n (.cells (quC nilS) 27 true 3) := by rw [hS1]; exact (At.new _ _).push _
  have A1 : At S1 (σ.n + 1) (.cells z27 27 true 3) := by rw [hS1]; exact At.new _ _
  have l0 : loadV tab S1 27 (.ptr σ.n 0) = .ok (.agg (quC nilS)) := lda a27 A0 rfl rfl
  obtain ⟨s3, p3, g3⟩ := W76 (it := nilS) (cs := []) (lo := 0) (hi := 0) (by simp) (by simp) (G1.len hw) (G1.M.trans hM) ⟨.inl ⟨rfl, rfl⟩⟩
  have G3 := G1.trans g3
  obtain ⟨s10, p10, g10⟩ := W77 hok (by omega) (G3.len hw) (G3.M.trans hM) (hI.gw G3)
  have G10 := G3.trans g10
  have l1 : loadV tab s10 27 (.ptr σ.n 0) = .ok (.agg (quC nilS)) := lda a27 ((A0.gw g3).gw g10) rfl rfl
  have A2 := At.new s10 (.cells z27 202 true 3)
  obtain ⟨s11, hs11⟩ : ∃ s11, s11 = (s10.push (.cells z27 202 true 3)).set s10.n (.cells (quC nilS) 202 true 3) := ⟨_, rfl⟩
  have st11 : storeV tab (s10.push (.cells z27 202 true 3)) 202 (.ptr s10.n 0) (.agg (quC nilS)) = .ok s11 := by
    rw [hs11]
    exact stv (o := 0) (x := .agg (quC nilS)) s202 A2 rfl (by omega) (Nat.le_refl _) rfl
  have g11 : Gw s10 s11 := by rw [hs11]; exact ((Gw.push s10 _).up s10.n |>.trans (Up.set (Nat.le_refl _) A2.1 _)).gw (Nat.le_refl _)
  have A11 : At s11 s10.n (.cells (quC nilS) 202 true 3) := by rw [hs11]; exact A2.set_same (WF.push (G10.len hw) _) _
  have n11 : s11.n = s10.n + 1 := by rw [hs11]; rfl
  have G11 := G10.trans g11
  have n10 := (g3.trans g10).n
  have e := ec35 (kRet tab [.cell 4 27, .tmp 5, .tmp 6]) (.agg (quC nilS)) v σ
  have d0 : ((0 : Int) == 0) = true := rfl
  have d1 : ((0 : Int) != 0) = false := rfl
  have a1 : argE [.agg (quC nilS), v] 1 = v := rfl
  simp (decide := true) only [mv_eq, g1_eq, g2_eq, g3_eq, bindR_val, retK_ret, condR_boolV, condT, condF, binOp_int, intOp_eql, intOp_neq, box27', push_n, alloc27, ← hS1, a1, ec35_1, l0, p3, d0, p10, ec35_1_1_1, d1, l1, build202, alloc202, st11, hI.lenV, puts_cons, puts_nil, putE_same, putE_ne] at e
  obtain ⟨T0, ea, t8, t9, t24, t25, t26, t4⟩ : ∃ T0 : Rg, denK tab W V 39 c35 (kRet tab [.cell 4 27, .tmp 5, .tmp 6]) (argE [.agg (quC nilS), v]) σ = bindR (loopLim (dd tab W V 39 c35_1_1_1_1_1_0_1_0_0) T0 s11) (K.app (kblk 0 (kseq (denK tab W V 39 c35_1_1_1_1_1_1 (kRet tab [.cell 4 27, .tmp 5, .tmp 6])) (kRet tab [.cell 4 27, .tmp 5, .tmp 6])))) ∧ T0 8 = .ptr s10.n 0 ∧ T0 9 = intV .u64 ((0 : Nat) : Int) ∧ T0 24 = v ∧ T0 25 = intV .i64 (cs.length : Int) ∧ T0 26 = intV .i64 ((0 : Nat) : Int) ∧ T0 4 = .ptr (σ.n + 1) 0 := by
    refine ⟨_, e, ?_, ?_, ?_, ?_, ?_, ?_⟩ <;> simp (decide := true) only [putE_same, putE_ne] <;> rfl
  obtain ⟨T', s12, it', z1, z2, z3, z4, z5, z6, z7⟩ := loop35 s10.n (s10.n + 1) σ.n v cs hok hlen cs.length 0 (by omega) T0 s11 nilS (.ptr (σ.n + 1) 0) (G11.len hw) (G11.M.trans hM) (by omega) (by omega) (by omega) (hI.gw G11) A11 ⟨.inl ⟨rfl, by simp⟩⟩ t8 t9 t24 t25 t26 t4
  have A1' : At s12 (σ.n + 1) (.cells z27 27 true 3) := (((A1.gw g3).gw g10).gw g11).hold z2 (by omega) (by omega)
  have l12 : loadV tab s12 27 (.ptr s10.n 0) = .ok (.agg (quC it')) := lda a27 z3 rfl rfl
  have vc := z4.il.cell
  obtain ⟨s13, hs13⟩ : ∃ s13, s13 = s12.set (σ.n + 1) (.cells (quC it') 27 true 3) := ⟨_, rfl⟩
  have st13 : storeV tab s12 27 (.ptr (σ.n + 1) 0) (.agg (quC it')) = .ok s13 := by rw [hs13]; exact st27 A1' rfl vc.1
  have U12 : Up σ.n σ s12 := (G11.up _).trans (z2.up (by omega) (by omega))
  have A13 : At s13 (σ.n + 1) (.cells (quC it') 27 true 3) := by rw [hs13]; exact A1'.set_same (U12.len hw) _
  have lr : loadV tab s13 27 (.ptr (σ.n + 1) 0) = .ok (.agg (quC it')) := lda a27 A13 rfl rfl
  have U13 : Up σ.n s12 s13 := by rw [hs13]; exact Up.set (by omega) A1'.1 _
  have n12 := z2.n
  have n13 : s13.n = s12.n := by rw [hs13]; rfl
  refine ⟨it', s13, w35 (by simp) ?_, (U12.trans U13).gw (Nat.le_refl _), ?_⟩
  · rw [ea, z1, bindR_val]
    have cv : convR tab s12 203 3 (intV .u64 (cs.length : Int)) = .ok (intV .i64 (cs.length : Int)) := by
      rw [convR_int und203 und3, wrapI (by omega) (by omega)]
    simp (decide := true) only [mv_eq, g1_eq, g3_eq, bindR_val, app_exit, kblk_exit, kseq_nxt, kseq_exit, ec35_1_1_1_1_1_1, z5, z6, z7, fa202, l12, cv, st13, kRet, resK, lr, puts_cons, puts_nil, putE_same, putE_ne]
    rfl
  · refine z4.mono (by omega) (by omega) (by omega) fun b hb1 hb2 _ => ?_
    rw [hs13, getO_set_other A1'.1 (by omega)]
end Go.Proofs.YtkpkmjanikkpoaaGreatDoor
namespace Go.Proofs.YtkpkmjanikkpoaaGreatDoor
open Go Go.Dt
set_option maxRecDepth 100000

theorem app_in {σ s : St} {b L c n : Nat} {cs new : List AV} {x : AV} (hA : At σ b (.cells cs 71 true 24)) (hl : L * 24 ≤ cs.length) (hL : L + n < 1000) (hc : L + n ≤ c) (hx : srcCells σ 24 x = .ok (new, n)) (hst : Dt.storeCells σ b (L * 24) new = .ok s) :
    appendV tab σ 24 24 (.slice b 0 L (some c) 24) x = .ok (.slice b 0 (L + n) (some c) 24, s) := by
  have hok := app24
  unfold appB at hok
  split at hok
  · rename_i e' s' i xd z h1 h2 h3 h4 h5
    simp only [Bool.and_eq_true, beq_iff_eq, decide_eq_true_eq, Bool.not_eq_true'] at hok
    obtain ⟨⟨⟨⟨rfl, rfl⟩, hb⟩, hx2⟩, hz⟩ := hok
    have hcc : (!(decide (n < 2 ^ 30) && decide (0 < i.bytes ∧ i.bytes < 2 ^ 14 ∧ 0 < 24) && !isIntD xd && z.cells.length == 24)) = false := by
      simp only [Bool.not_eq_false', Bool.and_eq_true, decide_eq_true_eq, beq_iff_eq, hx2, Bool.not_false, hz, and_true]
      exact ⟨by omega, hb⟩
    have c2 : (!(decide (L + n < 2 ^ 30) && true)) = false := by simp; omega
    have ht : (List.take (L * 24) (List.drop 0 cs)).length = L * 24 := by rw [List.drop_zero, List.length_take]; omega
    simp only [appendV, h1, h2, h3, h4, h5, hx, bindR_eq, bindR_val, hcc, c2, cellsOf, hA.1, hA.2, if_true, takeN, ht, beq_self_eq_true, Bool.false_eq_true, if_false, Nat.zero_add]
    rw [if_pos hc, hst]
    rfl
  · cases hok

/-- without, and one more at the end -/
theorem W33 (p : Nat) (v : AV) (qs : List (Nat × Int)) (hp : p < qs.length) (hlen : qs.length < 900) (σ : St) (hw : WF σ) {lo mid : Nat} (hlm : lo ≤ mid) (hm0 : mid ≤ σ.n) (hV : QV x0 σ lo mid v qs)
    {bx : Nat} {cx : Option Nat} {r : List AV} {j : Nat} {m : Int} (hX : At σ bx (.cells r 71 true 24)) (hr : DpL σ lo σ.n (x0 j m) r) :
    ∃ v' σ', W 33 [v, intV .i64 (p : Int), .slice bx 0 1 cx 24] σ = .ok (.ret v', σ') ∧ Gw σ σ' ∧ QL x0 σ' lo σ'.n v' (cut p qs ++ [(j, m)]) := by
  obtain ⟨L, hL⟩ : ∃ L, L = qs.length := ⟨_, rfl⟩
  rcases hV.is with ⟨rfl, rfl⟩ | ⟨b, rows, rfl, k2, k3, k4, k5⟩
  · simp at hp
  rw [← hL] at hp hlen ⊢
  have hrl := k5.lens fam0
  have hfl := k5.flen fam0
  rw [← hL] at hfl
  have hone := k5.one fam0
  have hrows : rows.length = L := by rw [hrl.2, hL]
  have hr24 : r.length = 24 := by rw [hr.length, fam0.len]
  have hro := (hr.cells (fam0.pl j m)).1
  obtain ⟨ft1, fd1⟩ := flat_take24 rows hrl.1 p
  obtain ⟨ft2, fd2⟩ := flat_take24 rows hrl.1 (p + 1)
  -- the new row of cells
  obtain ⟨s1, hs1⟩ : ∃ s1, s1 = σ.push (.cells (repeatL z68 (L + 1)) 71 true 24) := ⟨_, rfl⟩
  have g1 : Gw σ s1 := by rw [hs1]; exact Gw.push _ _
  have A1 : At s1 σ.n (.cells (repeatL z68 (L + 1)) 71 true 24) := by rw [hs1]; exact At.new _ _
  have kb1 := k4.gw g1
  have nl1 : (rows.take p).flatten.length = p * 24 := by rw [← ft1, List.length_take, hfl]; omega
  have sc1 : srcCells s1 24 (.slice b 0 p none 24) = .ok ((rows.take p).flatten, p) := src24 kb1 (by rw [List.drop_zero]; exact ft1) nl1
  have o1 : ((rows.take p).flatten).all AV.oneCell = true := by
    rw [← ft1, List.all_eq_true]
    exact fun x hx => List.all_eq_true.1 hone x (List.mem_of_mem_take hx)
  have t1 : ((rows.take p).flatten).take (p * 24) = (rows.take p).flatten := List.take_of_length_le (by omega)
  obtain ⟨s2, c1, A2, u2, n2⟩ := stC (g1.len hw) A1 (o := 0) (l := (rows.take p).flatten) (by rw [nl1, repL_len]; omega) o1
  have hsp1 : splice (repeatL z68 (L + 1)) 0 (rows.take p).flatten = (rows.take p).flatten ++ repeatL z68 (L + 1 - p) := by
    have e : repeatL z68 (L + 1) = (repeatL z68 (L + 1)).take (p * 24) ++ (repeatL z68 (L + 1)).drop (p * 24) := (List.take_append_drop _ _).symm
    have := splice_mid [] ((repeatL z68 (L + 1)).take (p * 24)) ((repeatL z68 (L + 1)).drop (p * 24)) (rows.take p).flatten (by rw [nl1, List.length_take, repL_len]; omega)
    rw [List.nil_append, List.nil_append, ← e, repL_drop (L + 1) p (by omega)] at this
    exact this
  rw [hsp1] at A2
  have cp1 := copy24 (dlen := L - 1) (cap := some (L + 1)) (z := 24) (b := σ.n) (o := 0) sc1 (by omega) (by rw [t1]; exact c1)
  have U2 : Up σ.n σ s2 := (g1.up _).trans u2
  have kbn := k4.1
  have kb2 : At s2 b (.cells rows.flatten 71 true 24) := k4.up U2 kbn
  -- the rest
  have nl2 : (rows.drop (p + 1)).flatten.length = (L - 1 - p) * 24 := by rw [← fd2, List.length_drop, hfl]; omega
  have o2 : ((rows.drop (p + 1)).flatten).all AV.oneCell = true := by
    rw [← fd2, List.all_eq_true]
    exact fun x hx => List.all_eq_true.1 hone x (List.mem_of_mem_drop hx)
  have t2 : ((rows.drop (p + 1)).flatten).take ((L - 1 - p) * 24) = (rows.drop (p + 1)).flatten := List.take_of_length_le (by omega)
  obtain ⟨s3, c2, A3, u3, n3⟩ := stC (U2.len hw) A2 (o := p * 24) (l := (rows.drop (p + 1)).flatten) (by rw [nl2, List.length_append, nl1, repL_len]; omega) o2
  have hsp2 : splice ((rows.take p).flatten ++ repeatL z68 (L + 1 - p)) (p * 24) (rows.drop (p + 1)).flatten = (rows.take p ++ rows.drop (p + 1)).flatten ++ (z68 ++ z68) := by
    have e : repeatL z68 (L + 1 - p) = (repeatL z68 (L + 1 - p)).take ((L - 1 - p) * 24) ++ (repeatL z68 (L + 1 - p)).drop ((L - 1 - p) * 24) := (List.take_append_drop _ _).symm
    have := splice_mid (rows.take p).flatten ((repeatL z68 (L + 1 - p)).take ((L - 1 - p) * 24)) ((repeatL z68 (L + 1 - p)).drop ((L - 1 - p) * 24)) (rows.drop (p + 1)).flatten (by rw [nl2, List.length_take, repL_len]; omega)
    rw [nl1, ← e, repL_drop (L + 1 - p) (L - 1 - p) (by omega)] at this
    rw [this, List.flatten_append, List.append_assoc]
    have : L + 1 - p - (L - 1 - p) = 2 := by omega
    rw [this]
    show _ ++ (_ ++ (z68 ++ (z68 ++ []))) = _
    rw [List.append_nil]
  rw [hsp2] at A3
  have U3 : Up σ.n σ s3 := U2.trans u3
  have nl3 : (rows.take p ++ rows.drop (p + 1)).flatten.length = (L - 1) * 24 := by
    rw [List.flatten_append, List.length_append, nl1, nl2]; omega
  -- one more
  have hXn := hX.1
  have X3 : At s3 bx (.cells r 71 true 24) := hX.up U3 hXn
  have sc3 : srcCells s3 24 (.slice bx 0 1 cx 24) = .ok (r, 1) := src24 X3 (by rw [List.drop_zero]; exact List.take_of_length_le (by omega)) (by omega)
  obtain ⟨s4, c4, A4, u4, n4⟩ := stC (U3.len hw) A3 (o := (L - 1) * 24) (l := r) (by rw [List.length_append, nl3, hr24]; show (L - 1) * 24 + 24 ≤ (L - 1) * 24 + 48; omega) hro
  have hsp4 : splice ((rows.take p ++ rows.drop (p + 1)).flatten ++ (z68 ++ z68)) ((L - 1) * 24) r = (rows.take p ++ rows.drop (p + 1) ++ [r]).flatten ++ z68 := by
    have := splice_mid (rows.take p ++ rows.drop (p + 1)).flatten z68 z68 r (by rw [hr24]; rfl)
    rw [nl3] at this
    rw [this, List.flatten_append (L₁ := rows.take p ++ rows.drop (p + 1)), List.append_assoc]
    simp
  rw [hsp4] at A4
  have U4 : Up σ.n σ s4 := U3.trans u4
  have sc2 : ∃ x, sliceV tab 24 (.slice b 0 L none 24) (some (intV .i64 ((p + 1 : Nat) : Int))) none none = .ok x ∧ srcCells s2 24 x = .ok ((rows.drop (p + 1)).flatten, L - 1 - p) ∧ bndA s2.n x = true := by
    have hbn : Nat.blt b s2.n = true := by rw [blt_eq]; simp; exact kb2.1
    by_cases h : p + 1 < L
    · refine ⟨_, sl_lo b L (p + 1) (by omega) h, ?_, hbn⟩
      have : L - (p + 1) = L - 1 - p := by omega
      rw [this]
      exact src24 kb2 (by rw [fd2]; exact List.take_of_length_le (by omega)) nl2
    · have hpl : p + 1 = L := by omega
      refine ⟨.sliceZ b 0 L 24, by rw [hpl]; exact sl_lo_all b L (by omega), ?_, hbn⟩
      have : rows.drop (p + 1) = [] := List.drop_eq_nil_of_le (by omega)
      rw [this]
      have : L - 1 - p = 0 := by omega
      rw [this]
      rfl
  obtain ⟨x, hx1, hx2, hx3⟩ := sc2
  have cp2 := copy24 (dlen := L - 1 - p) (cap := some (L + 1 - p)) (z := 24) (b := σ.n) (o := p * 24) hx2 (Nat.le_refl _) (by rw [t2]; exact c2)
  have slo := sl_loc σ.n (L - 1) (L + 1) p (by omega) (by omega)
  have happ : appendV tab s3 24 24 (.slice σ.n 0 (L - 1) (some (L + 1)) 24) (.slice bx 0 1 cx 24) = .ok (.slice σ.n 0 (L - 1 + 1) (some (L + 1)) 24, s4) :=
    app_in A3 (by rw [List.length_append, nl3]; omega) (by omega) (by omega) sc3 c4
  have e1 : L - 1 + 1 = L := by omega
  rw [e1] at happ
  refine ⟨.slice σ.n 0 L (some (L + 1)) 24, s4, w33 (by simp) ?_, U4.gw (Nat.le_refl _), ?_⟩
  · rw [ec33]
    have q0 : argE [.slice b 0 L none 24, intV .i64 (p : Int), .slice bx 0 1 cx 24] 0 = .slice b 0 L none 24 := rfl
    have q1 : argE [.slice b 0 L none 24, intV .i64 (p : Int), .slice bx 0 1 cx 24] 1 = intV .i64 (p : Int) := rfl
    have q2 : argE [.slice b 0 L none 24, intV .i64 (p : Int), .slice bx 0 1 cx 24] 2 = .slice bx 0 1 cx 24 := rfl
    have w1 : IntKind.i64.wrap ((L : Int) - 1) = ((L - 1 : Nat) : Int) := by rw [wrapI (by omega) (by omega)]; omega
    have w2 : IntKind.i64.wrap ((L : Int) + ((1 : Nat) : Int)) = ((L + 1 : Nat) : Int) := by rw [wrapI (by omega) (by omega)]; omega
    have w3 : IntKind.i64.wrap ((p : Int) + 1) = ((p + 1 : Nat) : Int) := by rw [wrapI (by omega) (by omega)]; omega
    have b1 : bndA s2.n (.slice σ.n (p * 24) (L - 1 - p) (some (L + 1 - p)) 24) = true := by
      show Nat.blt σ.n s2.n = true
      rw [blt_eq]; simp; exact A2.1
    have b2 : Nat.ble s2.n s3.n = true := Nat.ble_eq_true_of_le (by omega)
    simp (decide := true) only [mv_eq, g1_eq, g4_eq, bindR_val, condT, binOp_int, intOp_add, intOp_sub, puts_cons, puts_nil, putE_same, putE_ne, len24s, w1, w2, mk24 (L - 1) (L + 1) (by omega) (by omega) (by omega), sl_hi b L p (by omega), ← hs1, cp1, nextK_val, q0, q1, q2, slo, w3, hx1, hx3, b1, List.all_cons, List.all_nil, Bool.and_self, cp2, b2, happ, r33, nilS_eq]
  · have A4n := A4.1
    refine ⟨.inr ⟨σ.n, some (L + 1), rows.take p ++ rows.drop (p + 1) ++ [r], z68, ?_, by omega, A4n, A4, ?_⟩⟩
    · rw [List.length_append, cut_len p qs (by omega), ← hL, List.length_singleton, e1]
    · refine RowsQ.app ?_ ⟨?_, trivial⟩
      · refine RowsQ.mono (Nat.le_refl _) (by omega) ?_ (RowsQ.app (k5.take p) (k5.drop (p + 1)))
        intro c _ hc hg
        exact U4.old c (getO_gone hg) (by omega)
      · exact DpL.mono (Nat.le_refl _) (by omega) (fun c _ hc hg => U4.old c (getO_gone hg) hc) _ _ hr
end Go.Proofs.YtkpkmjanikkpoaaGreatDoor
namespace Go.Proofs.YtkpkmjanikkpoaaGreatDoor
open Go Go.Dt
set_option maxRecDepth 100000

/- (*queue).poll -/
theorem min_int (a b : Int) (n : Nat) (hn : (n : Int) = min a b) : minMax false (intV .i64 a) [intV .i64 b] = .ok (intV .i64 (n : Int)) := by
  have e : minMax false (intV .i64 a) [intV .i64 b] = .ok (intV .i64 (if b < a then b else a)) := eqBy rfl
  rw [e]
  by_cases h : b < a
  · rw [if_pos h]
    have : (n : Int) = b := by omega
    rw [this]
  · rw [if_neg h]
    have : (n : Int) = a := by omega
    rw [this]
theorem sl0i (b L : Nat) : sliceV tab 25 (.slice b 0 L none 7) (some (intV .i64 ((0 : Nat) : Int))) none none = .ok (.slice b 0 L none 7) := by
  unfold sliceV
  simp only [u25, bindR_eq, bindR_val, sz48, boundO, bound_nat 0 L (Nat.zero_le _)]
  rfl
theorem sl1i (b L q : Nat) (h0 : 0 < q) (h : q < L) : sliceV tab 25 (.slice b 0 L none 7) (some (intV .i64 (q : Int))) none none = .ok (.slice b (q * 7) (L - q) none 7) := by
  unfold sliceV
  simp only [u25, bindR_eq, bindR_val, sz48, boundO, bound_nat q L (by omega)]
  rw [if_pos (show True ∧ 0 < 7 from ⟨trivial, by omega⟩), if_neg (show ¬ q = 0 by omega), if_pos h, Nat.zero_add]
  rfl
theorem sl2i (b L : Nat) (h0 : 0 < L) : sliceV tab 25 (.slice b 0 L none 7) (some (intV .i64 (L : Int))) none none = .ok (.sliceZ b 0 L 7) := by
  unfold sliceV
  simp only [u25, bindR_eq, bindR_val, sz48, boundO, bound_nat L L (Nat.le_refl _)]
  rw [if_pos (show True ∧ 0 < 7 from ⟨trivial, by omega⟩), if_neg (show ¬ L = 0 by omega), if_neg (show ¬ L < L by omega)]
  rfl
theorem srcI {σ : St} {b o n : Nat} {cap : Option Nat} {z : Nat} {cs l : List AV} {e : Nat} {ow : Bool} (hA : At σ b (.cells cs e ow 7)) (hl : (cs.drop o).take (n * 7) = l) (hn : l.length = n * 7) :
    srcCells σ 7 (.slice b o n cap z) = .ok (l, n) := by
  unfold srcCells cellsOf takeN
  simp only [hA.1, if_true, hA.2, bindR_eq, bindR_val, hl]
  rw [if_pos hn]
  rfl
/-- the two halves of a list -/
theorem halves {σ : St} {lo hi : Nat} {it : AV} {cs : List Int} (h : IV σ lo hi it cs) (n : Nat) (hn : n ≤ cs.length) :
    (∃ v, sliceV tab 25 it none (some (intV .i64 (n : Int))) (some (intV .i64 (n : Int))) = .ok v ∧ (v = nilS ∧ cs.take n = [] ∨ ∃ b o n' cap z, v = .slice b o n' cap z ∨ v = .sliceZ b o n' z) ∧ ∀ s, Up hi σ s → srcCells s 7 v = .ok (itR (cs.take n), (cs.take n).length)) ∧
    (∃ v, sliceV tab 25 it (some (intV .i64 (n : Int))) none none = .ok v ∧ (v = nilS ∧ cs.drop n = [] ∨ ∃ b o n' cap z, v = .slice b o n' cap z ∨ v = .sliceZ b o n' z) ∧ ∀ s, Up hi σ s → srcCells s 7 v = .ok (itR (cs.drop n), (cs.drop n).length)) := by
  rcases h.is with ⟨rfl, rfl⟩ | ⟨b, rfl, k2, k3, k4⟩
  · have : n = 0 := by simpa using hn
    subst this
    exact ⟨⟨nilS, sl3n, .inl ⟨rfl, rfl⟩, fun _ _ => rfl⟩, ⟨nilS, sl1n, .inl ⟨rfl, rfl⟩, fun _ _ => rfl⟩⟩
  · obtain ⟨h1, h2⟩ := itR_td cs n
    have lt : (cs.take n).length = n := by rw [List.length_take]; omega
    have ld : (cs.drop n).length = cs.length - n := List.length_drop
    refine ⟨⟨_, sl3i b cs.length n hn, .inr ⟨_, _, _, _, _, .inl rfl⟩, fun s u => ?_⟩, ?_⟩
    · rw [lt]
      exact srcI (k4.up u k3) (by rw [List.drop_zero]; exact h1) (by rw [itR_len, lt])
    · by_cases h0 : n = 0
      · subst h0
        refine ⟨_, sl0i b cs.length, .inr ⟨_, _, _, _, _, .inl rfl⟩, fun s u => ?_⟩
        simp only [List.drop_zero]
        exact srcI (k4.up u k3) (by rw [List.drop_zero]; exact List.take_of_length_le (by rw [itR_len]; omega)) (by rw [itR_len])
      · by_cases h3 : n < cs.length
        · refine ⟨_, sl1i b cs.length n (by omega) h3, .inr ⟨_, _, _, _, _, .inl rfl⟩, fun s u => ?_⟩
          rw [ld]
          exact srcI (k4.up u k3) (by rw [h2]; exact List.take_of_length_le (by rw [itR_len, ld]; omega)) (by rw [itR_len, ld])
        · have hl : n = cs.length := by omega
          refine ⟨.sliceZ b 0 cs.length 7, by rw [hl]; exact sl2i b cs.length (by omega), .inr ⟨b, 0, cs.length, none, 7, .inr rfl⟩, fun s u => ?_⟩
          have : cs.drop n = [] := List.drop_eq_nil_of_le (by omega)
          rw [this]; rfl
theorem W83 {it : AV} {cs : List Int} {q lo : Nat} {most : Int} (n : Nat) (hn : (n : Int) = min most (cs.length : Int)) (hcl : cs.length ≤ 8) {σ : St} (hw : WF σ) (hA : At σ q (.cells (quC it) 202 true 3)) (hI : IV σ lo σ.n it cs) :
    ∃ out it' σ', W 83 [.ptr q 0, intV .i64 most] σ = .ok (.ret out, σ') ∧ Hold q σ.n σ σ' ∧ At σ' q (.cells (quC it') 202 true 3) ∧ IC σ' σ.n σ'.n out (cs.take n) ∧ IC σ' σ.n σ'.n it' (cs.drop n) := by
  have hnl : n ≤ cs.length := by omega
  obtain ⟨⟨v1, a1, a2, a3⟩, ⟨v2, b1, b2, b3⟩⟩ := halves hI n hnl
  have lq := hA.1
  have l1 : loadV tab σ 25 (.ptr q 1) = .ok it := ld l25 hA rfl
  obtain ⟨out, s10, p1, g1, I1⟩ := W147 a2 hw (by rw [List.length_take]; omega) (fun s g => a3 s (g.up _))
  have A10 := hA.gw g1
  have l2 : loadV tab s10 25 (.ptr q 1) = .ok it := ld l25 A10 rfl
  obtain ⟨it', s20, p2, g2, I2⟩ := W147 b2 (g1.len hw) (by rw [List.length_drop]; omega) (fun s g => b3 s ((g1.trans g).up _))
  have A20 := A10.gw g2
  have G := g1.trans g2
  have vc := I2.il.cell
  obtain ⟨s21, hs21⟩ : ∃ s21, s21 = s20.set q (.cells (quC it') 202 true 3) := ⟨_, rfl⟩
  have st : storeV tab s20 25 (.ptr q 1) it' = .ok s21 := by
    rw [hs21]
    have := stv (o := 1) (x := it') s25 A20 (by rw [vc.2.2.2]; rfl) (by omega) (by show 1 + 1 ≤ 3; omega) (by rw [vc.2.2.2]; simp [vc.1])
    rw [this, vc.2.2.2]; rfl
  have A21 : At s21 q (.cells (quC it') 202 true 3) := by rw [hs21]; exact A20.set_same (G.len hw) _
  have l3' : loadV tab s21 3 (.ptr q 2) = .ok (intV .i64 0) := ld l3 A21 rfl
  have n21 : s21.n = s20.n := by rw [hs21]; rfl
  have ng1 := g1.n
  have ng2 := g2.n
  have e := ec83 (kRet tab [.tmp 4]) (.ptr q 0) (intV .i64 most) σ
  have d1 : decide ((0 : Int) > 0) = false := rfl
  have a0 : argE [.ptr q 0, intV .i64 most] 0 = .ptr q 0 := rfl
  have a1' : argE [.ptr q 0, intV .i64 most] 1 = intV .i64 most := rfl
  have hmin := min_int most (cs.length : Int) n hn
  refine ⟨out, it', s21, w83 (by simp) ?_, ?_, A21, ?_, ?_⟩
  · simp (decide := true) only [mv_eq, g1_eq, g2_eq, g3_eq, g4_eq, bindR_val, retK_ret, isBoolV_t, pickV_boolV, binOp_int, intOp_lss, a0, a1', nilCheck_ptr, fa202, fa27_1', Nat.zero_add, l1, hI.il.lenV, hmin, ec83_1_1, a1, p1, ec83_1_1_1, l2, b1, p2, st, puts_cons, puts_nil, putE_same, putE_ne] at e
    cases hd : decide ((n : Int) < most) with
    | true =>
      simp (decide := true) only [mv_eq, bindR_val, condR_boolV, condT, binOp_int, intOp_gtr, hd, nilCheck_ptr, fa202, fa27_2', Nat.zero_add, l3', ec83_1_1_1_1_1, r83, puts_cons, puts_nil, putE_same, putE_ne] at e
      exact e
    | false =>
      simp (decide := true) only [mv_eq, bindR_val, condR_boolV, condF, hd, ec83_1_1_1_1_1, r83, puts_cons, puts_nil, putE_same, putE_ne] at e
      exact e
  · rw [hs21]; exact ((G.up σ.n).hold q).trans (Hold.set A20.1 _)
  · have h1 := I1.gw g2
    refine h1.mono (Nat.le_refl _) (by omega) (by omega) fun b hb1 _ _ => ?_
    rw [hs21, getO_set_other A20.1 (by omega)]
  · refine I2.mono (by omega) (by omega) (by omega) fun b hb1 _ _ => ?_
    rw [hs21, getO_set_other A20.1 (by omega)]

/-- queue.Poll -/
theorem W39 {it : AV} {cs : List Int} {lo : Nat} {most : Int} (h1 : 1 ≤ most) (h2 : most ≤ 64) (n : Nat) (hn : (n : Int) = min most (cs.length : Int)) (hok : ∀ c ∈ cs, okC c) (hcl : cs.length ≤ 8) {σ : St} (hw : WF σ) (hM : σ.M = M0) (hI : IV σ lo σ.n it cs) :
    ∃ out it' σ', W 39 [.agg (quC it), intV .i64 most] σ = .ok (.ret (.tuple [.agg (quC it'), out, intV .i64 0]), σ') ∧ Gw σ σ' ∧ IC σ' σ.n σ'.n out (cs.take n) ∧ IC σ' σ.n σ'.n it' (cs.drop n) := by
  obtain ⟨S1, hS1⟩ : ∃ S1, S1 = (σ.push (.cells (quC it) 27 true 3)).push (.cells z27 27 true 3) := ⟨_, rfl⟩
  have G1 : Gw σ S1 := by rw [hS1]; exact (Gw.push _ _).trans (Gw.push _ _)
  have n1 : S1.n = σ.n + 2 := by rw [hS1]; rfl
  have A0 : At S1 σ.n (.cells (quC it) 27 true 3) := by rw [hS1]; exact (At.new _ _).push _
  have A1 : At S1 (σ.n + 1) (.cells z27 27 true 3) := by rw [hS1]; exact At.new _ _
  have l0 : loadV tab S1 27 (.ptr σ.n 0) = .ok (.agg (quC it)) := lda a27 A0 rfl rfl
  obtain ⟨s3, p3, g3⟩ := W76 hok hcl (G1.len hw) (G1.M.trans hM) (hI.il.gw G1)
  have G3 := G1.trans g3
  have n3 := g3.n
  have l1 : loadV tab s3 27 (.ptr σ.n 0) = .ok (.agg (quC it)) := lda a27 (A0.gw g3) rfl rfl
  have A2 := At.new s3 (.cells z27 202 true 3)
  obtain ⟨s11, hs11⟩ : ∃ s11, s11 = (s3.push (.cells z27 202 true 3)).set s3.n (.cells (quC it) 202 true 3) := ⟨_, rfl⟩
  have ic := hI.il.cell
  have st11 : storeV tab (s3.push (.cells z27 202 true 3)) 202 (.ptr s3.n 0) (.agg (quC it)) = .ok s11 := by
    rw [hs11]
    exact stv (o := 0) (x := .agg (quC it)) s202 A2 rfl (by omega) (Nat.le_refl _) (quC_one ic.1)
  have g11 : Gw s3 s11 := by rw [hs11]; exact ((Gw.push s3 _).up s3.n |>.trans (Up.set (Nat.le_refl _) A2.1 _)).gw (Nat.le_refl _)
  have A11 : At s11 s3.n (.cells (quC it) 202 true 3) := by rw [hs11]; exact A2.set_same (WF.push (G3.len hw) _) _
  have n11 : s11.n = s3.n + 1 := by rw [hs11]; rfl
  have G11 := G3.trans g11
  obtain ⟨out, it', s14, p14, H14, A14, I1, I2⟩ := W83 n hn hcl (G11.len hw) A11 ((hI.gw G11).le (Nat.le_refl _) G11.n)
  have n14 := H14.n
  have A1' : At s14 (σ.n + 1) (.cells z27 27 true 3) := ((A1.gw g3).gw g11).hold H14 (by omega) (by omega)
  have l14 : loadV tab s14 27 (.ptr s3.n 0) = .ok (.agg (quC it')) := lda a27 A14 rfl rfl
  have vc := I2.il.cell
  obtain ⟨s19, hs19⟩ : ∃ s19, s19 = s14.set (σ.n + 1) (.cells (quC it') 27 true 3) := ⟨_, rfl⟩
  have st19 : storeV tab s14 27 (.ptr (σ.n + 1) 0) (.agg (quC it')) = .ok s19 := by rw [hs19]; exact st27 A1' rfl vc.1
  have U14 : Up σ.n σ s14 := (G11.up _).trans (H14.up (by omega) (by omega))
  have A19 : At s19 (σ.n + 1) (.cells (quC it') 27 true 3) := by rw [hs19]; exact A1'.set_same (U14.len hw) _
  have lr : loadV tab s19 27 (.ptr (σ.n + 1) 0) = .ok (.agg (quC it')) := lda a27 A19 rfl rfl
  have U19 : Up σ.n s14 s19 := by rw [hs19]; exact Up.set (by omega) A1'.1 _
  have n19 : s19.n = s14.n := by rw [hs19]; rfl
  have e := ec39 (kRet tab [.cell 4 27, .tmp 5, .tmp 6]) (.agg (quC it)) (intV .i64 most) σ
  have d0 : ((0 : Int) == 0) = true := rfl
  have d1 : ((0 : Int) != 0) = false := rfl
  have d2 : decide (most < 1) = false := by simp; omega
  have d3 : decide (most > 64) = false := by simp; omega
  have a1 : argE [.agg (quC it), intV .i64 most] 1 = intV .i64 most := rfl
  refine ⟨out, it', s19, w39 (by simp) ?_, (U14.trans U19).gw (Nat.le_refl _), ?_, ?_⟩
  · simp (decide := true) only [mv_eq, g1_eq, g2_eq, g3_eq, bindR_val, retK_ret, condR_boolV, condT, condF, isBoolV_f, isBoolV_t, Bool.not_false, pickV_boolV, binOp_int, intOp_eql, intOp_neq, intOp_lss, intOp_gtr, box27', push_n, alloc27, ← hS1, l0, p3, d0, d1, d2, d3, a1, ec39_1_1_1, l1, build202, alloc202, st11, p14, fa202, l14, st19, puts_cons, puts_nil, putE_same, putE_ne] at e
    rw [e]
    simp (decide := true) only [kRet, resK, lr, putE_same, putE_ne]
    rfl
  · refine I1.mono (by omega) (by omega) (by omega) fun b hb1 _ _ => ?_
    rw [hs19, getO_set_other A1'.1 (by omega)]
  · refine I2.mono (by omega) (by omega) (by omega) fun b hb1 _ _ => ?_
    rw [hs19, getO_set_other A1'.1 (by omega)]
end Go.Proofs.YtkpkmjanikkpoaaGreatDoor
namespace Go.Proofs.YtkpkmjanikkpoaaGreatDoor
open Go Go.Dt
set_option maxRecDepth 100000

theorem tenC_one {had : Int} {v it : AV} (h : AV.oneCell v = true) (h' : AV.oneCell it = true) : (tenC had v it).all AV.oneCell = true := by
  simp only [tenC, List.all_cons, List.all_nil, h, h']; rfl
theorem spl29 (a b c d e f g : AV) (l : List AV) (hl : l.length = 7) : splice [a, b, c, d, e, f, g] 0 l = l := by
  match l, hl with
  | [_, _, _, _, _, _, _], _ => rfl
/-- a tenant is stored -/
theorem st29 {σ : St} {b : Nat} {cs l : List AV} {e : Nat} (hA : At σ b (.cells cs e true 7)) (hc : cs.length = 7) (hl : l.length = 7) (ho : l.all AV.oneCell = true) : storeV tab σ 29 (.ptr b 0) (.agg l) = .ok (σ.set b (.cells l e true 7)) := by
  have := stv (o := 0) (x := .agg l) s29 hA hl (by omega) (by omega) ho
  rw [this]
  congr 3
  match cs, hc with
  | [_, _, _, _, _, _, _], _ => exact spl29 _ _ _ _ _ _ _ l hl
/-- a tenant's queue is stored -/
theorem st27t {σ : St} {b : Nat} {had : Int} {v it it' : AV} {e : Nat} (hA : At σ b (.cells (tenC had v it) e true 7)) (ho : AV.oneCell it' = true) : storeV tab σ 27 (.ptr b 4) (.agg (quC it')) = .ok (σ.set b (.cells (tenC had v it') e true 7)) := by
  have := stv (o := 4) (x := .agg (quC it')) s27 hA rfl (by omega) (by show 4 + 3 ≤ 7; omega) (quC_one ho)
  rw [this]; rfl

/-- tenant.Poll -/
theorem W12 (had : Int) (h0 : 0 ≤ had) (h20 : had ≤ 4) (rv qv it : AV) (qs : List (Nat × Int)) (hN : Numb had qs) (hlen : qs.length ≤ 4) {cs : List Int} (hok : ∀ c ∈ cs, okC c) (hcl : cs.length ≤ 8) {most : Int} (h1 : 1 ≤ most) (h2 : most ≤ 64) (n : Nat) (hn : (n : Int) = min most (cs.length : Int))
    (σ : St) (hw : WF σ) (hM : σ.M = M0) (hS : StV σ σ.n rv) (hQ : QL x0 σ 0 σ.n qv qs) (hI : IL σ 0 σ.n it cs) :
    ∃ out v' it' σ', W 12 [.agg (svC rv), .agg cC, .agg (tenC had qv it), intV .i64 most] σ = .ok (.ret (.tuple [.agg (tenC had v' it'), out, intV .i64 0]), σ') ∧ Gw σ σ' ∧ QL x0 σ' σ.n σ'.n v' qs ∧ IC σ' σ.n σ'.n out (cs.take n) ∧ IC σ' σ.n σ'.n it' (cs.drop n) := by
  have B := mkBox3 σ rv had qv it
  obtain ⟨S, hSt⟩ : ∃ S, S = ((σ.push (.cells (svC rv) 33 true 4)).push (.cells cC 36 true 5)).push (.cells (tenC had qv it) 29 true 7) := ⟨_, rfl⟩
  rw [← hSt] at B
  obtain ⟨S', hSt'⟩ : ∃ S', S' = S.push (.cells z29 29 true 7) := ⟨_, rfl⟩
  have hn3 := B.n
  have gS : Gw S S' := by rw [hSt']; exact Gw.push _ _
  have A3 : At S' (σ.n + 3) (.cells z29 29 true 7) := by rw [hSt', ← hn3]; exact At.new _ _
  have G := B.g.trans gS
  have nS' : S'.n = σ.n + 4 := by rw [hSt', push_n, hn3]
  have l0 : loadV tab S' 33 (.ptr σ.n 0) = .ok (.agg (svC rv)) := lda a33 (B.a0.gw gS) rfl rfl
  have l1 : loadV tab S' 36 (.ptr (σ.n + 1) 0) = .ok (.agg cC) := lda a41 (B.a1.gw gS) rfl rfl
  have l2 : loadV tab S' 29 (.ptr (σ.n + 2) 0) = .ok (.agg (tenC had qv it)) := lda a29 (B.a2.gw gS) rfl rfl
  obtain ⟨s5, p5, g5⟩ := W20 had h0 h20 rv qv qs hN hlen S' (G.len hw) (G.M.trans hM) ((hS.gw G).le G.n) ((hQ.gw G).le G.n) hok hcl ((hI.gw G).le (Nat.le_refl _) G.n)
  have G5 := G.trans g5
  have l3' : loadV tab s5 29 (.ptr (σ.n + 2) 0) = .ok (.agg (tenC had qv it)) := lda a29 ((B.a2.gw gS).gw g5) rfl rfl
  obtain ⟨w, s17, v', it1, mid, p17, g17, hws, A17, hwm, hmn, V17, I17, _⟩ := W29 had qv it qs cs hN.ok (by omega) hok (by omega) s5 (G5.len hw) (G5.M.trans hM) ((hQ.gw G5).le G5.n) ((hI.gw G5).le (Nat.le_refl _) G5.n)
  have G17 := G5.trans g17
  have n5 := G5.n
  have ng5 := g5.n
  have n17 := g17.n
  have l4 : loadV tab s17 27 (.ptr w 4) = .ok (.agg (quC it1)) := lda a27 A17 rfl rfl
  obtain ⟨out, it2, s28, p28, g28, O28, I28⟩ := W39 h1 h2 n hn hok hcl (G17.len hw) (G17.M.trans hM) I17
  have n28 := g28.n
  have A28 := A17.gw g28
  have ic := I28.il.cell
  have vc := V17.ql.cell
  obtain ⟨s36, hs36⟩ : ∃ s36, s36 = s28.set w (.cells (tenC had v' it2) 106 true 7) := ⟨_, rfl⟩
  have st36 : storeV tab s28 27 (.ptr w 4) (.agg (quC it2)) = .ok s36 := by rw [hs36]; exact st27t A28 ic.1
  have G28 := G17.trans g28
  have A36 : At s36 w (.cells (tenC had v' it2) 106 true 7) := by rw [hs36]; exact A28.set_same (G28.len hw) _
  have U36 : Up w s28 s36 := by rw [hs36]; exact Up.set (Nat.le_refl _) A28.1 _
  have l6 : loadV tab s36 29 (.ptr w 0) = .ok (.agg (tenC had v' it2)) := lda a29 A36 rfl rfl
  have A3' : At s36 (σ.n + 3) (.cells z29 29 true 7) := (((A3.gw g5).gw g17).gw g28).up U36 (by omega)
  obtain ⟨s51, hs51⟩ : ∃ s51, s51 = s36.set (σ.n + 3) (.cells (tenC had v' it2) 29 true 7) := ⟨_, rfl⟩
  have st51 : storeV tab s36 29 (.ptr (σ.n + 3) 0) (.agg (tenC had v' it2)) = .ok s51 := by
    rw [hs51]; exact st29 A3' rfl rfl (tenC_one vc.1 ic.1)
  have U5 : Up σ.n σ s36 := (G28.up _).trans (U36.le (by omega))
  have A51 : At s51 (σ.n + 3) (.cells (tenC had v' it2) 29 true 7) := by rw [hs51]; exact A3'.set_same (U5.len hw) _
  have lr : loadV tab s51 29 (.ptr (σ.n + 3) 0) = .ok (.agg (tenC had v' it2)) := lda a29 A51 rfl rfl
  have U51 : Up σ.n s36 s51 := by rw [hs51]; exact Up.set (by omega) A3'.1 _
  have nn : s51.n = s28.n := by rw [hs51, hs36]; rfl
  have keep : ∀ b, s17.n ≤ b → s51.getO b = s28.getO b := fun b hb => by
    rw [hs51, getO_set_other A3'.1 (by have := A17.1; omega), hs36, getO_set_other A28.1 (by have := A17.1; omega)]
  refine ⟨out, v', it2, s51, w12 (by simp) ?_, (U5.trans U51).gw (Nat.le_refl _), ?_, ?_, ?_⟩
  · have e := ec12 (kRet tab [.cell 8 29, .tmp 9, .tmp 10]) (.agg (svC rv)) (.agg cC) (.agg (tenC had qv it)) (intV .i64 most) σ
    have d0 : ((0 : Int) != 0) = false := rfl
    have a3 : argE [.agg (svC rv), .agg cC, .agg (tenC had qv it), intV .i64 most] 3 = intV .i64 most := rfl
    simp only [bindR_val, mv_eq, box33', box41', box29', push_n, ← hSt, alloc29, ← hSt'] at e
    simp (decide := true) only [mv_eq, g1_eq, g2_eq, g3_eq, bindR_val, retK_ret, condR_boolV, condF, binOp_int, intOp_neq, extractV_0, extractV_1, extractV_2, puts_cons, puts_nil, putE_same, putE_ne, Nat.add_assoc, Nat.reduceAdd, ec12_1, l0, l1, l2, p5, d0, l3', a3, p17, nilCheck_ptr, fa94_0, fa29_4, Nat.zero_add, l4, p28, st36, l6, st51] at e
    rw [e]
    simp (decide := true) only [kRet, resK, lr, putE_same, putE_ne]
    rfl
  · have := V17.ql.mono (lo' := σ.n) (hi' := s51.n) (σ' := s51) (by omega) (by omega) (by omega) fun b hb1 hb2 hg => by
      have hb := getO_gone hg
      rw [hs51, getO_set_other A3'.1 (by omega), hs36, getO_set_other A28.1 (by omega)]
      exact g28.old b hb
    exact this
  · exact O28.mono (by omega) (by omega) (by omega) fun b hb1 _ _ => keep b hb1
  · exact I28.mono (by omega) (by omega) (by omega) fun b hb1 _ _ => keep b hb1
end Go.Proofs.YtkpkmjanikkpoaaGreatDoor
