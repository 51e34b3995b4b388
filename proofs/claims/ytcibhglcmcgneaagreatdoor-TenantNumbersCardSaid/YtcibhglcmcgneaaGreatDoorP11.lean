/-
  A part of the proof. No statement of this seat stands here.
-/
import Derived.Test.YtcibhglcmcgneaaGreatDoorP10
namespace Go.Proofs.YtcibhglcmcgneaaGreatDoor
open Go Go.Dt
set_option maxRecDepth 100000

theorem P9 {σ : St} (hM : σ.M = M0) : ∃ σ', W 9 [] σ = .ok (.ret (.agg cC), σ') ∧ Gw σ σ' := by
  obtain ⟨x, σ', h1, h2, h3⟩ := k9.call hM (xs := []) (lo := 0) (hi := 0) (by simp only [DpL])
  simp only [Dp, DpL, cfC, I] at h3
  obtain ⟨l, rfl, _, _, rfl, rfl, _, _, rfl, rfl, _, _, rfl, rfl, _, _, rfl, rfl, _, _, rfl, rfl, rfl⟩ := h3
  exact ⟨σ', h1, h2⟩
theorem P4 {σ : St} (hM : σ.M = M0) : ∃ σ', W 4 [] σ = .ok (.ret (.agg (tenC 0 nilS)), σ') ∧ Gw σ σ' := by
  obtain ⟨x, σ', h1, h2, h3⟩ := k4.call hM (xs := []) (lo := 0) (hi := 0) (by simp only [DpL])
  simp only [Dp, DpL, t0C, I, B, U, N] at h3
  obtain ⟨l, rfl, _, _, rfl, rfl, _, _, rfl, rfl, _, _, rfl, rfl, _, _, rfl, rfl, _, _, rfl, rfl, _, _, rfl, rfl, _, _, rfl, rfl, rfl⟩ := h3
  exact ⟨σ', h1, h2⟩
theorem P15 {σ : St} (hM : σ.M = M0) : ∃ σ', W 15 [] σ = .ok (.ret (boolV true), σ') ∧ Gw σ σ' := by
  obtain ⟨x, σ', h1, h2, h3⟩ := k15.call hM (xs := []) (lo := 0) (hi := 0) (by simp only [DpL])
  simp only [Dp, B] at h3
  subst h3
  exact ⟨σ', h1, h2⟩
theorem P5 {σ : St} (hM : σ.M = M0) : ∃ rv σ', W 5 [] σ = .ok (.ret (.agg (svC rv)), σ') ∧ Gw σ σ' ∧ Dp σ' σ.n σ'.n stS (.agg (svC rv)) := by
  obtain ⟨x, σ', h1, h2, h3⟩ := k5.call hM (xs := []) (lo := 0) (hi := 0) (by simp only [DpL])
  have h3' := h3
  rw [stS, Dp] at h3
  obtain ⟨l, rfl, h3⟩ := h3
  rw [DpL] at h3
  obtain ⟨rv, r, rfl, _, h3⟩ := h3
  simp only [Dp, DpL, U] at h3
  obtain ⟨_, _, rfl, rfl, _, _, rfl, rfl, _, _, rfl, rfl, rfl⟩ := h3
  exact ⟨rv, σ', h1, h2, h3'⟩
theorem P11 {j : Nat} {m : Int} (hq : okQ (j, m)) {σ : St} (hM : σ.M = M0) {lo hi lo' hi' : Nat} {r r' : List AV} (hr : DpL σ lo hi (x2 j m) r) (hr' : DpL σ lo' hi' (x0 j m) r') :
    ∃ σ', W 11 [.agg r, .agg r'] σ = .ok (.ret (boolV true), σ') ∧ Gw σ σ' := by
  obtain ⟨x, σ', h1, h2, h3⟩ := (k11 j m hq.1 hq.2.1 hq.2.2).call hM (xs := [.agg r, .agg r']) (lo := 0) (hi := max hi hi') (by
    simp only [DpL, Dp]
    exact ⟨_, _, rfl, ⟨r, rfl, DpL.mono (Nat.zero_le _) (Nat.le_max_left _ _) (fun _ _ _ _ => rfl) _ _ hr⟩, _, _, rfl, ⟨r', rfl, DpL.mono (Nat.zero_le _) (Nat.le_max_right _ _) (fun _ _ _ _ => rfl) _ _ hr'⟩, rfl⟩)
  simp only [Dp, B] at h3
  subst h3
  exact ⟨σ', h1, h2⟩

/-- the numbers that are handed in -/
structure Nums (σ : St) (b3 : Nat) (nv : AV) (ns : List Int) : Prop where
  is : ((∃ a cap, nv = .base (.slice a 0 cap)) ∧ ns = []) ∨ ∃ bn cap e ow, nv = .slice bn 0 ns.length cap 1 ∧ bn < b3 ∧ At σ bn (.cells (ns.map fun n => intV .i64 n) e ow 1)
theorem sl22 : sliceB 22 = true := by kernel_rfl
theorem len22 (a : Option Addr) (cap : Nat) : lenV tab 22 (.base (.slice a 0 cap)) = .ok (intV .i64 0) := by kernel_rfl
theorem el22 : elemB 22 3 1 = true := by kernel_rfl
theorem Nums.lenV {σ : St} {b3 : Nat} {nv : AV} {ns : List Int} (h : Nums σ b3 nv ns) : lenV tab 22 nv = .ok (intV .i64 (ns.length : Int)) := by
  rcases h.is with ⟨⟨a, cap, rfl⟩, rfl⟩ | ⟨bn, cap, e, ow, rfl, _, _⟩
  · exact len22 a cap
  · exact len_sl sl22
theorem Nums.get {σ : St} {b3 : Nat} {nv : AV} {ns : List Int} (h : Nums σ b3 nv ns) {i : Nat} {n : Int} (hi : ns[i]? = some n) : ∃ p, indexAddr tab 22 nv (intV .i64 (i : Int)) = .ok p ∧ loadV tab σ 3 p = .ok (intV .i64 n) := by
  have hl := (List.getElem?_eq_some_iff.1 hi).1
  rcases h.is with ⟨⟨a, cap, rfl⟩, rfl⟩ | ⟨bn, cap, e, ow, rfl, _, hA⟩
  · simp at hi
  · refine ⟨.ptr bn (i * 1), ixA0 el22 hl, ?_⟩
    rw [Nat.mul_one]
    exact ld l3 hA (by rw [List.getElem?_map, hi]; rfl)
theorem Nums.up {lo : Nat} {σ σ' : St} {b3 : Nat} {nv : AV} {ns : List Int} (h : Nums σ b3 nv ns) (u : Up lo σ σ') (hl : b3 ≤ lo) : Nums σ' b3 nv ns := by
  rcases h.is with h | ⟨bn, cap, e, ow, h1, h2, h3⟩
  · exact ⟨.inl h⟩
  · exact ⟨.inr ⟨bn, cap, e, ow, h1, h2, h3.up u (by omega)⟩⟩

/-- what the law's loop keeps -/
structure Inv (σ : St) (b3 b4 : Nat) (rv nv : AV) (ns : List Int) (had : Int) (qv : AV) (qs : List (Nat × Int)) : Prop where
  wf : WF σ
  M : σ.M = M0
  a3 : At σ b3 (.cells (tenC had qv) 29 true 7)
  a4 : At σ b4 (.cells (svC rv) 33 true 4)
  lt : b3 < b4
  st : Dp σ (b3 + 1) b4 stS (.agg (svC rv))
  q : QL x0 σ (b4 + 1) σ.n qv qs
  nm : Nums σ b3 nv ns
  N : Numb had qs
  len : qs.length ≤ 4
  h0 : 0 ≤ had
section
variable {σ : St} {b3 b4 : Nat} {rv nv : AV} {ns : List Int} {had : Int} {qv : AV} {qs : List (Nat × Int)}
theorem Inv.gw {σ' : St} (h : Inv σ b3 b4 rv nv ns had qv qs) (g : Gw σ σ') : Inv σ' b3 b4 rv nv ns had qv qs :=
  ⟨g.len h.wf, g.M.trans h.M, h.a3.gw g, h.a4.gw g, h.lt, h.st.gw g, (h.q.gw g).le g.n, h.nm.up (g.up b3) (Nat.le_refl _), h.N, h.len, h.h0⟩
theorem Inv.sv (h : Inv σ b3 b4 rv nv ns had qv qs) : StV σ σ.n rv := ⟨Dp.mono (Nat.zero_le _) (Nat.le_of_lt h.a4.1) (fun _ _ _ _ => rfl) _ _ h.st⟩
theorem Inv.q0 (h : Inv σ b3 b4 rv nv ns had qv qs) : QL x0 σ 0 σ.n qv qs := h.q.mono (Nat.zero_le _) (Nat.le_refl _) (Nat.le_refl _) fun _ _ _ _ => rfl
theorem Inv.l3 (h : Inv σ b3 b4 rv nv ns had qv qs) : loadV tab σ 29 (.ptr b3 0) = .ok (.agg (tenC had qv)) := lda a29 h.a3 rfl rfl
theorem Inv.lh (h : Inv σ b3 b4 rv nv ns had qv qs) : loadV tab σ 3 (.ptr b3 2) = .ok (intV .i64 had) := ld Go.Proofs.YtcibhglcmcgneaaGreatDoor.l3 h.a3 rfl
theorem Inv.l4 (h : Inv σ b3 b4 rv nv ns had qv qs) : loadV tab σ 33 (.ptr b4 0) = .ok (.agg (svC rv)) := lda a33 h.a4 rfl rfl
theorem Inv.rvc (h : Inv σ b3 b4 rv nv ns had qv qs) : AV.oneCell rv = true ∧ beqA rv rv = true ∧ ∀ n, b4 ≤ n → bndA n rv = true := by
  have h3 := h.st
  rw [stS, Dp] at h3
  obtain ⟨l, hl, h3⟩ := h3
  cases hl
  rw [svC, DpL] at h3
  obtain ⟨x, r, hx, h3, _⟩ := h3
  cases hx
  exact h3.cell rfl
theorem Inv.bS (h : Inv σ b3 b4 rv nv ns had qv qs) : beqA (.agg (svC rv)) (.agg (svC rv)) = true ∧ ∀ n, σ.n ≤ n → bndA n (.agg (svC rv)) = true := by
  have c := h.rvc
  have h4 := h.a4.1
  refine ⟨by simp [svC, beqA, beqL, c.2.1, intV, beqBase], fun n hn => ?_⟩
  show (bndA n rv && (true && (true && (true && true)))) = true
  rw [c.2.2 n (by omega)]; rfl
theorem ten_b {had : Int} {v : AV} (h1 : beqA v v = true) : beqA (.agg (tenC had v)) (.agg (tenC had v)) = true := by
  simp [tenC, beqA, beqL, h1, boolV, intV, nilS, beqBase]
theorem ten_n {had : Int} {v : AV} {n : Nat} (h1 : bndA n v = true) : bndA n (.agg (tenC had v)) = true := by
  show (true && (true && (true && (bndA n v && (true && (true && (true && true))))))) = true
  rw [h1]; rfl
theorem Inv.bT (h : Inv σ b3 b4 rv nv ns had qv qs) : beqA (.agg (tenC had qv)) (.agg (tenC had qv)) = true ∧ ∀ n, σ.n ≤ n → bndA n (.agg (tenC had qv)) = true :=
  ⟨ten_b h.q.cell.2.1, fun n hn => ten_n (h.q.cell.2.2.1 n hn)⟩
end

structure Rg3 (T : Rg) (b3 b4 : Nat) (nv : AV) (had : Int) (i : Nat) : Prop where
  t0 : T 0 = nv
  t3 : T 3 = .ptr b3 0
  t4 : T 4 = .ptr b4 0
  t5 : T 5 = intV .i64 had
  t6 : T 6 = intV .i64 (i : Int)
theorem boolM_t {α : Type} (x y : α) : boolM true x y = x := rfl
theorem boolM_f {α : Type} (x y : α) : boolM false x y = y := rfl

/-- the tenant is right, and has had so many -/
theorem sChk {ρ : Type} (k : K ρ) {S : St} {b3 b4 : Nat} {rv nv : AV} {ns : List Int} {had : Int} {qv : AV} {qs : List (Nat × Int)} (I : Inv S b3 b4 rv nv ns had qv qs) (h20 : had ≤ 20) {i : Nat} {T : Rg} (R : Rg3 T b3 b4 nv had i) :
    ∃ T' S', denK tab W V 181 c3_1_1_1_1_0_1_0_0_1_0_0_1_1_1 k T S = k.nxt T' S' ∧ Rg3 T' b3 b4 nv had i ∧ Gw S S' := by
  obtain ⟨s2, p1, g1⟩ := P9 I.M
  have I2 := I.gw g1
  obtain ⟨s7, p2, g2⟩ := W14 had I.h0 h20 rv qv qs I.N I.len s2 I2.wf I2.M I2.sv I2.q0
  have I7 := I2.gw g2
  have e := ec3_1_1_1_1_0_1_0_0_1_0_0_1_1_1 k T S
  have b1 : bndA S.n (.func (.func 9) [] []) = true := rfl
  have b2 : bndA s2.n (.func (.func 14) [] []) = true := rfl
  have b3' : bndA s2.n (.agg cC) = true := rfl
  have d0 : ((0 : Int) != 0) = false := rfl
  have dh : (had != had) = false := by simp
  have bh : beqA (intV .i64 had) (intV .i64 had) = true := by simp [intV, beqA, beqBase]
  have n1 : Nat.ble S.n s2.n = true := Nat.ble_eq_true_of_le g1.n
  have n2 : Nat.ble s2.n s7.n = true := Nat.ble_eq_true_of_le g2.n
  simp (decide := true) only [mv_eq, g2_eq, bindR_val, retK_ret, condR_boolV, condT, condF, isBoolV_f, Bool.not_false, pickV_boolV, binOp_int, intOp_neq, List.all_cons, List.all_nil, Bool.and_true, Bool.and_self, b1, p1, n1, R.t3, R.t4, R.t5, I2.l4, I.l4, I2.l3, I.l3, sameR, I.bS.1, I.bT.1, b2, I2.bS.2 _ (Nat.le_refl _), b3', I2.bT.2 _ (Nat.le_refl _), p2, n2, d0, boolM_t, fa29_2, Nat.zero_add, I7.lh, bh, dh] at e
  refine ⟨_, s7, e, ?_, g1.trans g2⟩
  constructor <;> simp (decide := true) only [puts_cons, puts_nil, putE_ne, R.t0, R.t3, R.t4, R.t5, R.t6]
end Go.Proofs.YtcibhglcmcgneaaGreatDoor
namespace Go.Proofs.YtcibhglcmcgneaaGreatDoor
open Go Go.Dt
set_option maxRecDepth 100000

theorem idxQ_app (n : Int) (j : Nat) : ∀ (qs : List (Nat × Int)) (i : Nat), (∀ q ∈ qs, q.2 ≠ n) → idxQ n (qs ++ [(j, n)]) i = ((i + qs.length : Nat) : Int)
  | [], i, _ => by simp [idxQ]
  | q :: qs, i, h => by
    have hb : (q.2 == n) = false := by have := h q (by simp); simpa using this
    show (bif q.2 == n then (i : Int) else idxQ n (qs ++ [(j, n)]) (i + 1)) = _
    rw [hb, cond_false, idxQ_app n j qs (i + 1) (fun x hx => h x (List.mem_cons_of_mem _ hx))]
    simp only [List.length_cons]; congr 1; omega
theorem quoV (a : Int) : intOp .quo .i64 .i64 a 3 = .ok (intV .i64 (IntKind.i64.wrap (a.tdiv 3))) := intOp_quo _ _ _ (by omega)
theorem remV (a : Int) : intOp .rem .i64 .i64 a 3 = .ok (intV .i64 (a.tmod 3)) := intOp_rem _ _ _ (by omega)
theorem remV12 (a : Int) : intOp .rem .i64 .i64 a 12 = .ok (intV .i64 (a.tmod 12)) := intOp_rem _ _ _ (by omega)
theorem st70 {σ : St} {b : Nat} (hA : At σ b (.cells [intV .i64 0, intV .i64 0] 70 true 2)) (a c : Int) : storeV tab σ 70 (.ptr b 0) (.agg [intV .i64 a, intV .i64 c]) = .ok (σ.set b (.cells [intV .i64 a, intV .i64 c] 70 true 2)) :=
  stv (o := 0) (x := .agg [intV .i64 a, intV .i64 c]) s70 hA rfl (by omega) (by simp) rfl
theorem z29_b (n : Nat) : bndO n (.cells z29 29 true 7) = true := rfl
theorem z70_b (n : Nat) : bndO n (.cells [intV .i64 0, intV .i64 0] 70 true 2) = true := rfl

/-- a query is added -/
theorem sAdd {ρ : Type} (k : K ρ) {S : St} {b3 b4 : Nat} {rv nv : AV} {ns : List Int} {had : Int} {qv : AV} {qs : List (Nat × Int)} (I : Inv S b3 b4 rv nv ns had qv qs) (h20 : had < 20) {i : Nat} {T : Rg} (R : Rg3 T b3 b4 nv had i) {kk : Int} (t7 : T 7 = intV .i64 kk) (hk : (kk.tmod 3 == 0) = false) :
    ∃ T' S' n1 j nx no f1, j < 6 ∧ denK tab W V 181 c3_1_1_1_1_0_1_0_0_1_0_0_1_1 k T S = denK tab W V 181 c3_1_1_1_1_0_1_0_0_1_0_0_1_1_0_1_1_1 (kseq (denK tab W V 181 c3_1_1_1_1_0_1_0_0_1_0_0_1_1_1 k) k) T' S' ∧ Rg3 T' b3 b4 nv had i ∧
      T' 8 = T 8 ∧ T' 16 = .ptr n1 0 ∧ T' 18 = .ptr (n1 + 1) 0 ∧ T' 17 = intV .i64 no ∧ At S' n1 (.cells nx 29 true 7) ∧ At S' (n1 + 1) (.cells [intV .i64 f1, intV .i64 0] 70 true 2) ∧ Gw S S' ∧ S.n ≤ n1 ∧
      ((4 ≤ qs.length ∧ f1 = 15) ∨ (qs.length < 4 ∧ f1 = 0 ∧ no = had + 1 ∧ ∃ v2, nx = tenC (had + 1) v2 ∧ QL x0 S' S.n n1 v2 (qs ++ [(j, had + 1)]))) := by
  obtain ⟨s9, p1, g1⟩ := P9 I.M
  have I9 := I.gw g1
  obtain ⟨j, s14, hj, p2, g2⟩ := W13 (IntKind.i64.wrap (kk.tdiv 3)) s9
  have I14 := I9.gw g2
  obtain ⟨s19, g3, hadd⟩ := W12 had I.h0 h20 rv qv qs I.N I.len s14 I14.wf I14.M I14.sv I14.q0 j hj
  have G19 := (g1.trans g2).trans g3
  have nle := G19.n
  have n14 := (g1.trans g2).n
  have n1419 := g3.n
  obtain ⟨nx, no, f1, hcall, hl7, ho7, hb7, hout⟩ : ∃ nx no f1, W 12 [.agg (svC rv), .agg cC, .agg (tenC had qv), str (txt j)] s14 = .ok (.ret (.tuple [.agg nx, intV .i64 no, .agg [intV .i64 f1, intV .i64 0]]), s19) ∧ nx.length = 7 ∧ nx.all AV.oneCell = true ∧ (∀ n, s19.n ≤ n → bndA n (.agg nx) = true) ∧
      ((4 ≤ qs.length ∧ f1 = 15) ∨ (qs.length < 4 ∧ f1 = 0 ∧ no = had + 1 ∧ ∃ v2, nx = tenC (had + 1) v2 ∧ QL x0 s19 S.n s19.n v2 (qs ++ [(j, had + 1)]))) := by
    rcases hadd with ⟨h4, hc⟩ | ⟨h4, v2, hc, hq⟩
    · exact ⟨z29, 0, 15, hc, rfl, rfl, fun _ _ => rfl, .inl ⟨h4, rfl⟩⟩
    · have vc := hq.cell
      refine ⟨tenC (had + 1) v2, had + 1, 0, hc, rfl, tenC_one vc.1, fun n hn => ten_n (vc.2.2.1 n hn), .inr ⟨h4, rfl, rfl, v2, rfl, ?_⟩⟩
      exact hq.mono n14 (Nat.le_refl _) (Nat.le_refl _) fun _ _ _ _ => rfl
  -- the boxes
  have hA := (At.new s19 (.cells z29 29 true 7)).push (.cells [intV .i64 0, intV .i64 0] 70 true 2)
  have hB := At.new (s19.push (.cells z29 29 true 7)) (.cells [intV .i64 0, intV .i64 0] 70 true 2)
  rw [push_n] at hB
  obtain ⟨S2, hS2⟩ : ∃ S2, S2 = (s19.push (.cells z29 29 true 7)).push (.cells [intV .i64 0, intV .i64 0] 70 true 2) := ⟨_, rfl⟩
  rw [← hS2] at hA hB
  have gS : Gw s19 S2 := by rw [hS2]; exact (Gw.push _ _).trans (Gw.push _ _)
  have nS : S2.n = s19.n + 2 := by rw [hS2]; rfl
  obtain ⟨s24, hs24⟩ : ∃ s, s = S2.set s19.n (.cells nx 29 true 7) := ⟨_, rfl⟩
  have e1 : storeV tab S2 29 (.ptr s19.n 0) (.agg nx) = .ok s24 := by rw [hs24]; exact st29 hA rfl hl7 ho7
  have A24 : At s24 s19.n (.cells nx 29 true 7) := by rw [hs24]; exact hA.set_same (gS.len (G19.len I.wf)) _
  have B24 : At s24 (s19.n + 1) (.cells [intV .i64 0, intV .i64 0] 70 true 2) := by rw [hs24]; exact hB.set_ne hA.1 (by omega) _
  have n24 : s24.n = s19.n + 2 := by rw [hs24]; exact nS
  have U24 : Up s19.n S2 s24 := by rw [hs24]; exact Up.set (Nat.le_refl _) hA.1 _
  obtain ⟨s28, hs28⟩ : ∃ s, s = s24.set (s19.n + 1) (.cells [intV .i64 f1, intV .i64 0] 70 true 2) := ⟨_, rfl⟩
  have e2 : storeV tab s24 70 (.ptr (s19.n + 1) 0) (.agg [intV .i64 f1, intV .i64 0]) = .ok s28 := by rw [hs28]; exact st70 B24 _ _
  have A28 : At s28 s19.n (.cells nx 29 true 7) := by rw [hs28]; exact A24.set_ne B24.1 (by omega) _
  have B28 : At s28 (s19.n + 1) (.cells [intV .i64 f1, intV .i64 0] 70 true 2) := by rw [hs28]; exact B24.set_same (U24.len (gS.len (G19.len I.wf))) _
  have n28 : s28.n = s19.n + 2 := by rw [hs28]; exact n24
  have U28 : Up s19.n s24 s28 := by rw [hs28]; exact Up.set (by omega) B24.1 _
  have gE : Gw s19 s28 := (((gS.up _).trans U24).trans U28).gw (Nat.le_refl _)
  have e := ec3_1_1_1_1_0_1_0_0_1_0_0_1_1 k T S
  have b1 : bndA S.n (.func (.func 9) [] []) = true := rfl
  have b2 : bndA s9.n (.func (.func 13) [] []) = true := rfl
  have b2' : bndA s9.n (intV .i64 (IntKind.i64.wrap (kk.tdiv 3))) = true := rfl
  have b3' : bndA s14.n (.func (.func 12) [] []) = true := rfl
  have b4' : bndA s14.n (.agg cC) = true := rfl
  have b5 : bndA s14.n (str (txt j)) = true := rfl
  have b6 : bndA (s19.n + 1 + 1) (.ptr s19.n 0) = true := by
    show Nat.blt s19.n (s19.n + 1 + 1) = true
    rw [blt_eq]; simp; omega
  have b7 : bndA (s19.n + 1 + 1) (.agg nx) = true := hb7 _ (by omega)
  have b8 : bndA s24.n (.ptr (s19.n + 1) 0) = true := by
    show Nat.blt (s19.n + 1) s24.n = true
    rw [blt_eq]; simp; omega
  have b9 : bndA s24.n (.agg [intV .i64 f1, intV .i64 0]) = true := rfl
  have m1 : Nat.ble S.n s9.n = true := Nat.ble_eq_true_of_le g1.n
  have m2 : Nat.ble s9.n s14.n = true := Nat.ble_eq_true_of_le g2.n
  have m3 : Nat.ble s14.n s19.n = true := Nat.ble_eq_true_of_le g3.n
  have m4 : Nat.ble (s19.n + 1 + 1) s24.n = true := Nat.ble_eq_true_of_le (by omega)
  have m5 : Nat.ble s24.n s28.n = true := Nat.ble_eq_true_of_le (by omega)
  simp (decide := true) only [mv_eq, g1_eq, g2_eq, g3_eq, bindR_val, retK_ret, condR_boolV, condT, condF, binOp_int, intOp_eql, extractV_0, extractV_1, extractV_2, t7, remV, quoV, hk, List.all_cons, List.all_nil, Bool.and_true, Bool.and_self, b1, p1, m1, b2, b2', p2, m2, R.t3, R.t4, I14.l4, I9.l4, I.l4, I14.l3, I9.l3, I.l3, sameR, I.bS.1, I.bT.1, b3', I14.bS.2 _ (Nat.le_refl _), b4', I14.bT.2 _ (Nat.le_refl _), b5, hcall, m3,
    alloc29, z29_b, push_n, alloc70, z70_b, b6, b7, ← hS2, e1, m4, b8, b9, e2, m5] at e
  refine ⟨_, s28, s19.n, j, nx, no, f1, hj, e, ?_, ?_, ?_, ?_, ?_, A28, B28, G19.trans gE, nle, ?_⟩
  · constructor <;> simp (decide := true) only [puts_cons, puts_nil, putE_ne, R.t0, R.t3, R.t4, R.t5, R.t6]
  · simp (decide := true) only [puts_cons, puts_nil, putE_ne]
  · simp (decide := true) only [puts_cons, puts_nil, putE_same, putE_ne]
  · simp (decide := true) only [puts_cons, puts_nil, putE_same, putE_ne]
  · simp (decide := true) only [puts_cons, puts_nil, putE_same]
  · rcases hout with h | ⟨h1, h2, h3, v2, h4, h5⟩
    · exact .inl h
    · exact .inr ⟨h1, h2, h3, v2, h4, h5.gw gE⟩
end Go.Proofs.YtcibhglcmcgneaaGreatDoor
namespace Go.Proofs.YtcibhglcmcgneaaGreatDoor
open Go Go.Dt
set_option maxRecDepth 100000

theorem Inv.set {S : St} {b3 b4 : Nat} {rv nv : AV} {ns : List Int} {had : Int} {qv : AV} {qs : List (Nat × Int)} (I : Inv S b3 b4 rv nv ns had qv qs) {had' : Int} {qv' : AV} {qs' : List (Nat × Int)} (hN : Numb had' qs') (hl : qs'.length ≤ 4) (h0 : 0 ≤ had')
    {lo hi : Nat} (hQ : QL x0 S lo hi qv' qs') (hlo : b4 < lo) (hhi : hi ≤ S.n) :
    ∃ S', storeV tab S 29 (.ptr b3 0) (.agg (tenC had' qv')) = .ok S' ∧ Inv S' b3 b4 rv nv ns had' qv' qs' ∧ S'.n = S.n ∧ Up b3 S S' := by
  have vc := hQ.cell
  have hlt := I.lt
  have ho : ∀ c, c ≠ b3 → (S.set b3 (.cells (tenC had' qv') 29 true 7)).getO c = S.getO c := fun c hc => getO_set_other I.a3.1 (Ne.symm hc)
  have U := Up.set (lo := b3) (Nat.le_refl _) I.a3.1 (.cells (tenC had' qv') 29 true 7)
  refine ⟨_, st29 I.a3 rfl rfl (tenC_one vc.1), ?_, rfl, U⟩
  refine ⟨U.len I.wf, U.M.trans I.M, I.a3.set_same I.wf _, I.a4.set_ne I.a3.1 (by omega) _, hlt, ?_, ?_, I.nm.up U (Nat.le_refl _), hN, hl, h0⟩
  · exact Dp.mono (Nat.le_refl _) (Nat.le_refl _) (fun c h1 h2 _ => ho c (by omega)) _ _ I.st
  · exact hQ.mono (by omega) hhi (Nat.le_refl _) fun c h1 h2 _ => ho c (by omega)

/-- what is said of a query that was added -/
theorem sAdd2 {ρ : Type} (k : K ρ) {S : St} {b3 b4 : Nat} {rv nv : AV} {ns : List Int} {had : Int} {qv : AV} {qs : List (Nat × Int)} (I : Inv S b3 b4 rv nv ns had qv qs) (h20 : had < 20) {i : Nat} {T : Rg} (R : Rg3 T b3 b4 nv had i)
    {b8 : Nat} {bv ev : AV} (t8 : T 8 = .ptr b8 0) (hB : At S b8 (.cells (ownC had bv ev) 29 true 7)) (hbl : lenV tab 24 bv = .ok (intV .i64 (qs.length : Int))) {n1 : Nat} {no f1 : Int} {nx : List AV} {j : Nat} (hj : j < 6) (t16 : T 16 = .ptr n1 0) (t18 : T 18 = .ptr (n1 + 1) 0) (t17 : T 17 = intV .i64 no)
    (hA : At S n1 (.cells nx 29 true 7)) (hF : At S (n1 + 1) (.cells [intV .i64 f1, intV .i64 0] 70 true 2)) {lo : Nat} (hlo : b4 < lo) (hn1 : n1 ≤ S.n)
    (ho : (4 ≤ qs.length ∧ f1 = 15) ∨ (qs.length < 4 ∧ f1 = 0 ∧ no = had + 1 ∧ ∃ v2, nx = tenC (had + 1) v2 ∧ QL x0 S lo n1 v2 (qs ++ [(j, had + 1)]))) :
    ∃ T' S' had' qv' qs', denK tab W V 181 c3_1_1_1_1_0_1_0_0_1_0_0_1_1_0_1_1_1 k T S = k.nxt T' S' ∧ Rg3 T' b3 b4 nv had' i ∧ Inv S' b3 b4 rv nv ns had' qv' qs' ∧ had' ≤ had + 1 ∧ S.n ≤ S'.n ∧ Up b3 S S' := by
  have lf : loadV tab S 37 (.ptr (n1 + 1) 0) = .ok (intV .i64 f1) := ld l37 hF rfl
  have lF : loadV tab S 70 (.ptr (n1 + 1) 0) = .ok (.agg [intV .i64 f1, intV .i64 0]) := lda a70 hF rfl rfl
  have lb : loadV tab S 24 (.ptr b8 3) = .ok bv := ld l24 hB rfl
  have e := ec3_1_1_1_1_0_1_0_0_1_0_0_1_1_0_1_1_1 k T S
  rcases ho with ⟨h4, rfl⟩ | ⟨h4, rfl, rfl, v2, rfl, hQ⟩
  · have d1 : decide ((qs.length : Int) < 4) = false := by simp; omega
    have hne : Dt.binOp tab .neq 70 (.agg [intV .i64 15, intV .i64 0]) (.agg [intV .i64 15, intV .i64 0]) false = .ok (boolV false) := by kernel_rfl
    simp (decide := true) only [mv_eq, g1_eq, g2_eq, g3_eq, bindR_val, condR_boolV, condT, condF, isBoolV_f, Bool.not_false, pickV_boolV, binOp_int, intOp_neq, intOp_lss, t18, t8, fa70_0, lf, n15, lF, build70', hne, fa29_3, Nat.zero_add, lb, hbl, d1] at e
    refine ⟨_, S, had, qv, qs, e, ?_, I, by omega, Nat.le_refl _, (Gw.refl S).up _⟩
    constructor <;> simp (decide := true) only [puts_cons, puts_nil, putE_ne, R.t0, R.t3, R.t4, R.t5, R.t6]
  · have lx : loadV tab S 29 (.ptr n1 0) = .ok (.agg (tenC (had + 1) v2)) := lda a29 hA rfl rfl
    have hlen : (qs ++ [(j, had + 1)]).length < 1000 := by rw [List.length_append]; simp; omega
    obtain ⟨s2, p1, g1⟩ := W10 (had + 1) (had + 1) v2 (qs ++ [(j, had + 1)]) hlen S (hQ.mono (Nat.zero_le _) hn1 (Nat.le_refl _) fun _ _ _ _ => rfl)
    have hno : ∀ q ∈ qs, q.2 ≠ had + 1 := fun q hq => by have := I.N.le q hq; omega
    rw [idxQ_app (had + 1) j qs 0 hno, Nat.zero_add] at p1
    have hf : findR ((qs.length : Nat) : Int) = .tuple [intV .i64 (qs.length : Int), intV .i64 0] := by
      unfold findR
      have : decide (((qs.length : Nat) : Int) < 0) = false := by simp
      rw [this]; rfl
    rw [hf] at p1
    have I2 := I.gw g1
    have h0 := I.h0
    have hN' : Numb (had + 1) (qs ++ [(j, had + 1)]) := by
      refine ⟨?_, ?_, ?_⟩
      · intro q hq
        rcases List.mem_append.1 hq with hq | hq
        · exact I.N.ok q hq
        · simp only [List.mem_singleton] at hq; subst hq; exact ⟨hj, by simp; omega, by simp; omega⟩
      · intro q hq
        rcases List.mem_append.1 hq with hq | hq
        · have := I.N.le q hq; omega
        · simp only [List.mem_singleton] at hq; subst hq; simp
      · rw [List.map_append, List.nodup_append]
        refine ⟨I.N.nd, by simp, ?_⟩
        intro a ha c hc
        simp only [List.map_cons, List.map_nil, List.mem_singleton] at hc
        subst hc
        obtain ⟨q, hq, rfl⟩ := List.mem_map.1 ha
        exact hno q hq
    obtain ⟨s3, c1, I3, n3, U3⟩ := I2.set hN' (by rw [List.length_append]; simp; omega) (by omega) (hQ.gw g1) hlo (Nat.le_trans hn1 g1.n)
    have lb2 : loadV tab s2 24 (.ptr b8 3) = .ok bv := ld l24 (hB.gw g1) rfl
    have lx2 : loadV tab s2 29 (.ptr n1 0) = .ok (.agg (tenC (had + 1) v2)) := lda a29 (hA.gw g1) rfl rfl
    have w1 : IntKind.i64.wrap (had + 1) = had + 1 := wrapI (by omega) (by omega)
    have d1 : ((had + 1) != (had + 1)) = false := by simp
    have d2 : (((qs.length : Nat) : Int) != ((qs.length : Nat) : Int)) = false := by simp
    simp (decide := true) only [mv_eq, g1_eq, g2_eq, g3_eq, bindR_val, retK_ret, condR_boolV, condT, condF, isBoolV_f, Bool.not_false, pickV_boolV, binOp_int, intOp_add, intOp_neq, extractV_0, extractV_1, t18, t8, t16, t17, R.t5, fa70_0, lf, n0, w1, lx, p1, d1, d2, fa29_3, Nat.zero_add, lb2, hbl, lx2, R.t3, c1] at e
    refine ⟨_, s3, had + 1, v2, qs ++ [(j, had + 1)], e, ?_, I3, Int.le_refl _, by have := g1.n; omega, (g1.up b3).trans U3⟩
    constructor <;> simp (decide := true) only [puts_cons, puts_nil, putE_same, putE_ne, R.t0, R.t3, R.t4, R.t6]
end Go.Proofs.YtcibhglcmcgneaaGreatDoor
namespace Go.Proofs.YtcibhglcmcgneaaGreatDoor
open Go Go.Dt
set_option maxRecDepth 100000

theorem sl3 (b L p : Nat) (h : p ≤ L) : sliceV tab 24 (.slice b 0 L none 24) none (some (intV .i64 (p : Int))) (some (intV .i64 (p : Int))) = .ok (.slice b 0 p (some p) 24) := by
  unfold sliceV
  simp only [u24, bindR_eq, bindR_val, sz68, boundO, bound_nat p L h, bound_nat p p (Nat.le_refl _)]
  rw [if_pos (show True ∧ 0 < 24 from ⟨trivial, by omega⟩)]
  simp
/-- the list without one, of a list in memory of its own -/
theorem appW {x : Nat → Int → List Tt} (F : Fam x) {s : St} {lo : Nat} {v : AV} {qs : List (Nat × Int)} (h : QV x s lo s.n v qs) {p : Nat} (hp : p < qs.length) (hlen : qs.length < 1000) :
    ∃ v1 v2 v' s', sliceV tab 24 v none (some (intV .i64 (p : Int))) (some (intV .i64 (p : Int))) = .ok v1 ∧ sliceV tab 24 v (some (intV .i64 ((p + 1 : Nat) : Int))) none none = .ok v2 ∧ bndA s.n v1 = true ∧ bndA s.n v2 = true ∧
      appendV tab s 24 24 v1 v2 = .ok (v', s') ∧ Gw s s' ∧ QL x s' 0 s'.n v' (cut p qs) := by
  obtain ⟨L, hL⟩ : ∃ L, L = qs.length := ⟨_, rfl⟩
  rcases h.is with ⟨rfl, rfl⟩ | ⟨b, rows, rfl, k2, k3, k4, k5⟩
  · simp at hp
  rw [← hL] at hp hlen ⊢
  have hrl := k5.lens F
  have hfl := k5.flen F
  rw [← hL] at hfl
  have hone := k5.one F
  have hrows : rows.length = L := by rw [hrl.2, hL]
  obtain ⟨ft1, fd1⟩ := flat_take24 rows hrl.1 p
  obtain ⟨ft2, fd2⟩ := flat_take24 rows hrl.1 (p + 1)
  have nl1 : (rows.take p).flatten.length = p * 24 := by rw [← ft1, List.length_take, hfl]; omega
  have nl2 : (rows.drop (p + 1)).flatten.length = (L - 1 - p) * 24 := by rw [← fd2, List.length_drop, hfl]; omega
  have hbn : Nat.blt b s.n = true := by rw [blt_eq]; simp; exact k4.1
  have hok := app24
  unfold appB at hok
  split at hok
  · rename_i e' s' i xd z h1 h2 h3 h4 h5
    simp only [Bool.and_eq_true, beq_iff_eq, decide_eq_true_eq, Bool.not_eq_true'] at hok
    obtain ⟨⟨⟨⟨rfl, rfl⟩, hb⟩, hx⟩, hz⟩ := hok
    have told : takeN rows.flatten 0 (p * 24) = .ok (rows.take p).flatten := by
      unfold takeN
      rw [List.drop_zero, ft1, if_pos nl1]
    have hcc : ∀ n : Nat, n < 1000 → (!(decide (n < 2 ^ 30) && decide (0 < i.bytes ∧ i.bytes < 2 ^ 14 ∧ 0 < 24) && !isIntD xd && z.cells.length == 24)) = false := by
      intro n hn
      simp only [Bool.not_eq_false', Bool.and_eq_true, decide_eq_true_eq, beq_iff_eq, hx, Bool.not_false, hz, and_true]
      exact ⟨by omega, hb⟩
    have c2 : ∀ n : Nat, n < 1000 → (!(decide (p + n < 2 ^ 30) && true)) = false := by
      intro n hn; simp; omega
    by_cases hlt : p + 1 < L
    · have hsrc : srcCells s 24 (.slice b ((p + 1) * 24) (L - (p + 1)) none 24) = .ok ((rows.drop (p + 1)).flatten, L - (p + 1)) :=
        src24 k4 (by rw [fd2]; exact List.take_of_length_le (by omega)) (by rw [nl2]; omega)
      refine ⟨_, _, .slice s.n 0 (p + (L - (p + 1))) none 24, s.push (.cells ((rows.take p).flatten ++ (rows.drop (p + 1)).flatten) 68 true 24), sl3 b L p (by omega), sl_lo b L (p + 1) (by omega) hlt, hbn, hbn, ?_, Gw.push _ _, ?_⟩
      · simp only [appendV, h1, h2, h3, h4, h5, hsrc, bindR_eq, bindR_val, hcc _ (show L - (p + 1) < 1000 by omega), c2 _ (show L - (p + 1) < 1000 by omega), cellsOf, k4.1, k4.2, if_true, told, beq_self_eq_true, Bool.false_eq_true, if_false]
        rw [if_neg (by omega)]
        rfl
      · refine ⟨.inr ⟨s.n, none, rows.take p ++ rows.drop (p + 1), [], ?_, Nat.zero_le _, by rw [push_n]; omega, ?_, ?_⟩⟩
        · rw [cut_len p qs (by omega), ← hL]
          congr 1; omega
        · rw [List.append_nil, List.flatten_append]; exact At.new _ _
        · exact RowsQ.mono (Nat.zero_le _) (Nat.le_of_lt k3) (fun c _ hc hg => getO_push_old (getO_gone hg)) (RowsQ.app (k5.take p) (k5.drop (p + 1)))
    · have hpl : p + 1 = L := by omega
      have hsrc : srcCells s 24 (.sliceZ b 0 L 24) = .ok ([], 0) := rfl
      refine ⟨_, .sliceZ b 0 L 24, .slice b 0 p (some p) 24, s, sl3 b L p (by omega), by rw [hpl]; exact sl_lo_all b L (by omega), hbn, hbn, ?_, Gw.refl _, ?_⟩
      · simp only [appendV, h1, h2, h3, h4, h5, hsrc, bindR_eq, bindR_val, hcc 0 (by omega), c2 0 (by omega), cellsOf, k4.1, k4.2, if_true, told, beq_self_eq_true, Bool.false_eq_true, if_false]
        rw [if_pos (by omega)]
        rfl
      · refine ⟨.inr ⟨b, some p, rows.take p, (rows.drop p).flatten, ?_, Nat.zero_le _, k4.1, ?_, ?_⟩⟩
        · rw [cut_len p qs (by omega), ← hL]
          congr 1; omega
        · rw [← List.flatten_append, List.take_append_drop]; exact k4
        · have : cut p qs = qs.take p := by
            unfold cut
            rw [List.drop_eq_nil_of_le (by omega), List.append_nil]
          rw [this]
          exact (k5.take p).mono (Nat.zero_le _) (Nat.le_refl _) fun _ _ _ _ => rfl
  · cases hok

/-- the loop that looks at all that is left -/
theorem loopW (b10 : Nat) (had : Int) (wv v2 : AV) (qs : List (Nat × Int)) (hok : ∀ q ∈ qs, okQ q) (hlen : qs.length < 1000) : ∀ (m i : Nat), i + m = qs.length → ∀ (T : Rg) (σ : St), WF σ → σ.M = M0 →
    QL x2 σ 0 σ.n wv qs → QL x0 σ 0 σ.n v2 qs → At σ b10 (.cells (tenC had v2) 29 true 7) → T 14 = wv → T 10 = .ptr b10 0 → T 15 = intV .i64 (i : Int) →
    ∃ T' σ', loopLim (dd tab W V 181 c3_1_1_1_1_0_1_0_0_1_0_0_1_1_0_1_0_1_1_1_1_1_0_1_1_0_1_0_0) T σ = .ok (.exit 2 T' σ') ∧ Gw σ σ' ∧ T' 0 = T 0 ∧ T' 3 = T 3 ∧ T' 4 = T 4 ∧ T' 5 = T 5 ∧ T' 6 = T 6 ∧ T' 10 = T 10 := by
  intro m
  induction m with
  | zero =>
    intro i hi T σ hw hM hW hQ hA t14 t10 t15
    have e := ec3_1_1_1_1_0_1_0_0_1_0_0_1_1_0_1_0_1_1_1_1_1_0_1_1_0_1_0_0 kOc T σ
    have d1 : decide ((i : Int) < (qs.length : Int)) = false := by simp; omega
    simp only [mv_eq, g1_eq, bindR_val, t14, t15, hW.lenV, binOp_int, intOp_lss, d1, condR_boolV, condF, kOc_exit] at e
    refine ⟨_, σ, loop_exit (dd_of tab W V 181 e), Gw.refl σ, ?_, ?_, ?_, ?_, ?_, ?_⟩ <;> simp (decide := true) only [puts_cons, puts_nil, putE_ne]
  | succ m ih =>
    intro i hi T σ hw hM hW hQ hA t14 t10 t15
    have hil : i < qs.length := by omega
    obtain ⟨q, hq⟩ : ∃ q, qs[i]? = some q := ⟨_, List.getElem?_eq_getElem hil⟩
    obtain ⟨bq, r, g1, g2, g3, g4⟩ := hW.get fam2 hq
    obtain ⟨bq', r', g1', g2', g3', g4'⟩ := hQ.get fam0 hq
    have hqok := hok q (List.mem_of_getElem? hq)
    obtain ⟨j, mm⟩ := q
    obtain ⟨s1, p1, p2⟩ := P11 hqok hM g3 g3'
    have rc := g3.cells (fam2.pl j mm)
    have rc' := g3'.cells (fam0.pl j mm)
    have e := ec3_1_1_1_1_0_1_0_0_1_0_0_1_1_0_1_0_1_1_1_1_1_0_1_1_0_1_0_0 kOc T σ
    have d1 : decide ((i : Int) < (qs.length : Int)) = true := by simp; omega
    have w1 : IntKind.i64.wrap ((i : Int) + 1) = ((i + 1 : Nat) : Int) := by rw [wrapI (by omega) (by omega)]; omega
    have lv : loadV tab σ 24 (.ptr b10 3) = .ok v2 := ld l24 hA rfl
    have b1 : beqA (.agg r) (.agg r) = true := by unfold beqA; exact rc.2.1
    have b2 : beqA (.agg r') (.agg r') = true := by unfold beqA; exact rc'.2.1
    have b3 : bndA σ.n (.agg r) = true := rc.2.2 _ (Nat.le_refl _)
    have b4 : bndA σ.n (.agg r') = true := rc'.2.2 _ (Nat.le_refl _)
    have b5 : bndA σ.n (.func (.func 11) [] []) = true := rfl
    have c1 : Nat.ble σ.n s1.n = true := Nat.ble_eq_true_of_le p2.n
    simp (decide := true) only [mv_eq, g1_eq, g2_eq, bindR_val, retK_ret, condR_boolV, condT, condF, Bool.not_true, binOp_int, unOp_not, intOp_add, intOp_lss, kOc_nxt, kOc_ret, kOc_exit, t14, t15, t10, hW.lenV, d1, g1, g2, sameR, b1, Bool.and_true, fa29_3, Nat.zero_add, lv, hQ.cell.2.1, g1', g2', b2, List.all_cons, List.all_nil, b3, b4, b5, Bool.and_self, p1, c1, w1] at e
    have key : ∃ T1, denK tab W V 181 c3_1_1_1_1_0_1_0_0_1_0_0_1_1_0_1_0_1_1_1_1_1_0_1_1_0_1_0_0 kOc T σ = .ok (.nxt T1 s1) ∧ T1 14 = wv ∧ T1 10 = .ptr b10 0 ∧ T1 15 = intV .i64 ((i + 1 : Nat) : Int) ∧ T1 0 = T 0 ∧ T1 3 = T 3 ∧ T1 4 = T 4 ∧ T1 5 = T 5 ∧ T1 6 = T 6 ∧ T1 10 = T 10 := by
      refine ⟨_, e, ?_, ?_, ?_, ?_, ?_, ?_, ?_, ?_, ?_⟩ <;> simp (decide := true) only [puts_cons, puts_nil, putE_same, putE_ne, t14, t10]
    obtain ⟨T1, e1, k14, k10, k15, y0, y3, y4, y5, y6, y10⟩ := key
    obtain ⟨T', σ', z1, z2, z0, z3, z4, z5, z6, z10⟩ := ih (i + 1) (by omega) T1 s1 (p2.len hw) (p2.M.trans hM) ((hW.gw p2).le p2.n) ((hQ.gw p2).le p2.n) (hA.gw p2) k14 k10 k15
    exact ⟨T', σ', loop_next (dd_of tab W V 181 e1) z1, p2.trans z2, z0.trans y0, z3.trans y3, z4.trans y4, z5.trans y5, z6.trans y6, z10.trans y10⟩
end Go.Proofs.YtcibhglcmcgneaaGreatDoor
namespace Go.Proofs.YtcibhglcmcgneaaGreatDoor
open Go Go.Dt
set_option maxRecDepth 100000

theorem neB (a b : Bool) : Dt.binOp tab .neq 4 (boolV a) (boolV b) false = .ok (boolV (!(a == b))) := by cases a <;> cases b <;> kernel_rfl
theorem numbCut {had : Int} {qs : List (Nat × Int)} (h : Numb had qs) (p : Nat) : Numb had (cut p qs) := by
  have hs : (cut p qs).Sublist qs := by
    unfold Go.Proofs.YtcibhglcmcgneaaGreatDoor.cut
    have h1 : (qs.take p ++ qs.drop p).Sublist qs := by rw [List.take_append_drop]; exact List.Sublist.refl _
    refine List.Sublist.trans (List.Sublist.append (List.Sublist.refl _) ?_) h1
    rw [← List.drop_drop]
    exact List.drop_sublist _ _
  exact ⟨fun q hq => h.ok q (hs.subset hq), fun q hq => h.le q (hs.subset hq), h.nd.sublist (hs.map _)⟩

/-- a query is dropped -/
theorem sDrop {ρ : Type} (k : K ρ) {S : St} {b3 b4 : Nat} {rv nv : AV} {ns : List Int} {had : Int} {qv : AV} {qs : List (Nat × Int)} (I : Inv S b3 b4 rv nv ns had qv qs) (h20 : had ≤ 20) {i : Nat} {T : Rg} (R : Rg3 T b3 b4 nv had i) {kk : Int} (t7 : T 7 = intV .i64 kk) (hk : (kk.tmod 3 == 0) = true)
    {b8 : Nat} {bv ev : AV} (t8 : T 8 = .ptr b8 0) (hB : At S b8 (.cells (ownC had bv ev) 29 true 7)) (hV : QV x2 S (b4 + 1) S.n bv qs) :
    ∃ T' S' qv' qs', denK tab W V 181 c3_1_1_1_1_0_1_0_0_1_0_0_1_1 k T S = denK tab W V 181 c3_1_1_1_1_0_1_0_0_1_0_0_1_1_1 k T' S' ∧ Rg3 T' b3 b4 nv had i ∧ Inv S' b3 b4 rv nv ns had qv' qs' ∧ S.n ≤ S'.n ∧ Up b3 S S' := by
  obtain ⟨n, hn⟩ : ∃ n, n = (IntKind.i64.wrap (kk.tdiv 3)).tmod 12 := ⟨_, rfl⟩
  -- to the branch
  have e0 := ec3_1_1_1_1_0_1_0_0_1_0_0_1_1 k T S
  simp (decide := true) only [mv_eq, g1_eq, g2_eq, g3_eq, bindR_val, condR_boolV, condT, binOp_int, intOp_eql, t7, remV, quoV, remV12, hk, ← hn] at e0
  obtain ⟨T0, hT0⟩ : ∃ T0 : Rg, denK tab W V 181 c3_1_1_1_1_0_1_0_0_1_0_0_1_1 k T S = denK tab W V 181 c3_1_1_1_1_0_1_0_0_1_0_0_1_1_0_1_0_1 (kseq (denK tab W V 181 c3_1_1_1_1_0_1_0_0_1_0_0_1_1_1 k) k) T0 S ∧ Rg3 T0 b3 b4 nv had i ∧ T0 8 = .ptr b8 0 ∧ T0 9 = intV .i64 n := by
    refine ⟨_, e0, ?_, ?_, ?_⟩
    · constructor <;> simp (decide := true) only [puts_cons, puts_nil, putE_ne, R.t0, R.t3, R.t4, R.t5, R.t6]
    · simp (decide := true) only [puts_cons, puts_nil, putE_ne, t8]
    · simp (decide := true) only [puts_cons, puts_nil, putE_same]
  obtain ⟨q0e, R0, t08, t09⟩ := hT0
  rw [q0e]
  -- the call
  obtain ⟨s2, p1, g1⟩ := P9 I.M
  have I2 := I.gw g1
  obtain ⟨s8, g2, hd⟩ := W8 had n I.h0 h20 rv qv qs I.N I.len s2 I2.wf I2.M I2.sv I2.q0
  have G8 := g1.trans g2
  have n8 := G8.n
  have I8 := I.gw G8
  obtain ⟨nx, er, hcall, hl7, ho7, hb7, hout⟩ : ∃ nx er, W 8 [.agg (svC rv), .agg cC, .agg (tenC had qv), intV .i64 n] s2 = .ok (.ret (.tuple [.agg nx, intV .i64 er]), s8) ∧ nx.length = 7 ∧ nx.all AV.oneCell = true ∧ (∀ m, s8.n ≤ m → bndA m (.agg nx) = true) ∧
      ((er = 7 ∧ idxQ n qs 0 = -1) ∨ (er = 0 ∧ ∃ p v2, p < qs.length ∧ idxQ n qs 0 = (p : Int) ∧ nx = tenC had v2 ∧ QL x0 s8 S.n s8.n v2 (cut p qs))) := by
    rcases hd with ⟨h4, hc⟩ | ⟨p, v2, hp, hix, hc, hq⟩
    · exact ⟨z29, 7, hc, rfl, rfl, fun _ _ => rfl, .inl ⟨rfl, h4⟩⟩
    · have vc := hq.cell
      exact ⟨tenC had v2, 0, hc, rfl, tenC_one vc.1, fun m hm => ten_n (vc.2.2.1 m hm), .inr ⟨rfl, p, v2, hp, hix, rfl, hq.mono g1.n (Nat.le_refl _) (Nat.le_refl _) fun _ _ _ _ => rfl⟩⟩
  have hA := At.new s8 (.cells z29 29 true 7)
  obtain ⟨s12, hs12⟩ : ∃ s, s = (s8.push (.cells z29 29 true 7)).set s8.n (.cells nx 29 true 7) := ⟨_, rfl⟩
  have e1 : storeV tab (s8.push (.cells z29 29 true 7)) 29 (.ptr s8.n 0) (.agg nx) = .ok s12 := by rw [hs12]; exact st29 hA rfl hl7 ho7
  have A12 : At s12 s8.n (.cells nx 29 true 7) := by rw [hs12]; exact hA.set_same (WF.push (G8.len I.wf) _) _
  have g12 : Gw s8 s12 := by rw [hs12]; exact ((Gw.push s8 _).up s8.n |>.trans (Up.set (Nat.le_refl _) hA.1 _)).gw (Nat.le_refl _)
  have n12 : s12.n = s8.n + 1 := by rw [hs12]; rfl
  have I12 := I8.gw g12
  have e := ec3_1_1_1_1_0_1_0_0_1_0_0_1_1_0_1_0_1 (kseq (denK tab W V 181 c3_1_1_1_1_0_1_0_0_1_0_0_1_1_1 k) k) T0 S
  have b1 : bndA S.n (.func (.func 9) [] []) = true := rfl
  have b2 : bndA s2.n (.func (.func 8) [] []) = true := rfl
  have b3' : bndA s2.n (.agg cC) = true := rfl
  have b4' : bndA s2.n (intV .i64 n) = true := rfl
  have b6 : bndA (s8.n + 1) (.ptr s8.n 0) = true := by
    show Nat.blt s8.n (s8.n + 1) = true
    rw [blt_eq]; simp
  have b7 : bndA (s8.n + 1) (.agg nx) = true := hb7 _ (by omega)
  have m1 : Nat.ble S.n s2.n = true := Nat.ble_eq_true_of_le g1.n
  have m2 : Nat.ble s2.n s8.n = true := Nat.ble_eq_true_of_le g2.n
  have m3 : Nat.ble (s8.n + 1) s12.n = true := Nat.ble_eq_true_of_le (by omega)
  simp (decide := true) only [g2_eq, g3_eq, bindR_val, retK_ret, condT, extractV_0, extractV_1, List.all_cons, List.all_nil, Bool.and_true, Bool.and_self, b1, p1, m1, R0.t3, R0.t4, t09, I2.l4, I.l4, I2.l3, I.l3, sameR, I.bS.1, I.bT.1, b2, I2.bS.2 _ (Nat.le_refl _), b3', I2.bT.2 _ (Nat.le_refl _), b4', hcall, m2, alloc29, z29_b, push_n, b6, b7, e1, m3] at e
  obtain ⟨T1, q1e, R1, t18, t19, t10, t11⟩ : ∃ T1 : Rg, denK tab W V 181 c3_1_1_1_1_0_1_0_0_1_0_0_1_1_0_1_0_1 (kseq (denK tab W V 181 c3_1_1_1_1_0_1_0_0_1_0_0_1_1_1 k) k) T0 S = denK tab W V 181 c3_1_1_1_1_0_1_0_0_1_0_0_1_1_0_1_0_1_1 (kseq (denK tab W V 181 c3_1_1_1_1_0_1_0_0_1_0_0_1_1_1 k) k) T1 s12 ∧ Rg3 T1 b3 b4 nv had i ∧ T1 8 = .ptr b8 0 ∧ T1 9 = intV .i64 n ∧ T1 10 = .ptr s8.n 0 ∧ T1 11 = intV .i64 er := by
    refine ⟨_, e, ?_, ?_, ?_, ?_, ?_⟩
    · constructor <;> simp (decide := true) only [puts_cons, puts_nil, putE_ne, R0.t0, R0.t3, R0.t4, R0.t5, R0.t6]
    · simp (decide := true) only [puts_cons, puts_nil, putE_ne, t08]
    · simp (decide := true) only [puts_cons, puts_nil, putE_ne, t09]
    · simp (decide := true) only [puts_cons, puts_nil, putE_same, putE_ne]
    · simp (decide := true) only [puts_cons, puts_nil, putE_same]
  rw [q1e]
  -- where it stood
  obtain ⟨s4, p4, g4⟩ := W10 had n qv qs (by have := I.len; omega) s12 I12.q0
  have I4 := I12.gw g4
  have G4 := (G8.trans g12).trans g4
  have n4 := g4.n
  obtain ⟨pl, fe, hfind⟩ : ∃ pl fe : Int, findR (idxQ n qs 0) = .tuple [intV .i64 pl, intV .i64 fe] ∧ ((er = 7 ∧ fe = 7) ∨ (er = 0 ∧ fe = 0 ∧ ∃ p v2, p < qs.length ∧ pl = (p : Int) ∧ nx = tenC had v2 ∧ QL x0 s8 S.n s8.n v2 (cut p qs))) := by
    rcases hout with ⟨h1, h2⟩ | ⟨h1, p, v2, h2, h3, h4, h5⟩
    · exact ⟨0, 7, by rw [h2]; rfl, .inl ⟨h1, rfl⟩⟩
    · refine ⟨p, 0, ?_, .inr ⟨h1, rfl, p, v2, h2, rfl, h4, h5⟩⟩
      rw [h3]; unfold findR
      have : decide ((p : Int) < 0) = false := by simp
      rw [this]; rfl
  obtain ⟨hf, hout⟩ := hfind
  rw [hf] at p4
  have e := ec3_1_1_1_1_0_1_0_0_1_0_0_1_1_0_1_0_1_1 (kseq (denK tab W V 181 c3_1_1_1_1_0_1_0_0_1_0_0_1_1_1 k) k) T1 s12
  simp (decide := true) only [mv_eq, g1_eq, g2_eq, bindR_val, retK_ret, extractV_0, extractV_1, R1.t3, t19, I12.l3, p4] at e
  obtain ⟨T2, q2e, R2, t28, t210, t211, t212, t213⟩ : ∃ T2 : Rg, denK tab W V 181 c3_1_1_1_1_0_1_0_0_1_0_0_1_1_0_1_0_1_1 (kseq (denK tab W V 181 c3_1_1_1_1_0_1_0_0_1_0_0_1_1_1 k) k) T1 s12 = denK tab W V 181 c3_1_1_1_1_0_1_0_0_1_0_0_1_1_0_1_0_1_1_1 (kseq (denK tab W V 181 c3_1_1_1_1_0_1_0_0_1_0_0_1_1_1 k) k) T2 s4 ∧
      Rg3 T2 b3 b4 nv had i ∧ T2 8 = .ptr b8 0 ∧ T2 10 = .ptr s8.n 0 ∧ T2 11 = intV .i64 er ∧ T2 12 = intV .i64 pl ∧ T2 13 = intV .i64 fe := by
    refine ⟨_, e, ?_, ?_, ?_, ?_, ?_, ?_⟩
    · constructor <;> simp (decide := true) only [puts_cons, puts_nil, putE_ne, R1.t0, R1.t3, R1.t4, R1.t5, R1.t6]
    · simp (decide := true) only [puts_cons, puts_nil, putE_ne, t18]
    · simp (decide := true) only [puts_cons, puts_nil, putE_ne, t10]
    · simp (decide := true) only [puts_cons, puts_nil, putE_ne, t11]
    · simp (decide := true) only [puts_cons, puts_nil, putE_same, putE_ne]
    · simp (decide := true) only [puts_cons, puts_nil, putE_same]
  rw [q2e]
  have ez := ec3_1_1_1_1_0_1_0_0_1_0_0_1_1_0_1_0_1_1_1 (kseq (denK tab W V 181 c3_1_1_1_1_0_1_0_0_1_0_0_1_1_1 k) k) T2 s4
  have d70 : ((7 : Int) == 0) = false := rfl
  have d00 : ((0 : Int) == 0) = true := rfl
  have d7 : ((7 : Int) != 0) = true := rfl
  have d0n : ((0 : Int) != 0) = false := rfl
  have d77 : ((7 : Int) != 7) = false := rfl
  have f1 : (!(false == false)) = false := rfl
  have f2 : (!(true == true)) = false := rfl
  have B4 := hB.gw G4
  have A4 := (A12.gw g4)
  rcases hout with ⟨rfl, rfl⟩ | ⟨rfl, rfl, p, v2, hp, rfl, rfl, hQ⟩
  · -- there was none
    simp (decide := true) only [mv_eq, g1_eq, bindR_val, condR_boolV, condT, condF, isBoolV_f, isBoolV_t, Bool.not_false, pickV_boolV, binOp_int, intOp_eql, intOp_neq, kseq_ret, t211, t213, d70, neB, f1, d7, d77] at ez
    obtain ⟨T3, q3e, R3, t311⟩ : ∃ T3 : Rg, denK tab W V 181 c3_1_1_1_1_0_1_0_0_1_0_0_1_1_0_1_0_1_1_1 (kseq (denK tab W V 181 c3_1_1_1_1_0_1_0_0_1_0_0_1_1_1 k) k) T2 s4 = denK tab W V 181 c3_1_1_1_1_0_1_0_0_1_0_0_1_1_0_1_0_1_1_1_1 (kseq (denK tab W V 181 c3_1_1_1_1_0_1_0_0_1_0_0_1_1_1 k) k) T3 s4 ∧ Rg3 T3 b3 b4 nv had i ∧ T3 11 = intV .i64 7 := by
      refine ⟨_, ez, ?_, ?_⟩
      · constructor <;> simp (decide := true) only [puts_cons, puts_nil, putE_ne, R2.t0, R2.t3, R2.t4, R2.t5, R2.t6]
      · simp (decide := true) only [puts_cons, puts_nil, putE_ne, t211]
    rw [q3e]
    have e := ec3_1_1_1_1_0_1_0_0_1_0_0_1_1_0_1_0_1_1_1_1 (kseq (denK tab W V 181 c3_1_1_1_1_0_1_0_0_1_0_0_1_1_1 k) k) T3 s4
    simp (decide := true) only [mv_eq, g1_eq, g4_eq, bindR_val, condR_boolV, condF, binOp_int, intOp_eql, kseq_nxt, kseq_ret, t311, d70] at e
    refine ⟨_, s4, qv, qs, e, ?_, I4, by omega, G4.up b3⟩
    constructor <;> simp (decide := true) only [puts_cons, puts_nil, putE_ne, R3.t0, R3.t3, R3.t4, R3.t5, R3.t6]
  · simp (decide := true) only [mv_eq, g1_eq, bindR_val, condR_boolV, condT, condF, isBoolV_f, isBoolV_t, Bool.not_false, pickV_boolV, binOp_int, intOp_eql, intOp_neq, kseq_ret, t211, t213, d00, neB, f2, d0n] at ez
    obtain ⟨T3, q3e, R3, t38, t310, t311, t312⟩ : ∃ T3 : Rg, denK tab W V 181 c3_1_1_1_1_0_1_0_0_1_0_0_1_1_0_1_0_1_1_1 (kseq (denK tab W V 181 c3_1_1_1_1_0_1_0_0_1_0_0_1_1_1 k) k) T2 s4 = denK tab W V 181 c3_1_1_1_1_0_1_0_0_1_0_0_1_1_0_1_0_1_1_1_1 (kseq (denK tab W V 181 c3_1_1_1_1_0_1_0_0_1_0_0_1_1_1 k) k) T3 s4 ∧ Rg3 T3 b3 b4 nv had i ∧ T3 8 = .ptr b8 0 ∧ T3 10 = .ptr s8.n 0 ∧ T3 11 = intV .i64 0 ∧ T3 12 = intV .i64 (p : Int) := by
      refine ⟨_, ez, ?_, ?_, ?_, ?_, ?_⟩
      · constructor <;> simp (decide := true) only [puts_cons, puts_nil, putE_ne, R2.t0, R2.t3, R2.t4, R2.t5, R2.t6]
      · simp (decide := true) only [puts_cons, puts_nil, putE_ne, t28]
      · simp (decide := true) only [puts_cons, puts_nil, putE_ne, t210]
      · simp (decide := true) only [puts_cons, puts_nil, putE_ne, t211]
      · simp (decide := true) only [puts_cons, puts_nil, putE_ne, t212]
    rw [q3e]
    have hlen := I.len
    have hV4 : QV x2 s4 (b4 + 1) s4.n bv qs := (hV.gw G4).mono (Nat.le_refl _) (by omega) (Nat.le_refl _) fun _ _ _ _ => rfl
    obtain ⟨v1', v2', wv, s5, c1, c2, c3, c4, c5, g5, hW⟩ := appW fam2 hV4 hp (by omega)
    have hQ4 : QL x0 s4 S.n s8.n v2 (cut p qs) := hQ.gw (g12.trans g4)
    have lb : loadV tab s4 24 (.ptr b8 3) = .ok bv := ld l24 B4 rfl
    have ln : loadV tab s4 24 (.ptr s8.n 3) = .ok v2 := ld l24 A4 rfl
    have cl := cut_len p qs hp
    have x1 : decide ((p : Int) < 0) = false := by simp
    have x2' : decide ((p : Int) ≥ (qs.length : Int)) = false := by simp; omega
    have w1 : IntKind.i64.wrap ((qs.length : Int) - 1) = (((cut p qs).length : Nat) : Int) := by rw [cl, wrapI (by omega) (by omega)]; omega
    have w2 : IntKind.i64.wrap ((p : Int) + 1) = ((p + 1 : Nat) : Int) := by rw [wrapI (by omega) (by omega)]; omega
    have x3 : ((((cut p qs).length : Nat) : Int) != (((cut p qs).length : Nat) : Int)) = false := by simp
    have bvb := hV4.ql.cell.2.1
    have m5 : Nat.ble s4.n s5.n = true := Nat.ble_eq_true_of_le g5.n
    have I5 := I4.gw g5
    have hQ5 : QL x0 s5 S.n s8.n v2 (cut p qs) := hQ4.gw g5
    have n5 := g5.n
    have e := ec3_1_1_1_1_0_1_0_0_1_0_0_1_1_0_1_0_1_1_1_1 (kseq (denK tab W V 181 c3_1_1_1_1_0_1_0_0_1_0_0_1_1_1 k) k) T3 s4
    simp (decide := true) only [mv_eq, g1_eq, g4_eq, bindR_val, condR_boolV, condT, condF, isBoolV_f, Bool.not_false, pickV_boolV, binOp_int, intOp_add, intOp_sub, intOp_eql, intOp_neq, intOp_lss, intOp_geq, kseq_nxt, kseq_ret, t311, d00, t312, t38, t310, x1, fa29_3, Nat.zero_add, lb, hV4.ql.lenV, x2', ln, hQ4.lenV, w1, x3, sameR, bvb, Bool.and_true, c1, c2, w2, List.all_cons, List.all_nil, c3, c4, c5, m5] at e
    obtain ⟨Tw, e2, ta, tb, tc, y0, y3, y4, y5, y6⟩ : ∃ Tw : Rg, denK tab W V 181 c3_1_1_1_1_0_1_0_0_1_0_0_1_1_0_1_0_1_1_1_1 (kseq (denK tab W V 181 c3_1_1_1_1_0_1_0_0_1_0_0_1_1_1 k) k) T3 s4 = bindR (loopLim (dd tab W V 181 c3_1_1_1_1_0_1_0_0_1_0_0_1_1_0_1_0_1_1_1_1_1_0_1_1_0_1_0_0) Tw s5) (K.app (kblk 2 (kseq (denK tab W V 181 c3_1_1_1_1_0_1_0_0_1_0_0_1_1_0_1_0_1_1_1_1_1_0_1_1_1 (kseq (denK tab W V 181 c3_1_1_1_1_0_1_0_0_1_0_0_1_1_1 k) k)) (kseq (denK tab W V 181 c3_1_1_1_1_0_1_0_0_1_0_0_1_1_1 k) k)))) ∧
        Tw 14 = wv ∧ Tw 10 = .ptr s8.n 0 ∧ Tw 15 = intV .i64 ((0 : Nat) : Int) ∧ Tw 0 = T3 0 ∧ Tw 3 = T3 3 ∧ Tw 4 = T3 4 ∧ Tw 5 = T3 5 ∧ Tw 6 = T3 6 := by
      refine ⟨_, e, ?_, ?_, ?_, ?_, ?_, ?_, ?_, ?_⟩
      · simp (decide := true) only [puts_cons, puts_nil, putE_same, putE_ne]
      · simp (decide := true) only [puts_cons, puts_nil, putE_ne, t310]
      · simp (decide := true) only [puts_cons, puts_nil, putE_same]; rfl
      · simp (decide := true) only [puts_cons, puts_nil, putE_ne]
      · simp (decide := true) only [puts_cons, puts_nil, putE_ne]
      · simp (decide := true) only [puts_cons, puts_nil, putE_ne]
      · simp (decide := true) only [puts_cons, puts_nil, putE_ne]
      · simp (decide := true) only [puts_cons, puts_nil, putE_ne]
    have hN' := numbCut I.N p
    obtain ⟨Tx, s6, z1, g6, v0, v3, v4, v5, v6, v10⟩ := loopW s8.n had wv v2 (cut p qs) hN'.ok (by rw [cl]; omega) (cut p qs).length 0 (by omega) Tw s5 I5.wf I5.M hW (hQ5.mono (Nat.zero_le _) (by omega) (Nat.le_refl _) fun _ _ _ _ => rfl) (A4.gw g5) ta tb tc
    rw [z1, bindR_val] at e2
    have I6 := I5.gw g6
    have A6 := (A4.gw g5).gw g6
    have l6 : loadV tab s6 29 (.ptr s8.n 0) = .ok (.agg (tenC had v2)) := lda a29 A6 rfl rfl
    have n6 := g6.n
    have b4n := I.a4.1
    obtain ⟨s7, st7, I7, n7, U7⟩ := I6.set hN' (by rw [cl]; omega) I.h0 (hQ5.gw g6) (by omega) (by omega)
    have u10 : Tx 10 = .ptr s8.n 0 := v10.trans tb
    have u3 : Tx 3 = .ptr b3 0 := v3.trans (y3.trans R3.t3)
    simp (decide := true) only [app_exit, kblk_exit, if_true, kseq_nxt, ec3_1_1_1_1_0_1_0_0_1_0_0_1_1_0_1_0_1_1_1_1_1_0_1_1_1, g1_eq, g3_eq, bindR_val, app_exit, kblk_exit, kseq_nxt, kseq_exit, u10, u3, l6, st7] at e2
    refine ⟨_, s7, v2, cut p qs, e2, ?_, I7, by omega, ((((G4.trans g5).trans g6).up b3).trans U7)⟩
    constructor <;> simp (decide := true) only [puts_cons, puts_nil, putE_ne, v0, v3, v4, v5, v6, y0, y3, y4, y5, y6, R3.t0, R3.t3, R3.t4, R3.t5, R3.t6]
end Go.Proofs.YtcibhglcmcgneaaGreatDoor
namespace Go.Proofs.YtcibhglcmcgneaaGreatDoor
open Go Go.Dt
set_option maxRecDepth 100000

def z33 : List AV := [nilS, intV .u64 0, intV .u64 0, intV .u64 0]
theorem alloc33 (n : Nat) : allocA tab 33 n = .ok (.ptr n 0, .cells z33 33 true 4) := by kernel_rfl
theorem s33 : sizeB 33 4 = true := by kernel_rfl
theorem spl33 (a b c d : AV) (l : List AV) (hl : l.length = 4) : splice [a, b, c, d] 0 l = l := by
  match l, hl with
  | [_, _, _, _], _ => rfl
theorem st33 {σ : St} {b : Nat} {cs l : List AV} (hA : At σ b (.cells cs 33 true 4)) (hc : cs.length = 4) (hl : l.length = 4) (ho : l.all AV.oneCell = true) : storeV tab σ 33 (.ptr b 0) (.agg l) = .ok (σ.set b (.cells l 33 true 4)) := by
  have := stv (o := 0) (x := .agg l) s33 hA hl (by omega) (by omega) ho
  rw [this]
  congr 3
  match cs, hc with
  | [_, _, _, _], _ => exact spl33 _ _ _ _ l hl

/-- a round, from the load of the tenant on -/
theorem sRound {ρ : Type} (k : K ρ) {S : St} {b3 b4 : Nat} {rv nv : AV} {ns : List Int} {had : Int} {qv : AV} {qs : List (Nat × Int)} (I : Inv S b3 b4 rv nv ns had qv qs) {i : Nat} (hi : had ≤ i) (h20 : i < 20) {T : Rg} (R : Rg3 T b3 b4 nv had i) {kk : Int} (t7 : T 7 = intV .i64 kk) :
    ∃ T' S' had' qv' qs', denK tab W V 181 c3_1_1_1_1_0_1_0_0_1_0_0_1 k T S = k.nxt T' S' ∧ Rg3 T' b3 b4 nv had' i ∧ Inv S' b3 b4 rv nv ns had' qv' qs' ∧ had' ≤ (i : Int) + 1 ∧ Up b3 S S' := by
  have hlen := I.len
  have b4n := I.a4.1
  obtain ⟨s1, bv, be, hc, g1, hbe, hV⟩ := W7 had qv qs I.N.ok (by omega) S I.wf I.M I.q0
  have I1 := I.gw g1
  have hA := At.new s1 (.cells z29 29 true 7)
  have one : (ownC had bv (.slice be 0 0 none 7)).all AV.oneCell = true := by
    have := hV.ql.cell.1
    simp only [ownC, List.all_cons, List.all_nil, Bool.and_true, this]; rfl
  obtain ⟨s2, hs2⟩ : ∃ s, s = (s1.push (.cells z29 29 true 7)).set s1.n (.cells (ownC had bv (.slice be 0 0 none 7)) 29 true 7) := ⟨_, rfl⟩
  have e1 : storeV tab (s1.push (.cells z29 29 true 7)) 29 (.ptr s1.n 0) (.agg (ownC had bv (.slice be 0 0 none 7))) = .ok s2 := by rw [hs2]; exact st29 hA rfl rfl one
  have A2 : At s2 s1.n (.cells (ownC had bv (.slice be 0 0 none 7)) 29 true 7) := by rw [hs2]; exact hA.set_same (WF.push I1.wf _) _
  have g2 : Gw s1 s2 := by rw [hs2]; exact ((Gw.push s1 _).up s1.n |>.trans (Up.set (Nat.le_refl _) hA.1 _)).gw (Nat.le_refl _)
  have I2 := I1.gw g2
  have n1 := g1.n
  have n2 := g2.n
  have e := ec3_1_1_1_1_0_1_0_0_1_0_0_1 k T S
  simp (decide := true) only [g1_eq, g2_eq, g3_eq, bindR_val, retK_ret, R.t3, I.l3, hc, alloc29, e1] at e
  obtain ⟨T2, e2, R2, u8, u7⟩ : ∃ T2 : Rg, denK tab W V 181 c3_1_1_1_1_0_1_0_0_1_0_0_1 k T S = denK tab W V 181 c3_1_1_1_1_0_1_0_0_1_0_0_1_1 k T2 s2 ∧ Rg3 T2 b3 b4 nv had i ∧ T2 8 = .ptr s1.n 0 ∧ T2 7 = intV .i64 kk := by
    refine ⟨_, e, ?_, ?_, ?_⟩
    · constructor <;> simp (decide := true) only [puts_cons, puts_nil, putE_ne, R.t0, R.t3, R.t4, R.t5, R.t6]
    · simp (decide := true) only [puts_cons, puts_nil, putE_same]
    · simp (decide := true) only [puts_cons, puts_nil, putE_ne, t7]
  rw [e2]
  have hV2 : QV x2 s2 (b4 + 1) s2.n bv qs := (hV.gw g2).mono (by omega) (by omega) (Nat.le_refl _) fun _ _ _ _ => rfl
  cases hk : (kk.tmod 3 == 0) with
  | true =>
    obtain ⟨T3, s3, qv', qs', e3, R3, I3, n3, U3⟩ := sDrop k I2 (by omega) R2 u7 hk u8 A2 hV2
    obtain ⟨T4, s4, e4, R4, g4⟩ := sChk k I3 (by omega) R3
    exact ⟨T4, s4, had, qv', qs', e3.trans e4, R4, I3.gw g4, by omega, (((g1.trans g2).up b3).trans U3).trans (g4.up b3)⟩
  | false =>
    obtain ⟨T3, s3, n1', j, nx, no, f1, hj, e3, R3, v8, v16, v18, v17, A3, B3, g3, hn1, ho⟩ := sAdd k I2 (by omega) R2 u7 hk
    have I3 := I2.gw g3
    obtain ⟨T4, s4, had', qv', qs', e4, R4, I4, hh, n4, U4⟩ := sAdd2 (kseq (denK tab W V 181 c3_1_1_1_1_0_1_0_0_1_0_0_1_1_1 k) k) I3 (by omega) R3 (v8.trans u8) (A2.gw g3) hV2.ql.lenV hj v16 v18 v17 A3 B3 (lo := s2.n) (by omega) (Nat.le_of_lt A3.1) ho
    obtain ⟨T5, s5, e5, R5, g5⟩ := sChk k I4 (by omega) R4
    refine ⟨T5, s5, had', qv', qs', ?_, R5, I4.gw g5, by omega, ((((g1.trans g2).trans g3).up b3).trans U4).trans (g5.up b3)⟩
    rw [e3, e4, kseq_nxt, e5]

/-- the law's loop -/
theorem loop3 {b3 b4 : Nat} {rv nv : AV} {ns : List Int} : ∀ (m i : Nat), i + m = min ns.length 20 → ∀ (T : Rg) (S : St) (had : Int) (qv : AV) (qs : List (Nat × Int)), Inv S b3 b4 rv nv ns had qv qs → had ≤ i → Rg3 T b3 b4 nv had i →
    ∃ T' S', loopLim (dd tab W V 181 c3_1_1_1_1_0_1_0_0) T S = .ok (.exit 0 T' S') ∧ Up b3 S S' := by
  intro m
  induction m with
  | zero =>
    intro i hm T S had qv qs I hh R
    have e := ec3_1_1_1_1_0_1_0_0 kOc T S
    by_cases hl : i < ns.length
    · have d1 : decide ((i : Int) < (ns.length : Int)) = true := by simp; omega
      have d2 : decide ((i : Int) < 20) = false := by simp; omega
      simp (decide := true) only [mv_eq, g1_eq, bindR_val, condR_boolV, condT, condF, isBoolV_t, pickV_boolV, binOp_int, intOp_lss, kOc_exit, R.t0, R.t6, I.nm.lenV, d1, d2] at e
      exact ⟨_, S, loop_exit (dd_of tab W V 181 e), (Gw.refl S).up _⟩
    · have d1 : decide ((i : Int) < (ns.length : Int)) = false := by simp; omega
      simp (decide := true) only [mv_eq, g1_eq, bindR_val, condR_boolV, condF, isBoolV_t, pickV_boolV, binOp_int, intOp_lss, kOc_exit, R.t0, R.t6, I.nm.lenV, d1] at e
      exact ⟨_, S, loop_exit (dd_of tab W V 181 e), (Gw.refl S).up _⟩
  | succ m ih =>
    intro i hm T S had qv qs I hh R
    have hl : i < ns.length := by omega
    have h20 : i < 20 := by omega
    have e := ec3_1_1_1_1_0_1_0_0 kOc T S
    have d1 : decide ((i : Int) < (ns.length : Int)) = true := by simp; omega
    have d2 : decide ((i : Int) < 20) = true := by simp; omega
    simp (decide := true) only [mv_eq, g1_eq, bindR_val, condR_boolV, condT, isBoolV_t, pickV_boolV, binOp_int, intOp_lss, kOc_exit, R.t0, R.t6, I.nm.lenV, d1, d2] at e
    obtain ⟨T1, e1, R1⟩ : ∃ T1 : Rg, denK tab W V 181 c3_1_1_1_1_0_1_0_0 kOc T S = denK tab W V 181 c3_1_1_1_1_0_1_0_0_1 kOc T1 S ∧ Rg3 T1 b3 b4 nv had i := by
      refine ⟨_, e, ?_⟩
      constructor <;> simp (decide := true) only [puts_cons, puts_nil, putE_ne, R.t0, R.t3, R.t4, R.t5, R.t6]
    clear e
    obtain ⟨n, hn⟩ : ∃ n, ns[i]? = some n := ⟨_, List.getElem?_eq_getElem hl⟩
    obtain ⟨p, q1, q2⟩ := I.nm.get hn
    have w6 := W6 n 1048576 (by omega) (by omega) S
    have e := ec3_1_1_1_1_0_1_0_0_1 kOc T1 S
    simp (decide := true) only [mv_eq, g1_eq, g2_eq, bindR_val, retK_ret, R1.t0, R1.t6, q1, q2, w6] at e
    obtain ⟨T2, e2, R2, u7⟩ : ∃ T2 : Rg, denK tab W V 181 c3_1_1_1_1_0_1_0_0_1 kOc T1 S = denK tab W V 181 c3_1_1_1_1_0_1_0_0_1_0_0_1 (kblk 1 (kseq (denK tab W V 181 c3_1_1_1_1_0_1_0_0_1_1 kOc) kOc)) T2 S ∧ Rg3 T2 b3 b4 nv had i ∧ T2 7 = intV .i64 (n % 1048576) := by
      refine ⟨_, e, ?_, ?_⟩
      · constructor <;> simp (decide := true) only [puts_cons, puts_nil, putE_ne, R1.t0, R1.t3, R1.t4, R1.t5, R1.t6]
      · simp (decide := true) only [puts_cons, puts_nil, putE_same]
    clear e
    obtain ⟨T3, s3, had', qv', qs', e3, R3, I3, h3, U3⟩ := sRound (kblk 1 (kseq (denK tab W V 181 c3_1_1_1_1_0_1_0_0_1_1 kOc) kOc)) I hh h20 R2 u7
    have e := ec3_1_1_1_1_0_1_0_0_1_1 kOc T3 s3
    have w1 : IntKind.i64.wrap ((i : Int) + 1) = ((i + 1 : Nat) : Int) := by rw [wrapI (by omega) (by omega)]; omega
    simp (decide := true) only [mv_eq, g1_eq, bindR_val, binOp_int, intOp_add, kOc_nxt, R3.t6, w1] at e
    obtain ⟨T4, e4, R4⟩ : ∃ T4 : Rg, denK tab W V 181 c3_1_1_1_1_0_1_0_0_1_1 kOc T3 s3 = .ok (.nxt T4 s3) ∧ Rg3 T4 b3 b4 nv had' (i + 1) := by
      refine ⟨_, e, ?_⟩
      constructor <;> simp (decide := true) only [puts_cons, puts_nil, putE_same, putE_ne, R3.t0, R3.t3, R3.t4, R3.t5]
    have ea : denK tab W V 181 c3_1_1_1_1_0_1_0_0 kOc T S = .ok (.nxt T4 s3) := by
      rw [e1, e2, e3, kblk_nxt, kseq_nxt, e4]
    obtain ⟨T', S', z, U⟩ := ih (i + 1) (by omega) T4 s3 had' qv' qs' I3 (by omega) R4
    exact ⟨T', S', loop_next (dd_of tab W V 181 ea) z, U3.trans U⟩

theorem Nums.mono {σ σ' : St} {b b' : Nat} {nv : AV} {ns : List Int} (h : Nums σ b nv ns) (g : Gw σ σ') (hb : b ≤ b') : Nums σ' b' nv ns := by
  rcases h.is with h | ⟨bn, cap, e, ow, h1, h2, h3⟩
  · exact ⟨.inl h⟩
  · exact ⟨.inr ⟨bn, cap, e, ow, h1, by omega, h3.gw g⟩⟩

/-- the law says true -/
theorem law3 {σ : St} {nv : AV} {ns : List Int} (hw : WF σ) (hM : σ.M = M0) (hN : Nums σ σ.n nv ns) : ∃ σ', W 3 [nv] σ = .ok (.ret (boolV true), σ') ∧ Gw σ σ' := by
  obtain ⟨s1, p1, g1⟩ := P4 hM
  have hA := At.new s1 (.cells z29 29 true 7)
  obtain ⟨s2, hs2⟩ : ∃ s, s = (s1.push (.cells z29 29 true 7)).set s1.n (.cells (tenC 0 nilS) 29 true 7) := ⟨_, rfl⟩
  have e1 : storeV tab (s1.push (.cells z29 29 true 7)) 29 (.ptr s1.n 0) (.agg (tenC 0 nilS)) = .ok s2 := by rw [hs2]; exact st29 hA rfl rfl rfl
  have A2 : At s2 s1.n (.cells (tenC 0 nilS) 29 true 7) := by rw [hs2]; exact hA.set_same (WF.push (g1.len hw) _) _
  have g2 : Gw s1 s2 := by rw [hs2]; exact ((Gw.push s1 _).up s1.n |>.trans (Up.set (Nat.le_refl _) hA.1 _)).gw (Nat.le_refl _)
  have n2 : s2.n = s1.n + 1 := by rw [hs2]; rfl
  have G2 := g1.trans g2
  obtain ⟨rv, s3, p3, g3, d3⟩ := P5 (G2.M.trans hM)
  have hB := At.new s3 (.cells z33 33 true 4)
  have rvc : AV.oneCell rv = true := by
    have h3 := d3
    rw [stS, Dp] at h3
    obtain ⟨l, hl, h3⟩ := h3
    cases hl
    rw [svC, DpL] at h3
    obtain ⟨x, r, hx, h3, _⟩ := h3
    cases hx
    exact (h3.cell rfl).1
  have one : (svC rv).all AV.oneCell = true := by
    simp only [svC, List.all_cons, List.all_nil, Bool.and_true, rvc]; rfl
  obtain ⟨s4, hs4⟩ : ∃ s, s = (s3.push (.cells z33 33 true 4)).set s3.n (.cells (svC rv) 33 true 4) := ⟨_, rfl⟩
  have e3 : storeV tab (s3.push (.cells z33 33 true 4)) 33 (.ptr s3.n 0) (.agg (svC rv)) = .ok s4 := by rw [hs4]; exact st33 hB rfl rfl one
  have G3 := G2.trans g3
  have B4 : At s4 s3.n (.cells (svC rv) 33 true 4) := by rw [hs4]; exact hB.set_same (WF.push (G3.len hw) _) _
  have g4 : Gw s3 s4 := by rw [hs4]; exact ((Gw.push s3 _).up s3.n |>.trans (Up.set (Nat.le_refl _) hB.1 _)).gw (Nat.le_refl _)
  have G4 := G3.trans g4
  have n3 := g3.n
  have n1 := g1.n
  have I4 : Inv s4 s1.n s3.n rv nv ns 0 nilS [] := by
    refine ⟨G4.len hw, G4.M.trans hM, (A2.gw g3).gw g4, B4, by omega, ?_, ⟨.inl ⟨rfl, rfl⟩⟩, hN.mono G4 n1, ⟨by simp, by simp, by simp⟩, by simp, by omega⟩
    rw [← n2]
    exact Dp.gw d3 g4
  have e := ec3 (kRet tab [.tmp 2]) nv σ
  simp (decide := true) only [mv_eq, g2_eq, g3_eq, bindR_val, retK_ret, p1, alloc29, e1, p3, alloc33, e3] at e
  obtain ⟨T1, ea, R1⟩ : ∃ T1 : Rg, denK tab W V 181 c3 (kRet tab [.tmp 2]) (argE [nv]) σ = bindR (loopLim (dd tab W V 181 c3_1_1_1_1_0_1_0_0) T1 s4) (K.app (kblk 0 (kseq (denK tab W V 181 c3_1_1_1_1_1 (kRet tab [.tmp 2])) (kRet tab [.tmp 2])))) ∧ Rg3 T1 s1.n s3.n nv 0 0 := by
    refine ⟨_, e, ?_⟩
    constructor <;> simp (decide := true) only [puts_cons, puts_nil, putE_same, putE_ne] <;> rfl
  obtain ⟨T2, s5, z, U⟩ := loop3 (min ns.length 20) 0 (by omega) T1 s4 0 nilS [] I4 (by omega) R1
  have M5 : s5.M = M0 := U.M.trans I4.M
  obtain ⟨s6, p6, g6⟩ := P15 M5
  have e6 := ec3_1_1_1_1_1 (kRet tab [.tmp 2]) T2 s5
  simp (decide := true) only [mv_eq, g2_eq, bindR_val, retK_ret, p6, r3, puts_cons, puts_nil, putE_same] at e6
  refine ⟨s6, w3 (by simp) ?_, (((G4.up σ.n).trans (U.le n1)).gw (Nat.le_refl _)).trans g6⟩
  rw [ea, z, bindR_val, app_exit, kblk_exit, if_pos rfl, kseq_nxt, e6]
end Go.Proofs.YtcibhglcmcgneaaGreatDoor
