/-
  A part of the proof. No statement of this seat stands here.
-/
import Derived.Test.YtkpkmjanikkpoaaGreatDoorP16
import Derived.Test.YtkpkmjanikkpoaaGreatDoorP17
namespace Go.Proofs.YtkpkmjanikkpoaaGreatDoor
open Go Go.Dt
set_option maxRecDepth 100000

/- items: cells of seven, without memory of their own -/
def itV (c : Int) : List AV := [intV .i64 2, intV .i64 1, nilS, nilS, nilS, intV .i64 18, intV .i64 c]
def itR (cs : List Int) : List AV := (cs.map itV).flatten
def okC (c : Int) : Prop := 1 ≤ c ∧ c ≤ 99
theorem itV_dp (σ : St) (c : Int) : Dp σ 0 0 (itT c) (.agg (itV c)) := by
  simp only [itT, Dp, DpL, I, N]
  exact ⟨_, rfl, _, _, rfl, rfl, _, _, rfl, rfl, _, _, rfl, rfl, _, _, rfl, rfl, _, _, rfl, rfl, _, _, rfl, rfl, _, _, rfl, rfl, rfl⟩
theorem itV_of {σ : St} {lo hi : Nat} {c : Int} {x : AV} (h : Dp σ lo hi (itT c) x) : x = .agg (itV c) := by
  simp only [itT, Dp, DpL, I, N] at h
  obtain ⟨l, rfl, _, _, rfl, rfl, _, _, rfl, rfl, _, _, rfl, rfl, _, _, rfl, rfl, _, _, rfl, rfl, _, _, rfl, rfl, _, _, rfl, rfl, rfl⟩ := h
  rfl
theorem itR_len (cs : List Int) : (itR cs).length = cs.length * 7 := by
  rw [itR, rows_len 7 _ (by intro r hr; obtain ⟨c, _, rfl⟩ := List.mem_map.1 hr; rfl), List.length_map]
theorem itR_cons (c : Int) (cs : List Int) : itR (c :: cs) = itV c ++ itR cs := rfl
theorem itR_one : ∀ cs : List Int, (itR cs).all AV.oneCell = true
  | [] => rfl
  | c :: cs => by rw [itR_cons, List.all_append, itR_one cs]; rfl
theorem itR_app (a b : List Int) : itR (a ++ b) = itR a ++ itR b := by simp [itR]
theorem itR_td : ∀ (cs : List Int) (n : Nat), (itR cs).take (n * 7) = itR (cs.take n) ∧ (itR cs).drop (n * 7) = itR (cs.drop n)
  | [], n => by simp [itR]
  | c :: cs, 0 => by simp [itR]
  | c :: cs, n + 1 => by
    obtain ⟨h1, h2⟩ := itR_td cs n
    have e : (n + 1) * 7 = (itV c).length + n * 7 := by show _ = 7 + n * 7; omega
    rw [itR_cons, e, List.take_length_add_append, List.drop_length_add_append, h1, h2]
    exact ⟨rfl, rfl⟩

/-- a list that was made by appending -/
structure IV (σ : St) (lo hi : Nat) (v : AV) (cs : List Int) : Prop where
  is : (v = nilS ∧ cs = []) ∨ ∃ b, v = .slice b 0 cs.length none 7 ∧ lo ≤ b ∧ b < hi ∧ At σ b (.cells (itR cs) 48 true 7)
/-- a list that was cloned -/
structure IC (σ : St) (lo hi : Nat) (v : AV) (cs : List Int) : Prop where
  is : IV σ lo hi v cs ∨ ∃ b, v = .slice b 0 0 (some 0) 7 ∧ cs = [] ∧ lo ≤ b ∧ b < hi ∧ At σ b (.cells [] 48 true 7)
/-- a list -/
structure IL (σ : St) (lo hi : Nat) (v : AV) (cs : List Int) : Prop where
  is : (v = nilS ∧ cs = []) ∨ ∃ b cap rest, v = .slice b 0 cs.length cap 7 ∧ lo ≤ b ∧ b < hi ∧ At σ b (.cells (itR cs ++ rest) 48 true 7)
theorem IV.il {σ : St} {lo hi : Nat} {v : AV} {cs : List Int} (h : IV σ lo hi v cs) : IL σ lo hi v cs := by
  rcases h.is with h | ⟨b, h1, h2, h3, h4⟩
  · exact ⟨.inl h⟩
  · exact ⟨.inr ⟨b, none, [], h1, h2, h3, by simpa using h4⟩⟩
theorem IV.ic {σ : St} {lo hi : Nat} {v : AV} {cs : List Int} (h : IV σ lo hi v cs) : IC σ lo hi v cs := ⟨.inl h⟩
theorem IC.il {σ : St} {lo hi : Nat} {v : AV} {cs : List Int} (h : IC σ lo hi v cs) : IL σ lo hi v cs := by
  rcases h.is with h | ⟨b, h1, rfl, h2, h3, h4⟩
  · exact h.il
  · exact ⟨.inr ⟨b, some 0, [], h1, h2, h3, h4⟩⟩
theorem IV.mono {σ σ' : St} {lo hi lo' hi' : Nat} {v : AV} {cs : List Int} (h : IV σ lo hi v cs) (h0 : lo' ≤ lo) (h1 : hi ≤ hi') (hn : σ.n ≤ σ'.n) (hb : ∀ b, lo ≤ b → b < hi → b < σ.n → σ'.getO b = σ.getO b) : IV σ' lo' hi' v cs := by
  rcases h.is with h | ⟨b, k1, k2, k3, k4⟩
  · exact ⟨.inl h⟩
  · exact ⟨.inr ⟨b, k1, by omega, by omega, k4.same hn (hb b k2 k3 k4.1)⟩⟩
theorem IL.mono {σ σ' : St} {lo hi lo' hi' : Nat} {v : AV} {cs : List Int} (h : IL σ lo hi v cs) (h0 : lo' ≤ lo) (h1 : hi ≤ hi') (hn : σ.n ≤ σ'.n) (hb : ∀ b, lo ≤ b → b < hi → b < σ.n → σ'.getO b = σ.getO b) : IL σ' lo' hi' v cs := by
  rcases h.is with h | ⟨b, cap, rest, k1, k2, k3, k4⟩
  · exact ⟨.inl h⟩
  · exact ⟨.inr ⟨b, cap, rest, k1, by omega, by omega, k4.same hn (hb b k2 k3 k4.1)⟩⟩
theorem IC.mono {σ σ' : St} {lo hi lo' hi' : Nat} {v : AV} {cs : List Int} (h : IC σ lo hi v cs) (h0 : lo' ≤ lo) (h1 : hi ≤ hi') (hn : σ.n ≤ σ'.n) (hb : ∀ b, lo ≤ b → b < hi → b < σ.n → σ'.getO b = σ.getO b) : IC σ' lo' hi' v cs := by
  rcases h.is with h | ⟨b, k1, k0, k2, k3, k4⟩
  · exact ⟨.inl (h.mono h0 h1 hn hb)⟩
  · exact ⟨.inr ⟨b, k1, k0, by omega, by omega, k4.same hn (hb b k2 k3 k4.1)⟩⟩
section
variable {σ σ' : St} {lo hi : Nat} {v : AV} {cs : List Int}
theorem IV.gw (h : IV σ lo hi v cs) (g : Gw σ σ') : IV σ' lo hi v cs := h.mono (Nat.le_refl _) (Nat.le_refl _) g.n fun b _ _ hb => g.old b hb
theorem IL.gw (h : IL σ lo hi v cs) (g : Gw σ σ') : IL σ' lo hi v cs := h.mono (Nat.le_refl _) (Nat.le_refl _) g.n fun b _ _ hb => g.old b hb
theorem IC.gw (h : IC σ lo hi v cs) (g : Gw σ σ') : IC σ' lo hi v cs := h.mono (Nat.le_refl _) (Nat.le_refl _) g.n fun b _ _ hb => g.old b hb
theorem IL.up {l : Nat} (h : IL σ lo hi v cs) (u : Up l σ σ') (hl : hi ≤ l) : IL σ' lo hi v cs := h.mono (Nat.le_refl _) (Nat.le_refl _) u.n fun b _ h2 hb => u.old b hb (by omega)
theorem IC.up {l : Nat} (h : IC σ lo hi v cs) (u : Up l σ σ') (hl : hi ≤ l) : IC σ' lo hi v cs := h.mono (Nat.le_refl _) (Nat.le_refl _) u.n fun b _ h2 hb => u.old b hb (by omega)
theorem IV.up {l : Nat} (h : IV σ lo hi v cs) (u : Up l σ σ') (hl : hi ≤ l) : IV σ' lo hi v cs := h.mono (Nat.le_refl _) (Nat.le_refl _) u.n fun b _ h2 hb => u.old b hb (by omega)
theorem IL.le (h : IL σ lo hi v cs) {lo' hi' : Nat} (h0 : lo' ≤ lo) (h1 : hi ≤ hi') : IL σ lo' hi' v cs := h.mono h0 h1 (Nat.le_refl _) fun _ _ _ _ => rfl
theorem IV.le (h : IV σ lo hi v cs) {lo' hi' : Nat} (h0 : lo' ≤ lo) (h1 : hi ≤ hi') : IV σ lo' hi' v cs := h.mono h0 h1 (Nat.le_refl _) fun _ _ _ _ => rfl
theorem IC.le (h : IC σ lo hi v cs) {lo' hi' : Nat} (h0 : lo' ≤ lo) (h1 : hi ≤ hi') : IC σ lo' hi' v cs := h.mono h0 h1 (Nat.le_refl _) fun _ _ _ _ => rfl
theorem sl25' : sliceB 25 = true := by kernel_rfl
theorem el25 : elemB 25 48 7 = true := by kernel_rfl
theorem a48 : aggB 48 7 = true := by kernel_rfl
theorem IL.cell (h : IL σ lo hi v cs) : AV.oneCell v = true ∧ beqA v v = true ∧ (∀ n, hi ≤ n → bndA n v = true) ∧ v.cells = [v] := by
  rcases h.is with ⟨rfl, _⟩ | ⟨b, cap, rest, rfl, k2, k3, _⟩
  · exact ⟨rfl, rfl, fun _ _ => rfl, rfl⟩
  · refine ⟨rfl, by simp [beqA], fun n hn => ?_, rfl⟩
    show Nat.blt b n = true
    rw [blt_eq]; simp; omega
theorem IL.lenV (h : IL σ lo hi v cs) : lenV tab 25 v = .ok (intV .i64 (cs.length : Int)) := by
  rcases h.is with ⟨rfl, rfl⟩ | ⟨b, cap, rest, rfl, _, _, _⟩
  · exact (Vec.nil σ 48 7).lenV sl25'
  · exact len_sl sl25'
theorem IL.get (h : IL σ lo hi v cs) {i : Nat} {c : Int} (hc : cs[i]? = some c) : ∃ b, indexAddr tab 25 v (intV .i64 (i : Int)) = .ok (.ptr b (i * 7)) ∧ loadV tab σ 48 (.ptr b (i * 7)) = .ok (.agg (itV c)) := by
  have hi' : i < cs.length := (List.getElem?_eq_some_iff.1 hc).1
  rcases h.is with ⟨rfl, rfl⟩ | ⟨b, cap, rest, rfl, k2, k3, k4⟩
  · simp at hc
  · refine ⟨b, ixA0 el25 hi', lda a48 k4 ?_ rfl⟩
    have hrows := rows_at 7 (cs.map itV) (by intro r hr; obtain ⟨c, _, rfl⟩ := List.mem_map.1 hr; rfl) i (itV c) (by rw [List.getElem?_map, hc]; rfl)
    have hle : i * 7 + 7 ≤ (itR cs).length := by rw [itR_len]; omega
    rw [List.drop_append_of_le_length (by omega), List.take_append_of_le_length (by rw [List.length_drop]; omega)]
    exact hrows
theorem IL.src (h : IL σ lo hi v cs) : srcCells σ 7 v = .ok (itR cs, cs.length) := by
  rcases h.is with ⟨rfl, rfl⟩ | ⟨b, cap, rest, rfl, k2, k3, k4⟩
  · rfl
  · have e : ((itR cs ++ rest).drop 0).take (cs.length * 7) = itR cs := by
      rw [List.drop_zero, List.take_append_of_le_length (by rw [itR_len]; omega)]
      exact List.take_of_length_le (by rw [itR_len]; omega)
    unfold srcCells cellsOf takeN
    simp only [k4.1, if_true, k4.2, bindR_eq, bindR_val, e]
    rw [if_pos (itR_len cs)]
    rfl
end

/-- items are appended to a list that is open, or cloned -/
theorem app25 : appB 25 25 48 7 = true := by kernel_rfl
theorem appI {s : St} (_ : WF s) {lo hi : Nat} {v x : AV} {cs ds : List Int} (h : IC s lo hi v cs) (hx : srcCells s 7 x = .ok (itR ds, ds.length)) (hd : 0 < ds.length) (hlen : cs.length + ds.length < 1000) (_ : hi ≤ s.n) :
    ∃ b s', appendV tab s 25 25 v x = .ok (.slice b 0 (cs ++ ds).length none 7, s') ∧ s.n ≤ b ∧ b < s'.n ∧ s'.n = s.n + 1 ∧ At s' b (.cells (itR (cs ++ ds)) 48 true 7) ∧ Up lo s s' := by
  have hok := app25
  unfold appB at hok
  split at hok
  · rename_i e' s' i xd z h1 h2 h3 h4 h5
    simp only [Bool.and_eq_true, beq_iff_eq, decide_eq_true_eq, Bool.not_eq_true'] at hok
    obtain ⟨⟨⟨⟨rfl, rfl⟩, hb⟩, hx2⟩, hz⟩ := hok
    have hc : (!(decide (ds.length < 2 ^ 30) && decide (0 < i.bytes ∧ i.bytes < 2 ^ 14 ∧ 0 < 7) && !isIntD xd && z.cells.length == 7)) = false := by
      simp only [Bool.not_eq_false', Bool.and_eq_true, decide_eq_true_eq, beq_iff_eq, hx2, Bool.not_false, hz, and_true]
      exact ⟨by omega, hb⟩
    have hl : (cs ++ ds).length = cs.length + ds.length := List.length_append
    rcases h.is with h | ⟨b, rfl, rfl, k2, k3, k4⟩
    · rcases h.is with ⟨rfl, rfl⟩ | ⟨b, rfl, k2, k3, k4⟩
      · refine ⟨s.n, s.push (.cells (itR ds) 48 true 7), ?_, Nat.le_refl _, by rw [push_n]; omega, push_n _ _, At.new _ _, (Gw.push s _).up lo⟩
        simp only [appendV, h1, h2, h3, h4, h5, hx, bindR_eq, bindR_val, hc, nilS, List.nil_append, Bool.false_eq_true, if_false]
        rw [if_neg (by omega)]
        rfl
      · have told : takeN (itR cs) 0 (cs.length * 7) = .ok (itR cs) := by
          unfold takeN
          rw [List.drop_zero, List.take_of_length_le (by rw [itR_len]; omega), if_pos (itR_len cs)]
        have c2 : (!(decide (cs.length + ds.length < 2 ^ 30) && true)) = false := by simp; omega
        refine ⟨s.n, (s.set b .gone).push (.cells (itR cs ++ itR ds) 48 true 7), ?_, Nat.le_refl _, by rw [push_n, set_n]; omega, by rw [push_n, set_n], by rw [itR_app]; exact At.new _ _, (Up.set k2 k4.1 _).trans ((Gw.push _ _).up lo)⟩
        simp only [appendV, h1, h2, h3, h4, h5, hx, bindR_eq, bindR_val, hc, c2, cellsOf, k4.1, k4.2, if_true, told, itR_one, beq_self_eq_true, Bool.and_self, Bool.not_true, Nat.zero_mod, Bool.true_and, Bool.false_eq_true, if_false, hl]
        rfl
    · have told : takeN ([] : List AV) 0 (0 * 7) = .ok [] := rfl
      have c2 : (!(decide (ds.length < 2 ^ 30) && true)) = false := by simp at hlen ⊢; omega
      refine ⟨s.n, s.push (.cells (itR ds) 48 true 7), ?_, Nat.le_refl _, by rw [push_n]; omega, push_n _ _, At.new _ _, (Gw.push s _).up lo⟩
      simp only [appendV, h1, h2, h3, h4, h5, hx, bindR_eq, bindR_val, hc, c2, cellsOf, k4.1, k4.2, if_true, told, List.nil_append, beq_self_eq_true, Bool.false_eq_true, if_false, Nat.zero_add]
      rw [if_neg (show ¬ ds.length ≤ 0 by omega)]
      rfl
  · cases hok
end Go.Proofs.YtkpkmjanikkpoaaGreatDoor
namespace Go.Proofs.YtkpkmjanikkpoaaGreatDoor
open Go Go.Dt
set_option maxRecDepth 100000

/- a list of items is walked through -/
def z48 : List AV := [intV .i64 0, intV .i64 0, nilS, nilS, nilS, intV .i64 0, intV .i64 0]
theorem alloc48 (n : Nat) : allocA tab 48 n = .ok (.ptr n 0, .cells z48 48 true 7) := by kernel_rfl
theorem s48 : sizeB 48 7 = true := by kernel_rfl
theorem spl7 (a b c d e f g : AV) (l : List AV) (hl : l.length = 7) : splice [a, b, c, d, e, f, g] 0 l = l := by
  match l, hl with
  | [_, _, _, _, _, _, _], _ => rfl
theorem st48 {σ : St} {b : Nat} {cs l : List AV} (hA : At σ b (.cells cs 48 true 7)) (hc : cs.length = 7) (hl : l.length = 7) (ho : l.all AV.oneCell = true) : storeV tab σ 48 (.ptr b 0) (.agg l) = .ok (σ.set b (.cells l 48 true 7)) := by
  have := stv (o := 0) (x := .agg l) s48 hA hl (by omega) (by omega) ho
  rw [this]
  congr 3
  match cs, hc with
  | [_, _, _, _, _, _, _], _ => exact spl7 _ _ _ _ _ _ _ l hl
/-- an item in a box -/
theorem box48 (c : Int) {σ : St} (hw : WF σ) : ∃ s4, storeV tab (σ.push (.cells z48 48 true 7)) 48 (.ptr σ.n 0) (.agg (itV c)) = .ok s4 ∧ At s4 σ.n (.cells (itV c) 48 true 7) ∧ Gw σ s4 ∧ s4.n = σ.n + 1 ∧ loadV tab s4 48 (.ptr σ.n 0) = .ok (.agg (itV c)) := by
  have hA := At.new σ (.cells z48 48 true 7)
  have A4 := hA.set_same (WF.push hw _) (.cells (itV c) 48 true 7)
  exact ⟨_, st48 hA rfl rfl rfl, A4, ((Gw.push σ _).up σ.n |>.trans (Up.set (Nat.le_refl _) hA.1 _)).gw (Nat.le_refl _), rfl, lda a48 A4 rfl rfl⟩

theorem P32 {c : Int} (hc : okC c) {σ : St} (hM : σ.M = M0) : ∃ σ', W 32 [.agg (itV c)] σ = .ok (.ret (intV .i64 0), σ') ∧ Gw σ σ' := by
  obtain ⟨x, σ', h1, h2, h3⟩ := (k32 c hc.1 hc.2).call hM (xs := [.agg (itV c)]) (lo := 0) (hi := 0) (by
    simp only [DpL]
    exact ⟨_, [], rfl, itV_dp σ c, rfl⟩)
  have : x = intV .i64 0 := by simp only [I, Dp] at h3; exact h3
  subst this
  exact ⟨σ', h1, h2⟩
theorem P59 {c : Int} (hc : okC c) {σ : St} (hM : σ.M = M0) : ∃ σ', W 59 [.agg (itV c)] σ = .ok (.ret (.agg (itV c)), σ') ∧ Gw σ σ' := by
  obtain ⟨x, σ', h1, h2, h3⟩ := (k59 c hc.1 hc.2).call hM (xs := [.agg (itV c)]) (lo := 0) (hi := 0) (by
    simp only [DpL]
    exact ⟨_, [], rfl, itV_dp σ c, rfl⟩)
  have := itV_of h3
  subst this
  exact ⟨σ', h1, h2⟩
theorem P40 {c : Int} (hc : okC c) {σ : St} (hM : σ.M = M0) : ∃ σ', W 40 [.agg (itV c), .agg (itV c)] σ = .ok (.ret (boolV true), σ') ∧ Gw σ σ' := by
  obtain ⟨x, σ', h1, h2, h3⟩ := (k40 c hc.1 hc.2).call hM (xs := [.agg (itV c), .agg (itV c)]) (lo := 0) (hi := 0) (by
    simp only [DpL]
    exact ⟨_, _, rfl, itV_dp σ c, _, [], rfl, itV_dp σ c, rfl⟩)
  have : x = boolV true := by simp only [B, Dp] at h3; exact h3
  subst this
  exact ⟨σ', h1, h2⟩

/-- queue.right -/
theorem loop77 (v : AV) (cs : List Int) (lo hi : Nat) (hok : ∀ c ∈ cs, okC c) (hlen : cs.length < 1000) : ∀ (m i : Nat), i + m = cs.length → ∀ (T : Rg) (σ : St), WF σ → σ.M = M0 → IL σ lo hi v cs → T 6 = v → T 7 = intV .i64 (cs.length : Int) → T 8 = intV .i64 (i : Int) →
    ∃ T' σ', loopLim (dd tab W V 18 c77_1_0_1_0_0) T σ = .ok (.exit 0 T' σ') ∧ Gw σ σ' := by
  intro m
  induction m with
  | zero =>
    intro i hm T σ hw hM hI t6 t7 t8
    have e := ec77_1_0_1_0_0 kOc T σ
    have d1 : decide ((i : Int) < (cs.length : Int)) = false := by simp; omega
    simp only [g1_eq, bindR_val, t7, t8, binOp_int, intOp_lss, d1, condR_boolV, condF, kOc_exit] at e
    exact ⟨_, σ, loop_exit (dd_of tab W V 18 e), Gw.refl σ⟩
  | succ m ih =>
    intro i hm T σ hw hM hI t6 t7 t8
    have hil : i < cs.length := by omega
    obtain ⟨c, hc⟩ : ∃ c, cs[i]? = some c := ⟨_, List.getElem?_eq_getElem hil⟩
    obtain ⟨b, g1, g2⟩ := hI.get hc
    obtain ⟨s4, e1, A4, g4, _, l4⟩ := box48 c hw
    obtain ⟨s8, p1, g8⟩ := P32 (hok c (List.mem_of_getElem? hc)) (g4.M.trans hM)
    have G := g4.trans g8
    have e := ec77_1_0_1_0_0 kOc T σ
    have d1 : decide ((i : Int) < (cs.length : Int)) = true := by simp; omega
    have d0 : ((0 : Int) != 0) = false := rfl
    have w1 : IntKind.i64.wrap ((i : Int) + 1) = ((i + 1 : Nat) : Int) := by rw [wrapI (by omega) (by omega)]; omega
    simp (decide := true) only [mv_eq, g1_eq, g2_eq, g3_eq, bindR_val, retK_ret, condR_boolV, condT, condF, binOp_int, intOp_add, intOp_neq, intOp_lss, kOc_nxt, kOc_ret, kOc_exit, t6, t7, t8, d1, g1, g2, alloc48, e1, l4, p1, d0, w1] at e
    obtain ⟨T1, ee, k6, k7, k8⟩ : ∃ T1, denK tab W V 18 c77_1_0_1_0_0 kOc T σ = .ok (.nxt T1 s8) ∧ T1 6 = v ∧ T1 7 = intV .i64 (cs.length : Int) ∧ T1 8 = intV .i64 ((i + 1 : Nat) : Int) := by
      refine ⟨_, e, ?_, ?_, ?_⟩ <;> simp (decide := true) only [puts_cons, puts_nil, putE_same, putE_ne, t6, t7]
    obtain ⟨T', σ', z1, z2⟩ := ih (i + 1) (by omega) T1 s8 (G.len hw) (G.M.trans hM) (hI.gw G) k6 k7 k8
    exact ⟨T', σ', loop_next (dd_of tab W V 18 ee) z1, G.trans z2⟩
theorem W77 {v : AV} {cs : List Int} {lo hi : Nat} (hok : ∀ c ∈ cs, okC c) (hlen : cs.length < 1000) {σ : St} (hw : WF σ) (hM : σ.M = M0) (hI : IL σ lo hi v cs) : ∃ σ', W 77 [v] σ = .ok (.ret (intV .i64 0), σ') ∧ Gw σ σ' := by
  have e := ec77 (kRet tab [.tmp 2]) v σ
  simp (decide := true) only [mv_eq, g1_eq, bindR_val, hI.lenV] at e
  obtain ⟨T0, ea, t6, t7, t8⟩ : ∃ T0 : Rg, denK tab W V 18 c77 (kRet tab [.tmp 2]) (argE [v]) σ = bindR (loopLim (dd tab W V 18 c77_1_0_1_0_0) T0 σ) (K.app (kblk 0 (kseq (denK tab W V 18 c77_1_1 (kRet tab [.tmp 2])) (kRet tab [.tmp 2])))) ∧ T0 6 = v ∧ T0 7 = intV .i64 (cs.length : Int) ∧ T0 8 = intV .i64 ((0 : Nat) : Int) := by
    refine ⟨_, e, ?_, ?_, ?_⟩ <;> simp (decide := true) only [puts_cons, puts_nil, putE_same, putE_ne]
    rfl
  obtain ⟨T1, s1, z, g⟩ := loop77 v cs lo hi hok hlen cs.length 0 (by omega) T0 σ hw hM hI t6 t7 t8
  have e1 := ec77_1_1 (kRet tab [.tmp 2]) T1 s1
  simp (decide := true) only [mv_eq, bindR_val, r77, puts_cons, puts_nil, putE_same] at e1
  refine ⟨s1, w77 (by simp) ?_, g⟩
  rw [ea, z, bindR_val, app_exit, kblk_exit, if_pos rfl, kseq_nxt, e1]

/-- queue.Check -/
def quC (it : AV) : List AV := [intV .i64 8, it, intV .i64 0]
theorem box27 (a b c : AV) (n : Nat) : boxA tab 27 (.agg [a, b, c]) n = .ok (.ptr n 0, .cells [a, b, c] 27 true 3) := by kernel_rfl
theorem box27' (it : AV) (n : Nat) : boxA tab 27 (.agg (quC it)) n = .ok (.ptr n 0, .cells (quC it) 27 true 3) := box27 _ _ _ _
theorem fa27_0' (b o : Nat) : fieldAddr tab 27 (.ptr b o) 0 = .ok (.ptr b o) := by kernel_rfl
theorem fa27_1' (b o : Nat) : fieldAddr tab 27 (.ptr b o) 1 = .ok (.ptr b (o + 1)) := by kernel_rfl
theorem fa27_2' (b o : Nat) : fieldAddr tab 27 (.ptr b o) 2 = .ok (.ptr b (o + 2)) := by kernel_rfl
theorem W76 {it : AV} {cs : List Int} {lo hi : Nat} (hok : ∀ c ∈ cs, okC c) (hlen : cs.length ≤ 8) {σ : St} (hw : WF σ) (hM : σ.M = M0) (hI : IL σ lo hi it cs) : ∃ σ', W 76 [.agg (quC it)] σ = .ok (.ret (intV .i64 0), σ') ∧ Gw σ σ' := by
  have A := At.new σ (.cells (quC it) 27 true 3)
  have gp := Gw.push σ (.cells (quC it) 27 true 3)
  have l0 : loadV tab (σ.push (.cells (quC it) 27 true 3)) 3 (.ptr σ.n 0) = .ok (intV .i64 8) := ld l3 A rfl
  have l1 : loadV tab (σ.push (.cells (quC it) 27 true 3)) 25 (.ptr σ.n 1) = .ok it := ld l25 A rfl
  have l2 : loadV tab (σ.push (.cells (quC it) 27 true 3)) 3 (.ptr σ.n 2) = .ok (intV .i64 0) := ld l3 A rfl
  obtain ⟨s1, p1, g1⟩ := W77 hok (by omega) (WF.push hw _) (gp.M.trans hM) (hI.gw gp)
  have d1 : decide ((8 : Int) < 0) = false := rfl
  have d2 : decide ((8 : Int) > 64) = false := rfl
  have d3 : decide ((0 : Int) < 0) = false := rfl
  have d4 : decide ((0 : Int) > 1099511627776) = false := rfl
  have d5 : decide ((cs.length : Int) > 8) = false := by simp; omega
  have e := ec76 (kRet tab [.tmp 2]) (.agg (quC it)) σ
  simp (decide := true) only [mv_eq, g1_eq, g2_eq, bindR_val, retK_ret, condR_boolV, condT, condF, isBoolV_f, Bool.not_false, pickV_boolV, binOp_int, intOp_lss, intOp_gtr, box27', fa27_0', fa27_1', fa27_2', Nat.zero_add, l0, l1, l2, decide_false, hI.lenV, d5, p1, r76, puts_cons, puts_nil, putE_same] at e
  exact ⟨s1, w76 (by simp) e, gp.trans g1⟩

/-- partywallkit.SameItems -/
theorem loop13 (v v' : AV) (cs : List Int) (lo hi lo' hi' : Nat) (hok : ∀ c ∈ cs, okC c) (hlen : cs.length < 1000) : ∀ (m i : Nat), i + m = cs.length → ∀ (T : Rg) (σ : St), WF σ → σ.M = M0 → IL σ lo hi v cs → IL σ lo' hi' v' cs → T 0 = v → T 1 = v' → T 5 = intV .i64 (i : Int) →
    ∃ T' σ', loopLim (dd tab W V 27 c13_1_1_0_1_0_0) T σ = .ok (.exit 0 T' σ') ∧ Gw σ σ' := by
  intro m
  induction m with
  | zero =>
    intro i hm T σ hw hM hI hI' t0 t1 t5
    have e := ec13_1_1_0_1_0_0 kOc T σ
    have d1 : decide ((i : Int) < (cs.length : Int)) = false := by simp; omega
    simp only [mv_eq, g1_eq, bindR_val, t0, t5, hI.lenV, binOp_int, intOp_lss, d1, condR_boolV, condF, kOc_exit] at e
    exact ⟨_, σ, loop_exit (dd_of tab W V 27 e), Gw.refl σ⟩
  | succ m ih =>
    intro i hm T σ hw hM hI hI' t0 t1 t5
    have hil : i < cs.length := by omega
    obtain ⟨c, hc⟩ : ∃ c, cs[i]? = some c := ⟨_, List.getElem?_eq_getElem hil⟩
    obtain ⟨b, g1, g2⟩ := hI.get hc
    obtain ⟨b', g1', g2'⟩ := hI'.get hc
    obtain ⟨s1, p1, p2⟩ := P40 (hok c (List.mem_of_getElem? hc)) hM
    have e := ec13_1_1_0_1_0_0 kOc T σ
    have d1 : decide ((i : Int) < (cs.length : Int)) = true := by simp; omega
    have w1 : IntKind.i64.wrap ((i : Int) + 1) = ((i + 1 : Nat) : Int) := by rw [wrapI (by omega) (by omega)]; omega
    have b2 : beqA (.agg (itV c)) (.agg (itV c)) = true := by simp [itV, beqA, beqL, intV, nilS, beqBase]
    have b3 : bndA σ.n (.agg (itV c)) = true := rfl
    have b5 : bndA σ.n (.func (.func 40) [] []) = true := rfl
    have c1 : Nat.ble σ.n s1.n = true := Nat.ble_eq_true_of_le p2.n
    simp (decide := true) only [mv_eq, g1_eq, g2_eq, bindR_val, retK_ret, condR_boolV, condT, condF, Bool.not_true, binOp_int, unOp_not, intOp_add, intOp_lss, kOc_nxt, kOc_ret, kOc_exit, t0, t1, t5, hI.lenV, d1, g1, g2, g1', g2', sameR, b2, Bool.and_true, List.all_cons, List.all_nil, b3, b5, Bool.and_self, p1, c1, w1] at e
    obtain ⟨T1, ee, k0, k1, k5⟩ : ∃ T1, denK tab W V 27 c13_1_1_0_1_0_0 kOc T σ = .ok (.nxt T1 s1) ∧ T1 0 = v ∧ T1 1 = v' ∧ T1 5 = intV .i64 ((i + 1 : Nat) : Int) := by
      refine ⟨_, e, ?_, ?_, ?_⟩ <;> simp (decide := true) only [puts_cons, puts_nil, putE_same, putE_ne, t0, t1]
    obtain ⟨T', σ', z1, z2⟩ := ih (i + 1) (by omega) T1 s1 (p2.len hw) (p2.M.trans hM) (hI.gw p2) (hI'.gw p2) k0 k1 k5
    exact ⟨T', σ', loop_next (dd_of tab W V 27 ee) z1, p2.trans z2⟩
theorem W13 {v v' : AV} {cs : List Int} {lo hi lo' hi' : Nat} (hok : ∀ c ∈ cs, okC c) (hlen : cs.length < 1000) {σ : St} (hw : WF σ) (hM : σ.M = M0) (hI : IL σ lo hi v cs) (hI' : IL σ lo' hi' v' cs) : ∃ σ', W 13 [v, v'] σ = .ok (.ret (boolV true), σ') ∧ Gw σ σ' := by
  have e := ec13 (kRet tab [.tmp 4]) v v' σ
  have d1 : ((cs.length : Int) != (cs.length : Int)) = false := by simp
  simp (decide := true) only [mv_eq, g1_eq, bindR_val, condR_boolV, condF, binOp_int, intOp_neq, hI.lenV, hI'.lenV, d1] at e
  obtain ⟨T0, ea, t0, t1, t5⟩ : ∃ T0 : Rg, denK tab W V 27 c13 (kRet tab [.tmp 4]) (argE [v, v']) σ = bindR (loopLim (dd tab W V 27 c13_1_1_0_1_0_0) T0 σ) (K.app (kblk 0 (kseq (denK tab W V 27 c13_1_1_1 (kRet tab [.tmp 4])) (kRet tab [.tmp 4])))) ∧ T0 0 = v ∧ T0 1 = v' ∧ T0 5 = intV .i64 ((0 : Nat) : Int) := by
    refine ⟨_, e, ?_, ?_, ?_⟩ <;> simp (decide := true) only [puts_cons, puts_nil, putE_same, putE_ne] <;> rfl
  obtain ⟨T1, s1, z, g⟩ := loop13 v v' cs lo hi lo' hi' hok hlen cs.length 0 (by omega) T0 σ hw hM hI hI' t0 t1 t5
  have e1 := ec13_1_1_1 (kRet tab [.tmp 4]) T1 s1
  simp (decide := true) only [mv_eq, bindR_val, r13, puts_cons, puts_nil, putE_same] at e1
  refine ⟨s1, w13 (by simp) ?_, g⟩
  rw [ea, z, bindR_val, app_exit, kblk_exit, if_pos rfl, kseq_nxt, e1]
end Go.Proofs.YtkpkmjanikkpoaaGreatDoor
namespace Go.Proofs.YtkpkmjanikkpoaaGreatDoor
open Go Go.Dt
set_option maxRecDepth 100000

/-- a query that is right: a text, and a number -/
def okQ (q : Nat × Int) : Prop := q.1 < 6 ∧ 1 ≤ q.2 ∧ q.2 ≤ 4
def tenC (had : Int) (qv it : AV) : List AV := [boolV true, intV .u64 1, intV .i64 had, qv, intV .i64 8, it, intV .i64 0]
theorem tenC_spl (had : Int) (a b it : AV) : splice (tenC had a it) 3 [b] = tenC had b it := rfl

/-- the call that copies a query -/
theorem P34 {j : Nat} {m : Int} (hq : okQ (j, m)) {σ : St} (hM : σ.M = M0) {lo hi : Nat} {r : List AV} (hr : DpL σ lo hi (x0 j m) r) :
    ∃ r' σ', W 34 [.agg r] σ = .ok (.ret (.agg r'), σ') ∧ Gw σ σ' ∧ DpL σ' σ.n σ'.n (x0 j m) r' := by
  obtain ⟨x, σ', h1, h2, h3⟩ := (k34 j m hq.1 hq.2.1 hq.2.2).call hM (xs := [.agg r]) (lo := lo) (hi := hi) (by
    simp only [DpL, Dp]
    exact ⟨_, [], rfl, ⟨r, rfl, hr⟩, rfl⟩)
  simp only [Dp] at h3
  obtain ⟨l, rfl, h3⟩ := h3
  exact ⟨l, σ', h1, h2, h3⟩

/-- the loop of tenant.own over the queries -/
theorem loop29 (had : Int) (n0 n1 lq : Nat) (qv it it2 : AV) (qs : List (Nat × Int)) (hok : ∀ q ∈ qs, okQ q) (hlen : qs.length < 1000) : ∀ (m i : Nat), i + m = qs.length → ∀ (T : Rg) (σ : St) (v : AV), WF σ → σ.M = M0 →
    n0 < n1 → lq ≤ n0 → QL x0 σ 0 lq qv qs → At σ n0 (.cells (tenC had qv it) 29 true 7) → At σ n1 (.cells (tenC had v it2) 106 true 7) → QV x0 σ (n1 + 1) σ.n v (qs.take i) →
    T 1 = .ptr n0 0 → T 3 = .ptr n1 0 → T 16 = qv → T 17 = intV .i64 (qs.length : Int) → T 18 = intV .i64 (i : Int) →
    ∃ T' σ' v', loopLim (dd tab W V 66 c29_1_1_1_0_1_0_0) T σ = .ok (.exit 0 T' σ') ∧ Up n1 σ σ' ∧ At σ' n1 (.cells (tenC had v' it2) 106 true 7) ∧ QV x0 σ' (n1 + 1) σ'.n v' qs ∧ T' 1 = .ptr n0 0 ∧ T' 3 = .ptr n1 0 := by
  intro m
  induction m with
  | zero =>
    intro i hi T σ v hw hM h01 hlq hQ hA0 hA1 hV h1 h3 h16 h17 h18
    have e := ec29_1_1_1_0_1_0_0 kOc T σ
    have d1 : decide ((i : Int) < (qs.length : Int)) = false := by simp; omega
    simp only [g1_eq, bindR_val, h17, h18, binOp_int, intOp_lss, d1, condR_boolV, condF, kOc_exit] at e
    refine ⟨_, σ, v, loop_exit (dd_of tab W V 66 e), (Gw.refl σ).up _, hA1, ?_, ?_, ?_⟩
    · rw [List.take_of_length_le (by omega)] at hV; exact hV
    · simp (decide := true) only [puts_cons, puts_nil, putE_ne, h1]
    · simp (decide := true) only [puts_cons, puts_nil, putE_ne, h3]
  | succ m ih =>
    intro i hi T σ v hw hM h01 hlq hQ hA0 hA1 hV h1 h3 h16 h17 h18
    have hil : i < qs.length := by omega
    obtain ⟨q, hq⟩ : ∃ q, qs[i]? = some q := ⟨_, List.getElem?_eq_getElem hil⟩
    obtain ⟨bq, r, g1, g2, g3, g4⟩ := hQ.get fam0 hq
    have hqok := hok q (List.mem_of_getElem? hq)
    obtain ⟨j, mm⟩ := q
    have e := ec29_1_1_1_0_1_0_0 kOc T σ
    have d1 : decide ((i : Int) < (qs.length : Int)) = true := by simp; omega
    have w1 : IntKind.i64.wrap ((i : Int) + 1) = ((i + 1 : Nat) : Int) := by rw [wrapI (by omega) (by omega)]; omega
    -- the query's own box
    have rc := g3.cells (fam0.pl j mm)
    have hC := At.new σ (.cells z68 71 true 24)
    obtain ⟨s4, hs4⟩ : ∃ s4, s4 = (σ.push (.cells z68 71 true 24)).set σ.n (.cells r 71 true 24) := ⟨_, rfl⟩
    have hst : storeV tab (σ.push (.cells z68 71 true 24)) 71 (.ptr σ.n 0) (.agg r) = .ok s4 := by
      rw [hs4]
      have := stv (o := 0) (x := .agg r) s68 hC g4 (by omega) (by show 0 + 24 ≤ 24; omega) rc.1
      rw [this]
      congr 3
      show splice z68 0 r = r
      match r, g4 with
      | [a0, a1, a2, a3, a4, a5, a6, a7, a8, a9, b0, b1, b2, b3, b4, b5, b6, b7, b8, b9, c0, c1, c2, c3], _ => rfl
    have u4 : Gw σ s4 := by rw [hs4]; exact ((Gw.push σ _).up σ.n |>.trans (Up.set (Nat.le_refl _) hC.1 _)).gw (Nat.le_refl _)
    have hD : At s4 σ.n (.cells r 71 true 24) := by rw [hs4]; exact hC.set_same (WF.push hw _) _
    have n4 : s4.n = σ.n + 1 := by rw [hs4]; rfl
    have ld5 : loadV tab s4 71 (.ptr σ.n 0) = .ok (.agg r) := lda a68 hD (by rw [List.drop_zero]; exact List.take_of_length_le (by omega)) g4
    have hM4 : s4.M = M0 := u4.M.trans hM
    obtain ⟨r', s8, p1, p2, p3⟩ := P34 hqok hM4 (g3.gw u4)
    have u8 := u4.trans p2
    have hw8 : WF s8 := u8.len hw
    -- the list as it is
    have hA1' : At s8 n1 (.cells (tenC had v it2) 106 true 7) := hA1.gw u8
    have hA14 : At s4 n1 (.cells (tenC had v it2) 106 true 7) := hA1.gw u4
    have hV8 : QV x0 s8 (n1 + 1) σ.n v (qs.take i) := hV.gw u8
    have ld12 : loadV tab s8 24 (.ptr n1 3) = .ok v := ld l24 hA1' rfl
    have ld12' : loadV tab s4 24 (.ptr n1 3) = .ok v := ld l24 hA14 rfl
    have hr'l : r'.length = 24 := by rw [p3.length, fam0.len]
    have lt1 := hA1.1
    have hVn : QV x0 s8 (n1 + 1) s4.n v (qs.take i) := hV8.mono (Nat.le_refl _) (by omega) (Nat.le_refl _) (fun _ _ _ _ => rfl)
    obtain ⟨v2, s15, q1, q2, q3, q4⟩ := appQ fam0 hw8 hVn (by omega) p2.n p3 (by rw [List.length_take]; omega)
    have vc := hV8.ql.cell
    have vc2 := q3.ql.cell
    have hA15 : At s15 n1 (.cells (tenC had v it2) 106 true 7) := hA1'.up q4 (by omega)
    obtain ⟨s20, hs20⟩ : ∃ s20, s20 = s15.set n1 (.cells (tenC had v2 it2) 106 true 7) := ⟨_, rfl⟩
    have hst2 : storeV tab s15 24 (.ptr n1 3) v2 = .ok s20 := by
      rw [hs20]
      have := stv (o := 3) (x := v2) s24 hA15 (by rw [vc2.2.2.2]; rfl) (by omega) (by show 3 + 1 ≤ 7; omega) (by rw [vc2.2.2.2]; simp [vc2.1])
      rw [this, vc2.2.2.2, tenC_spl]
    have n8 := p2.n
    have ub : Up n1 σ s20 := by
      rw [hs20]
      exact ((u8.up n1).trans (q4.le (by omega))).trans (Up.set (Nat.le_refl _) hA15.1 _)
    have hA20 : At s20 n1 (.cells (tenC had v2 it2) 106 true 7) := by rw [hs20]; exact hA15.set_same (q4.len hw8) _
    have n20 : s20.n = s8.n + 2 := by rw [hs20]; exact q2
    have hV20 : QV x0 s20 (n1 + 1) s20.n v2 (qs.take (i + 1)) := by
      have : qs.take (i + 1) = qs.take i ++ [(j, mm)] := by rw [List.take_add_one, hq]; rfl
      rw [this, hs20]
      exact q3.mono (Nat.le_refl _) (Nat.le_refl _) (Nat.le_refl _) (fun b hb1 _ _ => getO_set_other hA15.1 (by omega))
    have b1 : bndA s4.n (.agg r) = true := by
      show bndL s4.n r = true
      exact rc.2.2 _ (by omega)
    have b2 : beqA (.agg r) (.agg r) = true := by
      unfold beqA; exact rc.2.1
    have b3 : bndO (s8.n + 1) (.cells r' 71 true 24) = true := by
      show bndL (s8.n + 1) r' = true
      exact (p3.cells (fam0.pl j mm)).2.2 _ (by omega)
    have b4 : bndA (s8.n + 1) v = true := vc.2.2.1 _ (by omega)
    have b5 : bndA (s8.n + 1) (.slice s8.n 0 1 (some 1) 24) = true := by
      show Nat.blt s8.n (s8.n + 1) = true
      rw [blt_eq]; simp
    have b6 : bndA s15.n v2 = true := vc2.2.2.1 _ (Nat.le_refl _)
    have b7 : bndA s15.n (.ptr n1 3) = true := by
      show Nat.blt n1 s15.n = true
      rw [blt_eq]; simp; omega
    have c1 : Nat.ble s4.n s8.n = true := Nat.ble_eq_true_of_le n8
    have c2 : Nat.ble (s8.n + 1) s15.n = true := Nat.ble_eq_true_of_le (by omega)
    have c3 : Nat.ble s15.n s20.n = true := Nat.ble_eq_true_of_le (by omega)
    have b0 : bndA s4.n (.func (.func 34) [] []) = true := rfl
    simp only [mv_eq, g1_eq, g2_eq, g3_eq, g4_eq, bindR_val, h3, h16, h17, h18, binOp_int, intOp_lss, d1, condR_boolV, condT, g1, g2, alloc68, hst, ld5, sameR, b2, Bool.and_true, List.all_cons, List.all_nil, b0, b1, Bool.and_self, p1, retK_ret, c1,
      nilCheck_ptr, fa94_0, fa29_3, Nat.zero_add, ld12, ld12', vc.2.1, bs24 r' hr'l, b3, push_n, b4, b5, q1, c2, b6, b7, hst2, c3, intOp_add, w1, kOc_nxt] at e
    have key : ∃ T1, denK tab W V 66 c29_1_1_1_0_1_0_0 kOc T σ = .ok (.nxt T1 s20) ∧ T1 1 = .ptr n0 0 ∧ T1 3 = .ptr n1 0 ∧ T1 16 = qv ∧ T1 17 = intV .i64 (qs.length : Int) ∧ T1 18 = intV .i64 ((i + 1 : Nat) : Int) := by
      refine ⟨_, e, ?_, ?_, ?_, ?_, ?_⟩ <;> simp (decide := true) only [puts_cons, puts_nil, putE_same, putE_ne, h1, h3, h16, h17]
    obtain ⟨T1, e1, k1, k3, k15, k16, k17⟩ := key
    obtain ⟨T', σ', v', z1, z2, z3, z4, z5, z6⟩ := ih (i + 1) (by omega) T1 s20 v2 (ub.len hw) (ub.M.trans hM) h01 hlq
      (hQ.mono (Nat.le_refl _) (Nat.le_refl _) ub.n fun b _ hb hg => ub.old b (getO_gone hg) (by omega)) (hA0.up ub h01) hA20 hV20 k1 k3 k15 k16 k17
    exact ⟨T', σ', v', loop_next (dd_of tab W V 66 e1) z1, ub.trans z2, z3, z4, z5, z6⟩
end Go.Proofs.YtkpkmjanikkpoaaGreatDoor
namespace Go.Proofs.YtkpkmjanikkpoaaGreatDoor
open Go Go.Dt
set_option maxRecDepth 100000

theorem x0_0 (j : Nat) (m : Int) : (x0 j m)[0]? = some (.b (.int .i64 m)) := by unfold x0; split <;> rfl
theorem x0_16 (j : Nat) (m : Int) : (x0 j m)[16]? = some (.b (.int .i64 9)) := by unfold x0; split <;> rfl
theorem x0_21 (j : Nat) (m : Int) : (x0 j m)[21]? = some (.b (.int .u64 1)) := by unfold x0; split <;> rfl
def cC : List AV := [intV .i64 1, intV .i64 4, intV .i64 9, intV .i64 8, intV .i64 0]

theorem W31 (had : Int) (qv it : AV) {j : Nat} {m : Int} {lo hi : Nat} {r : List AV} (σ : St) (hr : DpL σ lo hi (x0 j m) r) : ∃ σ', W 31 [.agg cC, .agg (tenC had qv it), .agg r] σ = .ok (.ret (intV .i64 0), σ') ∧ Gw σ σ' := by
  have h0 := At.new σ (.cells cC 36 true 5)
  have h1 := At.new (σ.push (.cells cC 36 true 5)) (.cells (tenC had qv it) 29 true 7)
  have h2 := At.new ((σ.push (.cells cC 36 true 5)).push (.cells (tenC had qv it) 29 true 7)) (.cells r 71 true 24)
  have h0' := (h0.push (.cells (tenC had qv it) 29 true 7)).push (.cells r 71 true 24)
  have h1' := h1.push (.cells r 71 true 24)
  have e1 : (σ.push (.cells cC 36 true 5)).n = σ.n + 1 := rfl
  have e2 : ((σ.push (.cells cC 36 true 5)).push (.cells (tenC had qv it) 29 true 7)).n = σ.n + 1 + 1 := rfl
  rw [e1] at h1'
  rw [e2] at h2
  have a1 : loadV tab (((σ.push (.cells cC 36 true 5)).push (.cells (tenC had qv it) 29 true 7)).push (.cells r 71 true 24)) 23 (.ptr (σ.n + 1 + 1) 21) = .ok (intV .u64 1) := ld l23 h2 (hr.at 21 _ (x0_21 j m))
  have a2 : loadV tab (((σ.push (.cells cC 36 true 5)).push (.cells (tenC had qv it) 29 true 7)).push (.cells r 71 true 24)) 23 (.ptr (σ.n + 1) 1) = .ok (intV .u64 1) := ld l23 h1' rfl
  have a3 : loadV tab (((σ.push (.cells cC 36 true 5)).push (.cells (tenC had qv it) 29 true 7)).push (.cells r 71 true 24)) 3 (.ptr (σ.n + 1 + 1) 16) = .ok (intV .i64 9) := ld l3 h2 (hr.at 16 _ (x0_16 j m))
  have a4 : loadV tab (((σ.push (.cells cC 36 true 5)).push (.cells (tenC had qv it) 29 true 7)).push (.cells r 71 true 24)) 3 (.ptr σ.n 2) = .ok (intV .i64 9) := ld l3 h0' rfl
  refine ⟨_, w31 (by simp) ?_, ((Gw.push σ (.cells cC 36 true 5)).trans (Gw.push _ (.cells (tenC had qv it) 29 true 7))).trans (Gw.push _ (.cells r 71 true 24))⟩
  rw [ec31]
  have b1 : boxA tab 36 (.agg cC) σ.n = .ok (.ptr σ.n 0, .cells cC 36 true 5) := box41 _ _ _ _ _ _
  have b2 : boxA tab 29 (.agg (tenC had qv it)) (σ.n + 1) = .ok (.ptr (σ.n + 1) 0, .cells (tenC had qv it) 29 true 7) := box29 _ _ _ _ _ _ _ _
  have d1 : ((1 : Int) != 1) = false := rfl
  have d2 : ((9 : Int) != 9) = false := rfl
  simp (decide := true) only [mv_eq, g1_eq, bindR_val, condR_boolV, condF, binOp_int, intOp_neq, puts_cons, puts_nil, putE_same, b1, push_n, b2, box68, fa68_3, fa65_0, fa29_1, fa68_2, fa62_3, fa41_2, Nat.zero_add, Nat.reduceAdd, a1, a2, a3, a4, d1, d2, r31]

/- the map of the numbers that were seen -/
theorem und185 : und tab 268 = .ok (.map 3 4) := by kernel_rfl
theorem pk3 : plainKey tab 10 3 = true := by kernel_rfl
theorem eqI (a b : Int) : eqV tab 10 3 (intV .i64 a) (intV .i64 b) = .ok (a == b) := by kernel_rfl
theorem zero4 : zero tab 4 = .ok (boolV false) := by kernel_rfl
theorem findKey_no (m : Int) : ∀ (es : List (AV × AV × Nat)) (i : Nat), (∀ e ∈ es, ∃ n, e.1 = intV .i64 n ∧ n ≠ m) → findKey tab 3 (intV .i64 m) es i = .ok none
  | [], i, _ => rfl
  | (k, v, t) :: es, i, h => by
    obtain ⟨n, hk, hn⟩ := h (k, v, t) (by simp)
    simp only at hk
    subst hk
    have : (m == n) = false := by simp; omega
    unfold findKey
    rw [eqI, this, bindR_eq, bindR_val]
    simp only [Bool.false_eq_true, if_false]
    exact findKey_no m es (i + 1) (fun e he => h e (List.mem_cons_of_mem _ he))
theorem look_no {σ : St} {b : Nat} {es : List (AV × AV × Nat)} {cl : Nat} (hA : At σ b (.map es cl)) {m : Int} (h : ∀ e ∈ es, ∃ n, e.1 = intV .i64 n ∧ n ≠ m) :
    lookupV tab σ 268 (.mapv b) (intV .i64 m) false = .ok (boolV false) := by
  have hm : mapOf σ (.mapv b) = .ok (es, cl) := by
    unfold mapOf
    simp only [hA.1, if_true, hA.2]
  have e1 : (m == m) = true := by simp
  unfold lookupV
  simp only [und185, bindR_eq, bindR_val, pk3, if_true, hm, eqI, e1, Bool.not_true, Bool.false_eq_true, if_false, findKey_no m es 0 h, zero4]
  rfl
theorem upd_no {σ : St} {b : Nat} {es : List (AV × AV × Nat)} {cl : Nat} (hA : At σ b (.map es cl)) {m : Int} (h : ∀ e ∈ es, ∃ n, e.1 = intV .i64 n ∧ n ≠ m) (v : AV) :
    mapUpdQ tab σ 268 (.mapv b) (intV .i64 m) v = .ok (.skip, σ.set b (.map (es ++ [(intV .i64 m, v, cl)]) (cl + 1))) := by
  have hm : mapOf σ (.mapv b) = .ok (es, cl) := by
    unfold mapOf
    simp only [hA.1, if_true, hA.2]
  have e1 : (m == m) = true := by simp
  unfold mapUpdQ mapUpdate
  simp only [und185, bindR_eq, bindR_val, pk3, if_true, hm, eqI, e1, Bool.not_true, Bool.false_eq_true, if_false, findKey_no m es 0 h]
  rfl
end Go.Proofs.YtkpkmjanikkpoaaGreatDoor
namespace Go.Proofs.YtkpkmjanikkpoaaGreatDoor
open Go Go.Dt
set_option maxRecDepth 100000

@[simp] theorem putE_none (N : Nat) (T : Rg) (v : AV) : putE N T none v = T := eqBy rfl
theorem nextK_skip {ρ : Type} (N : Nat) (T : Rg) (d : Option Tmp) (k : Rg → St → R ρ) (kp : AV → St → R ρ) (σ : St) : nextK W V N T d k kp .skip σ = k (putE N T d .undef) σ := eqBy rfl
theorem nextK_val {ρ : Type} (N : Nat) (T : Rg) (d : Option Tmp) (k : Rg → St → R ρ) (kp : AV → St → R ρ) (v : AV) (σ : St) : nextK W V N T d k kp (.value v) σ = k (putE N T d v) σ := eqBy rfl
def svC (rv : AV) : List AV := [rv, intV .u64 0, intV .u64 0, intV .u64 9]
/-- the store's value -/
structure StV (σ : St) (hi : Nat) (rv : AV) : Prop where
  is : Dp σ 0 hi stS (.agg (svC rv))
theorem StV.gw {σ σ' : St} {hi : Nat} {rv : AV} (h : StV σ hi rv) (g : Gw σ σ') : StV σ' hi rv := ⟨h.is.gw g⟩
theorem StV.up {lo : Nat} {σ σ' : St} {hi : Nat} {rv : AV} (h : StV σ hi rv) (u : Up lo σ σ') (hl : hi ≤ lo) : StV σ' hi rv :=
  ⟨Dp.mono (Nat.le_refl _) (Nat.le_refl _) (fun b _ hb hg => u.old b (getO_gone hg) (by omega)) _ _ h.is⟩
theorem StV.le {σ : St} {hi hi' : Nat} {rv : AV} (h : StV σ hi rv) (hl : hi ≤ hi') : StV σ hi' rv := ⟨Dp.mono (Nat.le_refl _) hl (fun _ _ _ _ => rfl) _ _ h.is⟩
theorem QL.up {x : Nat → Int → List Tt} {lo l h : Nat} {σ σ' : St} {v : AV} {qs : List (Nat × Int)} (q : QL x σ l h v qs) (u : Up lo σ σ') (hl : h ≤ lo) : QL x σ' l h v qs :=
  q.mono (Nat.le_refl _) (Nat.le_refl _) u.n fun b _ hb hg => u.old b (getO_gone hg) (by omega)
theorem QL.le {x : Nat → Int → List Tt} {l h h' : Nat} {σ : St} {v : AV} {qs : List (Nat × Int)} (q : QL x σ l h v qs) (hl : h ≤ h') : QL x σ l h' v qs :=
  q.mono (Nat.le_refl _) hl (Nat.le_refl _) fun _ _ _ _ => rfl

/-- query.Check -/
theorem P30 {j : Nat} {m : Int} (hq : okQ (j, m)) {σ : St} (hM : σ.M = M0) {hi hi' : Nat} {rv : AV} (hs : StV σ hi rv) {lo : Nat} {r : List AV} (hr : DpL σ lo hi' (x0 j m) r) :
    ∃ σ', W 30 [.agg (svC rv), .agg r] σ = .ok (.ret (intV .i64 0), σ') ∧ Gw σ σ' := by
  obtain ⟨x, σ', h1, h2, h3⟩ := (k30 j m hq.1 hq.2.1 hq.2.2).call hM (xs := [.agg (svC rv), .agg r]) (lo := 0) (hi := max hi hi') (by
    rw [DpL]
    refine ⟨_, _, rfl, Dp.mono (Nat.le_refl _) (Nat.le_max_left _ _) (fun _ _ _ _ => rfl) _ _ hs.is, ?_⟩
    simp only [DpL, Dp]
    exact ⟨_, [], rfl, ⟨r, rfl, DpL.mono (Nat.zero_le _) (Nat.le_max_right _ _) (fun _ _ _ _ => rfl) _ _ hr⟩, rfl⟩)
  have : x = intV .i64 0 := by
    simp only [I, Dp] at h3
    exact h3
  subst this
  exact ⟨σ', h1, h2⟩

structure Numb (had : Int) (qs : List (Nat × Int)) : Prop where
  ok : ∀ q ∈ qs, okQ q
  le : ∀ q ∈ qs, q.2 ≤ had
  nd : (qs.map (·.2)).Nodup

theorem loop88 (had : Int) (b0 b1 b2 bm lq : Nat) (rv qv it : AV) (qs : List (Nat × Int)) (hN : Numb had qs) (hlen : qs.length < 1000) (h01 : b0 < bm) (h1m : b1 < bm) (h2m : b2 < bm) (hlq : lq ≤ bm) : ∀ (k i : Nat), i + k = qs.length → ∀ (T : Rg) (σ : St) (es : List (AV × AV × Nat)) (cl : Nat), WF σ → σ.M = M0 →
    At σ b0 (.cells (svC rv) 33 true 4) → At σ b1 (.cells cC 36 true 5) → At σ b2 (.cells (tenC had qv it) 29 true 7) → At σ bm (.map es cl) → (∀ e ∈ es, ∃ n, e.1 = intV .i64 n ∧ n ∈ (qs.take i).map (·.2)) →
    StV σ lq rv → QL x0 σ 0 lq qv qs →
    T 3 = .ptr b0 0 → T 4 = .ptr b1 0 → T 5 = .ptr b2 0 → T 7 = .mapv bm → T 13 = qv → T 14 = intV .i64 (qs.length : Int) → T 15 = intV .i64 (i : Int) →
    ∃ T' σ', loopLim (dd tab W V 51 c88_1_1_0_1_0_0) T σ = .ok (.exit 0 T' σ') ∧ Up bm σ σ' := by
  intro k
  induction k with
  | zero =>
    intro i hi T σ es cl hw hM hA0 hA1 hA2 hAm hes hS hQ t3 t4 t5 t7 t13 t14 t15
    have e := ec88_1_1_0_1_0_0 kOc T σ
    have d1 : decide ((i : Int) < (qs.length : Int)) = false := by simp; omega
    simp only [g1_eq, bindR_val, t14, t15, binOp_int, intOp_lss, d1, condR_boolV, condF, kOc_exit] at e
    exact ⟨_, σ, loop_exit (dd_of tab W V 51 e), (Gw.refl σ).up _⟩
  | succ k ih =>
    intro i hi T σ es cl hw hM hA0 hA1 hA2 hAm hes hS hQ t3 t4 t5 t7 t13 t14 t15
    have hil : i < qs.length := by omega
    obtain ⟨q, hq⟩ : ∃ q, qs[i]? = some q := ⟨_, List.getElem?_eq_getElem hil⟩
    obtain ⟨bq, r, g1, g2, g3, g4⟩ := hQ.get fam0 hq
    have hmem := List.mem_of_getElem? hq
    have hqok := hN.ok q hmem
    have hqle := hN.le q hmem
    have hnd := hN.nd
    obtain ⟨j, mm⟩ := q
    simp only at hqle
    have hne : ∀ e ∈ es, ∃ n, e.1 = intV .i64 n ∧ n ≠ mm := by
      intro e he
      obtain ⟨n, hn, hn2⟩ := hes e he
      refine ⟨n, hn, fun hh => ?_⟩
      subst hh
      have h1 : (qs.map (·.2))[i]? = some n := by rw [List.getElem?_map, hq]; rfl
      rw [List.map_take] at hn2
      obtain ⟨a, ha, hx⟩ := List.getElem_of_mem hn2
      have ha' : a < i := by
        have := ha; rw [List.length_take] at this; omega
      rw [List.getElem_take] at hx
      have h2 : (qs.map (·.2))[a]? = some n := by
        rw [List.getElem?_eq_getElem (by rw [List.length_map]; omega), hx]
      have hai : a < (qs.map (·.2)).length := by rw [List.length_map]; omega
      have := (List.getElem?_inj hai hnd (j := i)).1 (h2.trans h1.symm)
      omega
    have e := ec88_1_1_0_1_0_0 kOc T σ
    have d1 : decide ((i : Int) < (qs.length : Int)) = true := by simp; omega
    have w1 : IntKind.i64.wrap ((i : Int) + 1) = ((i + 1 : Nat) : Int) := by rw [wrapI (by omega) (by omega)]; omega
    have rc := g3.cells (fam0.pl j mm)
    have hC := At.new σ (.cells z68 71 true 24)
    obtain ⟨s4, hs4⟩ : ∃ s4, s4 = (σ.push (.cells z68 71 true 24)).set σ.n (.cells r 71 true 24) := ⟨_, rfl⟩
    have hst : storeV tab (σ.push (.cells z68 71 true 24)) 71 (.ptr σ.n 0) (.agg r) = .ok s4 := by
      rw [hs4]
      have := stv (o := 0) (x := .agg r) s68 hC g4 (by omega) (by show 0 + 24 ≤ 24; omega) rc.1
      rw [this]
      congr 3
      show splice z68 0 r = r
      match r, g4 with
      | [a0, a1, a2, a3, a4, a5, a6, a7, a8, a9, b0, b1, b2, b3, b4, b5, b6, b7, b8, b9, c0, c1, c2, c3], _ => rfl
    have u4 : Gw σ s4 := by rw [hs4]; exact ((Gw.push σ _).up σ.n |>.trans (Up.set (Nat.le_refl _) hC.1 _)).gw (Nat.le_refl _)
    have hD : At s4 σ.n (.cells r 71 true 24) := by rw [hs4]; exact hC.set_same (WF.push hw _) _
    have n4 : s4.n = σ.n + 1 := by rw [hs4]; rfl
    have hAm4 := hAm.gw u4
    have bmn := hAm.1
    have ldn : loadV tab s4 3 (.ptr σ.n 0) = .ok (intV .i64 mm) := ld l3 hD (g3.at 0 _ (x0_0 j mm))
    have ldh : loadV tab s4 3 (.ptr b2 2) = .ok (intV .i64 had) := ld l3 (hA2.gw u4) rfl
    have d2 : decide (mm < 1) = false := by have := hqok.2.1; simp at this ⊢; omega
    have d3 : decide (mm > had) = false := by simp; omega
    have lk := look_no hAm4 hne
    have up := upd_no hAm4 hne (boolV true)
    obtain ⟨s5, hs5⟩ : ∃ s5, s5 = s4.set bm (.map (es ++ [(intV .i64 mm, boolV true, cl)]) (cl + 1)) := ⟨_, rfl⟩
    rw [← hs5] at up
    have u5 : Up bm s4 s5 := by rw [hs5]; exact Up.set (Nat.le_refl _) hAm4.1 _
    have u05 : Up bm σ s5 := (u4.up bm).trans u5
    have hAm5 : At s5 bm (.map (es ++ [(intV .i64 mm, boolV true, cl)]) (cl + 1)) := by rw [hs5]; exact hAm4.set_same (u4.len hw) _
    have hD5 : At s5 σ.n (.cells r 71 true 24) := by rw [hs5]; exact hD.set_ne hAm4.1 (by omega) _
    have ld27 : loadV tab s5 33 (.ptr b0 0) = .ok (.agg (svC rv)) := lda a33 (hA0.up u05 h01) rfl rfl
    have ld28 : loadV tab s5 71 (.ptr σ.n 0) = .ok (.agg r) := lda a68 hD5 (by rw [List.drop_zero]; exact List.take_of_length_le (by omega)) g4
    have g35 : DpL s5 0 lq (x0 j mm) r := DpL.mono (Nat.le_refl _) (Nat.le_refl _) (fun b _ hb hg => u05.old b (getO_gone hg) (by omega)) _ _ g3
    obtain ⟨s6, p1, p2⟩ := P30 hqok (u05.M.trans hM) (hS.up u05 hlq) g35
    have u06 : Up bm σ s6 := u05.trans (p2.up bm)
    have ld35 : loadV tab s6 36 (.ptr b1 0) = .ok (.agg cC) := lda a41 (hA1.up u06 h1m) rfl rfl
    have ld36 : loadV tab s6 29 (.ptr b2 0) = .ok (.agg (tenC had qv it)) := lda a29 (hA2.up u06 h2m) rfl rfl
    have ld37 : loadV tab s6 71 (.ptr σ.n 0) = .ok (.agg r) := lda a68 (hD5.gw p2) (by rw [List.drop_zero]; exact List.take_of_length_le (by omega)) g4
    obtain ⟨s7, f1, f2⟩ := W31 had qv it s6 (g35.gw p2)
    have u07 : Up bm σ s7 := u06.trans (f2.up bm)
    have c0 : ((0 : Int) == 0) = true := rfl
    have c1 : ((0 : Int) != 0) = false := rfl
    simp (decide := true) only [mv_eq, g1_eq, g2_eq, g3_eq, bindR_val, retK_ret, condR_boolV, condT, condF, isBoolV_f, Bool.not_false, pickV_boolV, binOp_int, intOp_add, intOp_eql, intOp_neq, intOp_lss, intOp_gtr, kOc_nxt, kOc_ret, kOc_exit, kblk_nxt, kblk_ret, kseq_nxt, kseq_ret, g1, g2, t3, t4, t5, t7, t13, t14, t15, d1, alloc68, hst, fa68_0, fa29_2, Nat.zero_add, ldn, ldh, d2, d3, lk, up, nextK_skip, putE_none, puts_cons, puts_nil, putE_same, putE_ne, ld27, ld28, p1, c0, ld35, ld36, ld37, f1,
      ec88_1_1_0_1_0_0_1_1_0_0_1_1_1_1_1, c1, ec88_1_1_0_1_0_0_1_1_1, w1] at e
    have key : ∃ T1, denK tab W V 51 c88_1_1_0_1_0_0 kOc T σ = .ok (.nxt T1 s7) ∧ T1 3 = .ptr b0 0 ∧ T1 4 = .ptr b1 0 ∧ T1 5 = .ptr b2 0 ∧ T1 7 = .mapv bm ∧ T1 13 = qv ∧ T1 14 = intV .i64 (qs.length : Int) ∧ T1 15 = intV .i64 ((i + 1 : Nat) : Int) := by
      refine ⟨_, e, ?_, ?_, ?_, ?_, ?_, ?_, ?_⟩ <;> simp (decide := true) only [putE_same, putE_ne, t3, t4, t5, t7, t13, t14]
    obtain ⟨T1, e1, k3, k4, k5, k7, k9, k43, k14⟩ := key
    obtain ⟨T', σ', z1, z2⟩ := ih (i + 1) (by omega) T1 s7 (es ++ [(intV .i64 mm, boolV true, cl)]) (cl + 1) (u07.len hw) (u07.M.trans hM) (hA0.up u07 h01) (hA1.up u07 h1m) (hA2.up u07 h2m) ((hAm5.gw p2).gw f2) (by
        intro e he
        have ht : qs.take (i + 1) = qs.take i ++ [(j, mm)] := by rw [List.take_add_one, hq]; rfl
        rw [ht, List.map_append]
        rcases List.mem_append.1 he with he | he
        · obtain ⟨n, a1, a2⟩ := hes e he
          exact ⟨n, a1, List.mem_append_left _ a2⟩
        · simp only [List.mem_singleton] at he
          subst he
          exact ⟨mm, rfl, by simp⟩)
      (hS.up u07 hlq) (hQ.up u07 hlq) k3 k4 k5 k7 k9 k43 k14
    exact ⟨T', σ', loop_next (dd_of tab W V 51 e1) z1, u07.trans z2⟩
end Go.Proofs.YtkpkmjanikkpoaaGreatDoor
namespace Go.Proofs.YtkpkmjanikkpoaaGreatDoor
open Go Go.Dt
set_option maxRecDepth 100000

theorem box33' (rv : AV) (n : Nat) : boxA tab 33 (.agg (svC rv)) n = .ok (.ptr n 0, .cells (svC rv) 33 true 4) := box33 _ _ _ _ _
theorem box41' (n : Nat) : boxA tab 36 (.agg cC) n = .ok (.ptr n 0, .cells cC 36 true 5) := box41 _ _ _ _ _ _
theorem box29' (had : Int) (qv it : AV) (n : Nat) : boxA tab 29 (.agg (tenC had qv it)) n = .ok (.ptr n 0, .cells (tenC had qv it) 29 true 7) := box29 _ _ _ _ _ _ _ _
/-- three boxes -/
structure Box3 (σ S : St) (rv : AV) (had : Int) (qv it : AV) : Prop where
  g : Gw σ S
  n : S.n = σ.n + 3
  a0 : At S σ.n (.cells (svC rv) 33 true 4)
  a1 : At S (σ.n + 1) (.cells cC 36 true 5)
  a2 : At S (σ.n + 2) (.cells (tenC had qv it) 29 true 7)
theorem mkBox3 (σ : St) (rv : AV) (had : Int) (qv it : AV) : Box3 σ (((σ.push (.cells (svC rv) 33 true 4)).push (.cells cC 36 true 5)).push (.cells (tenC had qv it) 29 true 7)) rv had qv it where
  g := ((Gw.push _ _).trans (Gw.push _ _)).trans (Gw.push _ _)
  n := rfl
  a0 := ((At.new _ _).push _).push _
  a1 := (At.new _ _).push _
  a2 := At.new _ _

/-- tenant.queries -/
theorem W88 (had : Int) (rv qv it : AV) (qs : List (Nat × Int)) (hN : Numb had qs) (hlen : qs.length < 1000) (σ : St) (hw : WF σ) (hM : σ.M = M0) (hS : StV σ σ.n rv) (hQ : QL x0 σ 0 σ.n qv qs) :
    ∃ σ', W 88 [.agg (svC rv), .agg cC, .agg (tenC had qv it)] σ = .ok (.ret (intV .i64 0), σ') ∧ Gw σ σ' := by
  have B := mkBox3 σ rv had qv it
  obtain ⟨S, hSt⟩ : ∃ S, S = ((σ.push (.cells (svC rv) 33 true 4)).push (.cells cC 36 true 5)).push (.cells (tenC had qv it) 29 true 7) := ⟨_, rfl⟩
  rw [← hSt] at B
  have hm := At.new S (.map [] 0)
  have gm := Gw.push S (.map [] 0)
  have n3 := B.n
  have g := B.g.trans gm
  have a2 := B.a2.gw gm
  have ldq : loadV tab (S.push (.map [] 0)) 24 (.ptr (σ.n + 2) 3) = .ok qv := ld l24 a2 rfl
  obtain ⟨T0, hT0⟩ : ∃ T0 : Rg, T0 = puts 51 (puts 51 (argE [.agg (svC rv), .agg cC, .agg (tenC had qv it)]) [(3, .ptr σ.n 0), (4, .ptr (σ.n + 1) 0), (5, .ptr (σ.n + 2) 0), (6, intV .i64 0)])
    [(11, .mapv S.n), (7, .mapv S.n), (12, .ptr (σ.n + 2) 3), (13, qv), (14, intV .i64 (qs.length : Int)), (15, intV .i64 0)] := ⟨_, rfl⟩
  have t3 : T0 3 = .ptr σ.n 0 := by rw [hT0]; simp (decide := true) only [puts_cons, puts_nil, putE_same, putE_ne]
  have t4 : T0 4 = .ptr (σ.n + 1) 0 := by rw [hT0]; simp (decide := true) only [puts_cons, puts_nil, putE_same, putE_ne]
  have t5 : T0 5 = .ptr (σ.n + 2) 0 := by rw [hT0]; simp (decide := true) only [puts_cons, puts_nil, putE_same, putE_ne]
  have t7 : T0 7 = .mapv S.n := by rw [hT0]; simp (decide := true) only [puts_cons, puts_nil, putE_same, putE_ne]
  have t13 : T0 13 = qv := by rw [hT0]; simp (decide := true) only [puts_cons, puts_nil, putE_same, putE_ne]
  have t14 : T0 14 = intV .i64 (qs.length : Int) := by rw [hT0]; simp (decide := true) only [puts_cons, puts_nil, putE_same, putE_ne]
  have t15 : T0 15 = intV .i64 ((0 : Nat) : Int) := by rw [hT0]; simp (decide := true) only [puts_cons, puts_nil, putE_same]; rfl
  obtain ⟨T', σ', z1, z2⟩ := loop88 had σ.n (σ.n + 1) (σ.n + 2) S.n σ.n rv qv it qs hN hlen (by omega) (by omega) (by omega) (by omega) qs.length 0 (by omega) T0 (S.push (.map [] 0)) [] 0 (g.len hw) (g.M.trans hM)
    (B.a0.gw gm) (B.a1.gw gm) a2 hm (by simp) (hS.gw g) (hQ.gw g) t3 t4 t5 t7 t13 t14 t15
  refine ⟨σ', w88 (by simp) ?_, ((g.up S.n).trans z2).gw (by omega)⟩
  · rw [ec88]
    simp only [bindR_val, mv_eq, box33', box41', box29', push_n, ← hSt]
    rw [ec88_1]
    simp (decide := true) only [bindR_val, mv_eq, g1_eq, puts_cons, puts_nil, putE_same, putE_ne, fa29_3, Nat.zero_add, Nat.add_assoc, Nat.reduceAdd, ldq, hQ.lenV]
    simp only [puts_cons, puts_nil] at hT0
    rw [← hT0, ec88_1_1_0_1, z1, bindR_val]
    simp (decide := true) only [app_exit, kblk_exit, if_true, kseq_nxt, ec88_1_1_1, mv_eq, bindR_val, puts_cons, puts_nil, putE_same, r88]

theorem P55 {σ : St} (hM : σ.M = M0) {hi : Nat} {rv : AV} (hs : StV σ hi rv) : ∃ σ', W 55 [.agg (svC rv)] σ = .ok (.ret (intV .i64 0), σ') ∧ Gw σ σ' := by
  obtain ⟨x, σ', h1, h2, h3⟩ := k55.call hM (xs := [.agg (svC rv)]) (lo := 0) (hi := hi) (by
    rw [DpL]
    exact ⟨_, _, rfl, hs.is, by simp only [DpL]⟩)
  have : x = intV .i64 0 := by
    simp only [I, Dp] at h3
    exact h3
  subst this
  exact ⟨σ', h1, h2⟩
theorem P41 {σ : St} (hM : σ.M = M0) : ∃ σ', W 41 [.agg cC] σ = .ok (.ret (intV .i64 0), σ') ∧ Gw σ σ' := by
  obtain ⟨x, σ', h1, h2, h3⟩ := k41.call hM (xs := [.agg cC]) (lo := 0) (hi := 0) (by
    simp only [DpL, Dp, cf8, I]
    exact ⟨_, _, rfl, ⟨_, rfl, _, _, rfl, rfl, _, _, rfl, rfl, _, _, rfl, rfl, _, _, rfl, rfl, _, _, rfl, rfl, rfl⟩, rfl⟩)
  have : x = intV .i64 0 := by
    simp only [I, Dp] at h3
    exact h3
  subst this
  exact ⟨σ', h1, h2⟩
/-- tenant.Check -/
theorem W43 (had : Int) (h0 : 0 ≤ had) (h20 : had ≤ 4) (rv qv : AV) (qs : List (Nat × Int)) (hN : Numb had qs) (hlen : qs.length ≤ 4) (σ : St) (hw : WF σ) (hM : σ.M = M0) (hS : StV σ σ.n rv) (hQ : QL x0 σ 0 σ.n qv qs) {it : AV} {cs : List Int} (hok : ∀ c ∈ cs, okC c) (hcl : cs.length ≤ 8) (hI : IL σ 0 σ.n it cs) :
    ∃ σ', W 43 [.agg (svC rv), .agg cC, .agg (tenC had qv it)] σ = .ok (.ret (intV .i64 0), σ') ∧ Gw σ σ' := by
  have B := mkBox3 σ rv had qv it
  obtain ⟨S, hSt⟩ : ∃ S, S = ((σ.push (.cells (svC rv) 33 true 4)).push (.cells cC 36 true 5)).push (.cells (tenC had qv it) 29 true 7) := ⟨_, rfl⟩
  rw [← hSt] at B
  have l0 : loadV tab S 33 (.ptr σ.n 0) = .ok (.agg (svC rv)) := lda a33 B.a0 rfl rfl
  obtain ⟨s1, p1, q1⟩ := P55 (B.g.M.trans hM) (hS.gw B.g)
  have G1 := B.g.trans q1
  have l1 : loadV tab s1 36 (.ptr (σ.n + 1) 0) = .ok (.agg cC) := lda a41 (B.a1.gw q1) rfl rfl
  obtain ⟨s2, p2, q2⟩ := P41 (G1.M.trans hM)
  have G2 := G1.trans q2
  have l2 : loadV tab s2 27 (.ptr (σ.n + 2) 4) = .ok (.agg (quC it)) := lda a27 ((B.a2.gw q1).gw q2) rfl rfl
  obtain ⟨s3, p3, q3⟩ := W76 hok hcl (G2.len hw) (G2.M.trans hM) (hI.gw G2)
  have G3 := G2.trans q3
  have A0 := ((B.a0.gw q1).gw q2).gw q3
  have A1 := ((B.a1.gw q1).gw q2).gw q3
  have A2 := ((B.a2.gw q1).gw q2).gw q3
  have r0 : loadV tab s3 4 (.ptr (σ.n + 2) 0) = .ok (boolV true) := ld l4 A2 rfl
  have r2 : loadV tab s3 3 (.ptr (σ.n + 2) 2) = .ok (intV .i64 had) := ld l3 A2 rfl
  have r3 : loadV tab s3 24 (.ptr (σ.n + 2) 3) = .ok qv := ld l24 A2 rfl
  have r4 : loadV tab s3 3 (.ptr (σ.n + 2) 4) = .ok (intV .i64 8) := ld l3 A2 rfl
  have c1 : loadV tab s3 3 (.ptr (σ.n + 1) 1) = .ok (intV .i64 4) := ld l3 A1 rfl
  have c3 : loadV tab s3 3 (.ptr (σ.n + 1) 3) = .ok (intV .i64 8) := ld l3 A1 rfl
  have w0 : loadV tab s3 33 (.ptr σ.n 0) = .ok (.agg (svC rv)) := lda a33 A0 rfl rfl
  have w1 : loadV tab s3 36 (.ptr (σ.n + 1) 0) = .ok (.agg cC) := lda a41 A1 rfl rfl
  have w2 : loadV tab s3 29 (.ptr (σ.n + 2) 0) = .ok (.agg (tenC had qv it)) := lda a29 A2 rfl rfl
  obtain ⟨s4, p4, q4⟩ := W88 had rv qv it qs hN (by omega) s3 (G3.len hw) (G3.M.trans hM) ((hS.gw G3).le G3.n) ((hQ.gw G3).le G3.n)
  refine ⟨s4, w43 (by simp) ?_, G3.trans q4⟩
  have d0 : ((0 : Int) == 0) = true := rfl
  have d1 : ((0 : Int) != 0) = false := rfl
  have d2 : ((8 : Int) != 8) = false := rfl
  have e1 : decide (had < 0) = false := by simp; omega
  have e2 : decide (had > 1099511627776) = false := by simp; omega
  have e3 : decide ((qs.length : Int) > 4) = false := by simp; omega
  rw [ec43]
  simp only [bindR_val, mv_eq, box33', box41', box29', push_n, ← hSt]
  simp (decide := true) only [mv_eq, g1_eq, g2_eq, bindR_val, retK_ret, condR_boolV, condT, condF, isBoolV_f, isBoolV_t, isBoolV_u, Bool.not_true, Bool.not_false, pickV_boolV, binOp_int, unOp_not, intOp_eql, intOp_neq, intOp_lss, intOp_gtr, kblk_nxt, kblk_ret, kseq_nxt, kseq_ret, puts_cons, puts_nil, putE_same, putE_ne, Nat.add_assoc, Nat.reduceAdd, ec43_1, l0, p1, d0, l1, p2, ec43_1_1_1, fa29_4, Nat.zero_add, l2, p3, ec43_1_1_1_1, d1, fa27_0, r4, fa41_3, c3, d2, ec43_1_1_1_1_0_0_1_1_1, fa29_0, r0,
    fa29_2, r2, e1, e2, fa29_3, r3, hQ.lenV, fa41_1, c1, e3, ec43_1_1_1_1_1, w0, w1, w2, p4, r43]

/-- tenant.registered -/
theorem W20 (had : Int) (h0 : 0 ≤ had) (h20 : had ≤ 4) (rv qv : AV) (qs : List (Nat × Int)) (hN : Numb had qs) (hlen : qs.length ≤ 4) (σ : St) (hw : WF σ) (hM : σ.M = M0) (hS : StV σ σ.n rv) (hQ : QL x0 σ 0 σ.n qv qs) {it : AV} {cs : List Int} (hok : ∀ c ∈ cs, okC c) (hcl : cs.length ≤ 8) (hI : IL σ 0 σ.n it cs) :
    ∃ σ', W 20 [.agg (svC rv), .agg cC, .agg (tenC had qv it)] σ = .ok (.ret (intV .i64 0), σ') ∧ Gw σ σ' := by
  have B := mkBox3 σ rv had qv it
  obtain ⟨S, hSt⟩ : ∃ S, S = ((σ.push (.cells (svC rv) 33 true 4)).push (.cells cC 36 true 5)).push (.cells (tenC had qv it) 29 true 7) := ⟨_, rfl⟩
  rw [← hSt] at B
  have l0 : loadV tab S 33 (.ptr σ.n 0) = .ok (.agg (svC rv)) := lda a33 B.a0 rfl rfl
  have l1 : loadV tab S 36 (.ptr (σ.n + 1) 0) = .ok (.agg cC) := lda a41 B.a1 rfl rfl
  have l2 : loadV tab S 29 (.ptr (σ.n + 2) 0) = .ok (.agg (tenC had qv it)) := lda a29 B.a2 rfl rfl
  obtain ⟨s1, p1, q1⟩ := W43 had h0 h20 rv qv qs hN hlen S (B.g.len hw) (B.g.M.trans hM) ((hS.gw B.g).le B.g.n) ((hQ.gw B.g).le B.g.n) hok hcl ((hI.gw B.g).le (Nat.le_refl _) B.g.n)
  have r0 : loadV tab s1 4 (.ptr (σ.n + 2) 0) = .ok (boolV true) := ld l4 (B.a2.gw q1) rfl
  have d0 : ((0 : Int) == 0) = true := rfl
  refine ⟨s1, w20 (by simp) ?_, B.g.trans q1⟩
  rw [ec20]
  simp only [bindR_val, mv_eq, box33', box41', box29', push_n, ← hSt]
  simp (decide := true) only [mv_eq, g1_eq, g2_eq, bindR_val, retK_ret, condR_boolV, condT, condF, isBoolV_t, Bool.not_true, pickV_boolV, binOp_int, unOp_not, intOp_eql, puts_cons, puts_nil, putE_same, putE_ne, Nat.add_assoc, Nat.reduceAdd, l0, l1, l2, p1, d0, fa29_0, r0, ec20_1_1_1, r20]
end Go.Proofs.YtkpkmjanikkpoaaGreatDoor
namespace Go.Proofs.YtkpkmjanikkpoaaGreatDoor
open Go Go.Dt
set_option maxRecDepth 100000

theorem overwrite_app : ∀ (l B C : List AV), B.length = l.length → overwrite (B ++ C) l = l ++ C
  | [], [], C, _ => by cases C <;> rfl
  | x :: l, c :: B, C, h => by
    show x :: overwrite (B ++ C) l = _
    rw [overwrite_app l B C (by simpa using h)]; rfl
  | [], _ :: _, _, h => by simp at h
  | _ :: _, [], _, h => by simp at h
theorem splice_zero : ∀ (cs l : List AV), splice cs 0 l = overwrite cs l
  | [], _ => rfl
  | _ :: _, _ => rfl
theorem splice_mid (A B C l : List AV) (h : B.length = l.length) : splice (A ++ (B ++ C)) A.length l = A ++ (l ++ C) := by
  have := splice_app l A (B ++ C) 0
  rw [Nat.add_zero] at this
  rw [this, splice_zero, overwrite_app l B C h]
theorem splice_nil : ∀ (cs : List AV) (o : Nat), splice cs o [] = cs
  | [], 0 => rfl
  | [], _ + 1 => rfl
  | _ :: _, 0 => rfl
  | c :: cs, o + 1 => by
    show c :: splice cs o [] = _
    rw [splice_nil cs o]
theorem stC {σ : St} (hw : WF σ) {b o e sz : Nat} {cs l : List AV} (hA : At σ b (.cells cs e true sz)) (hle : o + l.length ≤ cs.length) (hone : l.all AV.oneCell = true) :
    ∃ s, Dt.storeCells σ b o l = .ok s ∧ At s b (.cells (splice cs o l) e true sz) ∧ Up b σ s ∧ s.n = σ.n := by
  cases l with
  | nil => exact ⟨σ, rfl, by rw [splice_nil]; exact hA, (Gw.refl σ).up _, rfl⟩
  | cons x l =>
    refine ⟨σ.set b (.cells (splice cs o (x :: l)) e true sz), ?_, hA.set_same hw _, Up.set (Nat.le_refl _) hA.1 _, rfl⟩
    unfold Dt.storeCells
    simp only
    rw [if_pos hA.1, hA.2]
    simp only
    rw [if_pos]
    simp only [Bool.and_eq_true, decide_eq_true_eq, hone, and_true, true_and]
    exact hle

theorem u24 : und tab 24 = .ok (.slice 71) := by kernel_rfl
theorem se24 : sliceElem tab 24 = .ok 71 := by kernel_rfl
theorem sz68 : size tab 71 = .ok 24 := by kernel_rfl
theorem zero68 : ∃ z, zero tab 71 = .ok z ∧ z.cells = z68 := by
  have h : (match zero tab 71 with | .ok z => beqL z.cells z68 | .error _ => false) = true := by kernel_rfl
  cases hz : zero tab 71 with
  | error e => rw [hz] at h; cases h
  | ok z => rw [hz] at h; exact ⟨z, rfl, beqL_ok _ _ h⟩
theorem inf68 : ∃ i, inf tab 71 = .ok i ∧ i.bytes < 2 ^ 16 := by
  have h : (match inf tab 71 with | .ok i => decide (i.bytes < 2 ^ 16) | .error _ => false) = true := by kernel_rfl
  cases hz : inf tab 71 with
  | error e => rw [hz] at h; cases h
  | ok z => rw [hz] at h; exact ⟨z, rfl, of_decide_eq_true h⟩
theorem repL_len (n : Nat) : (repeatL z68 n).length = n * 24 := by
  induction n with
  | zero => rfl
  | succ n ih =>
    show (z68 ++ repeatL z68 n).length = _
    rw [List.length_append, ih]
    show 24 + n * 24 = _
    omega
theorem repL_drop (n k : Nat) (h : k ≤ n) : (repeatL z68 n).drop (k * 24) = repeatL z68 (n - k) := by
  induction k generalizing n with
  | zero => simp
  | succ k ih =>
    obtain ⟨m, rfl⟩ : ∃ m, n = m + 1 := ⟨n - 1, by omega⟩
    show (z68 ++ repeatL z68 m).drop ((k + 1) * 24) = _
    have e : (k + 1) * 24 = z68.length + k * 24 := by show _ = 24 + k * 24; omega
    rw [e, List.drop_length_add_append, ih m (by omega)]
    congr 1; omega
theorem mk24 (a L : Nat) (h0 : 0 < L) (h1 : a ≤ L) (h2 : L < 1000) (n : Nat) : makeSliceA tab 24 (intV .i64 (a : Int)) (intV .i64 (L : Int)) n = .ok (.slice n 0 a (some L) 24, .cells (repeatL z68 L) 71 true 24) := by
  obtain ⟨z, hz, hz2⟩ := zero68
  obtain ⟨i, hi, hi2⟩ := inf68
  have hc : (0 : Int) ≤ (a : Int) ∧ (a : Int) ≤ (L : Int) ∧ (L : Int) < 2 ^ 30 ∧ i.bytes < 2 ^ 16 := ⟨by omega, by omega, by omega, hi2⟩
  have hr : zeroRow tab 71 L = .ok (repeatL z68 L) := by
    unfold zeroRow
    simp only [sz68, bindR_eq, bindR_val, hz, hz2]
    rw [if_neg (by omega), if_pos (by rfl)]
    rfl
  unfold makeSliceA
  simp only [se24, bindR_eq, bindR_val, asI, intV, hi, sz68]
  rw [if_pos hc]
  simp only [Int.toNat_natCast, hr, bindR_val]
  rfl
theorem bound_nat (p n : Nat) (h : p ≤ n) : bound (intV .i64 (p : Int)) n = .ok p := by
  unfold bound
  simp only [asI, intV, bindR_eq, bindR_val]
  rw [if_pos (by omega)]
  simp only [Int.toNat_natCast]; rfl
theorem sl_hi (b L p : Nat) (h : p ≤ L) : sliceV tab 24 (.slice b 0 L none 24) none (some (intV .i64 (p : Int))) none = .ok (.slice b 0 p none 24) := by
  unfold sliceV
  simp only [u24, bindR_eq, bindR_val, sz68, boundO, bound_nat p L h]
  rfl
theorem sl_lo (b L q : Nat) (h0 : 0 < q) (h : q < L) : sliceV tab 24 (.slice b 0 L none 24) (some (intV .i64 (q : Int))) none none = .ok (.slice b (q * 24) (L - q) none 24) := by
  unfold sliceV
  simp only [u24, bindR_eq, bindR_val, sz68, boundO, bound_nat q L (by omega)]
  rw [if_pos (show True ∧ 0 < 24 from ⟨trivial, by omega⟩), if_neg (show ¬ q = 0 by omega), if_pos h, Nat.zero_add]
  rfl
theorem sl_lo_all (b L : Nat) (h0 : 0 < L) : sliceV tab 24 (.slice b 0 L none 24) (some (intV .i64 (L : Int))) none none = .ok (.sliceZ b 0 L 24) := by
  unfold sliceV
  simp only [u24, bindR_eq, bindR_val, sz68, boundO, bound_nat L L (Nat.le_refl _)]
  rw [if_pos (show True ∧ 0 < 24 from ⟨trivial, by omega⟩), if_neg (show ¬ L = 0 by omega), if_neg (show ¬ L < L by omega)]
  rfl
theorem sl_loc (b n c p : Nat) (h : p ≤ n) (hc : p < c) : sliceV tab 24 (.slice b 0 n (some c) 24) (some (intV .i64 (p : Int))) none none = .ok (.slice b (p * 24) (n - p) (some (c - p)) 24) := by
  unfold sliceV
  simp only [u24, bindR_eq, bindR_val, sz68, boundO, bound_nat p n h, Option.isSome_none, Bool.false_and, Bool.false_eq_true, if_false]
  rw [if_pos trivial, if_neg (show ¬ c = p by omega), Nat.zero_add]
  rfl
theorem copy24 {σ s : St} {b o dlen : Nat} {cap : Option Nat} {z : Nat} {src : AV} {new : List AV} {n : Nat} (h1 : srcCells σ 24 src = .ok (new, n)) (h2 : n ≤ dlen) (h3 : Dt.storeCells σ b o (new.take (n * 24)) = .ok s) :
    copyQ tab σ 24 (.slice b o dlen cap z) src = .ok (.value (goI n), s) := by
  unfold copyQ copyV
  simp only [se24, sz68, bindR_eq, bindR_val, h1, Nat.min_eq_left h2, h3]
  rfl
theorem src24 {σ : St} {b o len : Nat} {cap : Option Nat} {z : Nat} {cs l : List AV} {e : Nat} {ow : Bool} {sz : Nat} (hA : At σ b (.cells cs e ow sz)) (hl : (cs.drop o).take (len * 24) = l) (hn : l.length = len * 24) :
    srcCells σ 24 (.slice b o len cap z) = .ok (l, len) := by
  unfold srcCells cellsOf takeN
  simp only [hA.1, if_true, hA.2, bindR_eq, bindR_val, hl]
  rw [if_pos hn]
  rfl
theorem len24s (b o n : Nat) (cap : Option Nat) (z : Nat) : lenV tab 24 (.slice b o n cap z) = .ok (intV .i64 (n : Int)) := len_sl sl24
theorem len24n : lenV tab 24 nilS = .ok (intV .i64 0) := by kernel_rfl

theorem flat_take24 : ∀ (rows : List (List AV)), (∀ r ∈ rows, r.length = 24) → ∀ p, (rows.flatten).take (p * 24) = (rows.take p).flatten ∧ (rows.flatten).drop (p * 24) = (rows.drop p).flatten
  | rows, _, 0 => by simp
  | [], _, p + 1 => by simp
  | r :: rows, h, p + 1 => by
    have hr := h r (by simp)
    obtain ⟨h1, h2⟩ := flat_take24 rows (fun x hx => h x (List.mem_cons_of_mem _ hx)) p
    have e : (p + 1) * 24 = r.length + p * 24 := by omega
    simp only [List.flatten_cons, List.take_succ_cons, List.drop_succ_cons]
    rw [e, List.take_length_add_append, List.drop_length_add_append, h1, h2]
    exact ⟨rfl, rfl⟩

/-- the row without one -/
def cut (p : Nat) (qs : List (Nat × Int)) : List (Nat × Int) := qs.take p ++ qs.drop (p + 1)
theorem cut_len (p : Nat) (qs : List (Nat × Int)) (h : p < qs.length) : (cut p qs).length = qs.length - 1 := by
  unfold cut; rw [List.length_append, List.length_take, List.length_drop]; omega
end Go.Proofs.YtkpkmjanikkpoaaGreatDoor
