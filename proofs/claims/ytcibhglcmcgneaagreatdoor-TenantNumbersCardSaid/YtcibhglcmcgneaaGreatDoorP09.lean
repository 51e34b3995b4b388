/-
  The tree of what is known, and calls by it. No statement of this seat stands here.
-/
import Derived.Test.YtcibhglcmcgneaaGreatDoorP06
namespace Go.Proofs.YtcibhglcmcgneaaGreatDoor
open Go Go.Dt
set_option maxRecDepth 100000

noncomputable def mAll : List Memo := m1 ++ m31 ++ m33 ++ m35 ++ m37 ++ m38 ++ m73 ++ m50 ++ m21 ++ m11
noncomputable def M0 : MTree := addAll mAll .e

noncomputable def eqM (o : Option Memo) (m : Memo) : Bool :=
  match o with
  | some x => Nat.beq x.f m.f && beqL x.args m.args && beqH x.heap m.heap && beqA x.val m.val && beqH x.res m.res
  | none => false
theorem eqM_ok {o : Option Memo} {m : Memo} (h : eqM o m = true) : o = some m := by
  cases o with
  | none => cases h
  | some x =>
    simp only [eqM, Bool.and_eq_true] at h
    obtain ⟨⟨⟨⟨h1, h2⟩, h3⟩, h4⟩, h5⟩ := h
    have e1 := Nat.eq_of_beq_eq_true h1
    have e2 := beqL_ok _ _ h2
    have e3 := beqH_ok h3
    have e4 := beqA_ok _ _ h4
    have e5 := beqH_ok h5
    cases x; cases m
    simp only at e1 e2 e3 e4 e5
    subst e1; subst e2; subst e3; subst e4; subst e5
    rfl

/-- what the call of a pure function on trees is -/
structure Known (f : FuncId) (ts : List Tt) (r : Tt) : Prop where
  pure : tab.pure f = true
  d1 : dTL ts ≤ 30
  d2 : dT r ≤ 30
  w : wT r = true
  find : findMemo f (mkMemo tab f ts r).args (mkMemo tab f ts r).heap (M0.get (pth f)) = some (mkMemo tab f ts r)
theorem Known.call {f : FuncId} {ts : List Tt} {r : Tt} (k : Known f ts r) {σ : St} (hM : σ.M = M0) {lo hi : Nat} {xs : List AV} (ha : DpL σ lo hi ts xs) :
    ∃ x σ', W f xs σ = .ok (.ret x, σ') ∧ Gw σ σ' ∧ Dp σ' σ.n σ'.n r x :=
  pureG k.pure ha k.d1 k.d2 k.w (by rw [hM]; exact k.find)

noncomputable def restB (f : FuncId) (ts : List Tt) (r : Tt) : Bool := tab.pure f && Nat.ble (dTL ts) 30 && Nat.ble (dT r) 30 && wT r
noncomputable def knB (f : FuncId) (ts : List Tt) (r : Tt) : Bool := restB f ts r && eqM (findMemo f (mkMemo tab f ts r).args (mkMemo tab f ts r).heap (M0.get (pth f))) (mkMemo tab f ts r)
noncomputable def knS (f : FuncId) (ts : List Tt) (r : Tt) : Bool := restB f ts r && eqM (findMemo f (mkS f ts r).args (mkS f ts r).heap (M0.get (pth f))) (mkS f ts r)
theorem kn_ok {f : FuncId} {ts : List Tt} {r : Tt} (h : knB f ts r = true) : Known f ts r := by
  simp only [knB, restB, Bool.and_eq_true] at h
  obtain ⟨⟨⟨⟨h1, h2⟩, h3⟩, h4⟩, h5⟩ := h
  exact ⟨h1, Nat.le_of_ble_eq_true h2, Nat.le_of_ble_eq_true h3, h4, eqM_ok h5⟩
theorem kns_ok {f : FuncId} {ts : List Tt} {r : Tt} (h : knS f ts r = true) (hd : dT stS ≤ 30) : Known f (stS :: ts) r := by
  simp only [knS, restB, Bool.and_eq_true] at h
  obtain ⟨⟨⟨⟨h1, h2⟩, h3⟩, h4⟩, h5⟩ := h
  refine ⟨h1, ?_, Nat.le_of_ble_eq_true h3, h4, by rw [mkS_eq]; exact eqM_ok h5⟩
  show max (dT stS) (dTL ts) ≤ 30
  have := Nat.le_of_ble_eq_true h2
  omega
theorem dS : dT stS ≤ 30 := Nat.le_of_ble_eq_true (by kernel_rfl)

theorem k4 : Known 4 [] t0C := kn_ok (by kernel_rfl)
theorem k5 : Known 5 [] stS := kn_ok (by kernel_rfl)
theorem k9 : Known 9 [] cfC := kn_ok (by kernel_rfl)
theorem k15 : Known 15 [] (B true) := kn_ok (by kernel_rfl)
theorem k39 : Known 39 [stS] (I 0) := kns_ok (by kernel_rfl) dS
theorem k40 : Known 40 [cfC] (I 0) := kn_ok (by kernel_rfl)
theorem k41 : Known 41 [qQ] (I 0) := kn_ok (by kernel_rfl)
theorem k20 : Known 20 [qQ] (.a [I 2, .s 137 0 7 [], I 0]) := kn_ok (by kernel_rfl)
theorem all_js {p : Nat → Bool} (h : js.all p = true) (j : Nat) (hj : j < 6) : p j = true := by
  have := List.all_eq_true.1 h j (by simp [js]; omega)
  exact this
theorem all_jms {p : Nat × Int → Bool} (h : jms.all p = true) (j : Nat) (m : Int) (hj : j < 6) (h1 : 1 ≤ m) (h2 : m ≤ 20) : p (j, m) = true := by
  refine List.all_eq_true.1 h (j, m) ?_
  simp only [jms, List.mem_flatMap, List.mem_map]
  refine ⟨m, ?_, j, by simp [js]; omega, rfl⟩
  simp only [nums, List.mem_cons, List.not_mem_nil, or_false]
  omega
theorem k31 (j : Nat) (hj : j < 6) : Known 31 [Z (txt j)] (.t [.a (q0 j), .a [I 0, I 0]]) := kn_ok (all_js (p := fun j => knB 31 [Z (txt j)] (.t [.a (q0 j), .a [I 0, I 0]])) (by kernel_rfl) j hj)
theorem k33 (j : Nat) (hj : j < 6) : Known 33 [.a (q0 j)] (I 0) := kn_ok (all_js (p := fun j => knB 33 [.a (q0 j)] (I 0)) (by kernel_rfl) j hj)
theorem k35 (j : Nat) (hj : j < 6) : Known 35 [.a (q0 j)] (.t [li j, I 0]) := kn_ok (all_js (p := fun j => knB 35 [.a (q0 j)] (.t [li j, I 0])) (by kernel_rfl) j hj)
theorem k37 (j : Nat) (hj : j < 6) : Known 37 [.a (q0 j), U 1] (I 0) := kn_ok (all_js (p := fun j => knB 37 [.a (q0 j), U 1] (I 0)) (by kernel_rfl) j hj)
section
variable (j : Nat) (m : Int) (hj : j < 6) (h1 : 1 ≤ m) (h2 : m ≤ 20)
include hj h1 h2
theorem k38 : Known 38 [stS, I m, .a (q0 j), U 1, I 9] (.t [.a (x0 j m), I 0]) := kns_ok (all_jms (p := fun p => knS 38 [I p.2, .a (q0 p.1), U 1, I 9] (.t [.a (x0 p.1 p.2), I 0])) (by kernel_rfl) j m hj h1 h2) dS
theorem k73 : Known 73 [stS, .a (x0 j m)] (I 0) := kns_ok (all_jms (p := fun p => knS 73 [.a (x0 p.1 p.2)] (I 0)) (by kernel_rfl) j m hj h1 h2) dS
theorem k50 : Known 50 [.a (x0 j m)] (.a (x0 j m)) := kn_ok (all_jms (p := fun p => knB 50 [.a (x0 p.1 p.2)] (.a (x0 p.1 p.2))) (by kernel_rfl) j m hj h1 h2)
theorem k21 : Known 21 [.a (x0 j m)] (.a (x2 j m)) := kn_ok (all_jms (p := fun p => knB 21 [.a (x0 p.1 p.2)] (.a (x2 p.1 p.2))) (by kernel_rfl) j m hj h1 h2)
theorem k11 : Known 11 [.a (x2 j m), .a (x0 j m)] (B true) := kn_ok (all_jms (p := fun p => knB 11 [.a (x2 p.1 p.2), .a (x0 p.1 p.2)] (B true)) (by kernel_rfl) j m hj h1 h2)
end
end Go.Proofs.YtcibhglcmcgneaaGreatDoor
