/-
  The tree of what is known, and calls by it. No statement of this seat stands here.
-/
import Derived.Test.YtkpkmjanikkpoaaGreatDoorP14
namespace Go.Proofs.YtkpkmjanikkpoaaGreatDoor
open Go Go.Dt
set_option maxRecDepth 100000

noncomputable def mAll : List Memo := mA ++ m30 ++ m34 ++ m11 ++ m8 ++ m32 ++ m59 ++ m40
noncomputable def M0 : MTree := addAll mAll .e

noncomputable def eqM (o : Option Memo) (m : Memo) : Bool :=
  match o with
  | some x => Nat.beq x.f m.f && beqL x.args m.args && beqH x.heap m.heap && beqA x.val m.val && beqH x.res m.res
  | none => false
theorem eqM_ok {o : Option Memo} {m : Memo} (h : eqM o m = true) : o = some m := by
  cases o with
  | none => cases h
  | some x =>
    simp only [eqM, Bool.and_eq_true] at h
    obtain ⟨⟨⟨⟨h1, h2⟩, h3⟩, h4⟩, h5⟩ := h
    have e1 := Nat.eq_of_beq_eq_true h1
    have e2 := beqL_ok _ _ h2
    have e3 := beqH_ok h3
    have e4 := beqA_ok _ _ h4
    have e5 := beqH_ok h5
    cases x; cases m
    simp only at e1 e2 e3 e4 e5
    subst e1; subst e2; subst e3; subst e4; subst e5
    rfl

/-- what the call of a pure function on trees is -/
structure Known (f : FuncId) (ts : List Tt) (r : Tt) : Prop where
  pure : tab.pure f = true
  d1 : dTL ts ≤ 30
  d2 : dT r ≤ 30
  w : wT r = true
  find : findMemo f (mkMemo tab f ts r).args (mkMemo tab f ts r).heap (M0.get (pth f)) = some (mkMemo tab f ts r)
theorem Known.call {f : FuncId} {ts : List Tt} {r : Tt} (k : Known f ts r) {σ : St} (hM : σ.M = M0) {lo hi : Nat} {xs : List AV} (ha : DpL σ lo hi ts xs) :
    ∃ x σ', W f xs σ = .ok (.ret x, σ') ∧ Gw σ σ' ∧ Dp σ' σ.n σ'.n r x :=
  pureG k.pure ha k.d1 k.d2 k.w (by rw [hM]; exact k.find)

noncomputable def restB (f : FuncId) (ts : List Tt) (r : Tt) : Bool := tab.pure f && Nat.ble (dTL ts) 30 && Nat.ble (dT r) 30 && wT r
noncomputable def knB (f : FuncId) (ts : List Tt) (r : Tt) : Bool := restB f ts r && eqM (findMemo f (mkMemo tab f ts r).args (mkMemo tab f ts r).heap (M0.get (pth f))) (mkMemo tab f ts r)
noncomputable def knS (f : FuncId) (ts : List Tt) (r : Tt) : Bool := restB f ts r && eqM (findMemo f (mkS f ts r).args (mkS f ts r).heap (M0.get (pth f))) (mkS f ts r)
theorem kn_ok {f : FuncId} {ts : List Tt} {r : Tt} (h : knB f ts r = true) : Known f ts r := by
  simp only [knB, restB, Bool.and_eq_true] at h
  obtain ⟨⟨⟨⟨h1, h2⟩, h3⟩, h4⟩, h5⟩ := h
  exact ⟨h1, Nat.le_of_ble_eq_true h2, Nat.le_of_ble_eq_true h3, h4, eqM_ok h5⟩
theorem kns_ok {f : FuncId} {ts : List Tt} {r : Tt} (h : knS f ts r = true) (hd : dT stS ≤ 30) : Known f (stS :: ts) r := by
  simp only [knS, restB, Bool.and_eq_true] at h
  obtain ⟨⟨⟨⟨h1, h2⟩, h3⟩, h4⟩, h5⟩ := h
  refine ⟨h1, ?_, Nat.le_of_ble_eq_true h3, h4, by rw [mkS_eq]; exact eqM_ok h5⟩
  show max (dT stS) (dTL ts) ≤ 30
  have := Nat.le_of_ble_eq_true h2
  omega
theorem dS : dT stS ≤ 30 := Nat.le_of_ble_eq_true (by kernel_rfl)

theorem k4 : Known 4 [] t0C := kn_ok (by kernel_rfl)
theorem k5 : Known 5 [] stS := kn_ok (by kernel_rfl)
theorem k6 : Known 6 [] cfC := kn_ok (by kernel_rfl)
theorem k14 : Known 14 [] (B true) := kn_ok (by kernel_rfl)
theorem k55 : Known 55 [stS] (I 0) := kns_ok (by kernel_rfl) dS
theorem k41 : Known 41 [cf8] (I 0) := kn_ok (by kernel_rfl)
theorem all_jms {p : Nat × Int → Bool} (h : jms.all p = true) (j : Nat) (m : Int) (hj : j < 6) (h1 : 1 ≤ m) (h2 : m ≤ 4) : p (j, m) = true := by
  refine List.all_eq_true.1 h (j, m) ?_
  simp only [jms, List.mem_flatMap, List.mem_map]
  refine ⟨m, ?_, j, by simp [js]; omega, rfl⟩
  simp only [nums, List.mem_cons, List.not_mem_nil, or_false]
  omega
theorem all_jns {p : Nat × Nat → Bool} (h : jns.all p = true) (j n : Nat) (hj : j < 6) (hn : n < 4) : p (j, n) = true := by
  refine List.all_eq_true.1 h (j, n) ?_
  simp only [jns, List.mem_flatMap, List.mem_map]
  refine ⟨n, ?_, j, by simp [js]; omega, rfl⟩
  simp only [List.mem_cons, List.not_mem_nil, or_false]
  omega
theorem all_cts {p : Int → Bool} (h : cts.all p = true) (c : Int) (h1 : 1 ≤ c) (h2 : c ≤ 99) : p c = true := by
  refine List.all_eq_true.1 h c ?_
  simp only [cts, List.mem_map, List.mem_range]
  exact ⟨(c - 1).toNat, by omega, by omega⟩
section
variable (j : Nat) (m : Int) (hj : j < 6) (h1 : 1 ≤ m) (h2 : m ≤ 4)
include hj h1 h2
theorem k30 : Known 30 [stS, .a (x0 j m)] (I 0) := kns_ok (all_jms (p := fun p => knS 30 [.a (x0 p.1 p.2)] (I 0)) (by kernel_rfl) j m hj h1 h2) dS
theorem k34 : Known 34 [.a (x0 j m)] (.a (x0 j m)) := kn_ok (all_jms (p := fun p => knB 34 [.a (x0 p.1 p.2)] (.a (x0 p.1 p.2))) (by kernel_rfl) j m hj h1 h2)
theorem k11 : Known 11 [.a (x0 j m), .a (x0 j m)] (B true) := kn_ok (all_jms (p := fun p => knB 11 [.a (x0 p.1 p.2), .a (x0 p.1 p.2)] (B true)) (by kernel_rfl) j m hj h1 h2)
end
theorem k8 (j n : Nat) (hj : j < 6) (hn : n < 4) : Known 8 [stS, cf8, tT (n : Int) (chQ j n), Z (txt ((j + n) % 6))] (.t [tT ((n + 1 : Nat) : Int) (chQ j (n + 1)), I ((n + 1 : Nat) : Int), .a [I 0, I 0]]) :=
  kns_ok (all_jns (p := fun p => knS 8 [cf8, tT (p.2 : Int) (chQ p.1 p.2), Z (txt ((p.1 + p.2) % 6))] (.t [tT ((p.2 + 1 : Nat) : Int) (chQ p.1 (p.2 + 1)), I ((p.2 + 1 : Nat) : Int), .a [I 0, I 0]])) (by kernel_rfl) j n hj hn) dS
section
variable (c : Int) (h1 : 1 ≤ c) (h2 : c ≤ 99)
include h1 h2
theorem k32 : Known 32 [itT c] (I 0) := kn_ok (all_cts (p := fun c => knB 32 [itT c] (I 0)) (by kernel_rfl) c h1 h2)
theorem k59 : Known 59 [itT c] (itT c) := kn_ok (all_cts (p := fun c => knB 59 [itT c] (itT c)) (by kernel_rfl) c h1 h2)
theorem k40 : Known 40 [itT c, itT c] (B true) := kn_ok (all_cts (p := fun c => knB 40 [itT c, itT c] (B true)) (by kernel_rfl) c h1 h2)
end
end Go.Proofs.YtkpkmjanikkpoaaGreatDoor
