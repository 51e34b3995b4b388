/-
  A region that draws its order: the invariant. No statement of this seat stands here.
-/
import Derived.Test.YtolakgfoodndpaaGreatDoorDtInv
import Derived.Orders
namespace Go.Dt

def lst (listed : Array Bool) (i : Nat) : Bool := listed.getD i false

theorem lst_set {listed : Array Bool} {i : Nat} (hi : i < listed.size) (j : Nat) : lst (listed.setIfInBounds i true) j = (lst listed j || j == i) := by
  unfold lst
  by_cases h : i = j
  · subst h; simp [hi]
  · have h' : (j == i) = false := by simpa using fun e => h e.symm
    simp [Array.getElem?_setIfInBounds_ne h, h']

theorem lst_lt {listed : Array Bool} {i : Nat} (h : lst listed i = true) : i < listed.size := by
  unfold lst at h
  rcases Nat.lt_or_ge i listed.size with h' | h'
  · exact h'
  · simp [Array.getElem?_eq_none h'] at h

/- the marks rest on edges -/
theorem beq_dec (a b : Nat) : Nat.beq a b = decide (a = b) := by
  by_cases h : a = b
  · subst h; simp
  · have : Nat.beq a b = false := by
      cases hb : Nat.beq a b with
      | false => rfl
      | true => exact (h (Nat.eq_of_beq_eq_true hb)).elim
    simp [h, this]
theorem blt_dec (a b : Nat) : Nat.blt a b = decide (a < b) := by
  by_cases h : a < b
  · simp [h, Nat.blt, Nat.ble_eq_true_of_le h]
  · have : Nat.blt a b = false := by
      cases hb : Nat.blt a b with
      | false => rfl
      | true => exact (h (by simpa [Nat.blt_eq] using hb)).elim
    simp [h, this]

theorem bitOf_eq (m i : Nat) : bitOf m i = m.testBit i := by
  unfold bitOf Nat.testBit
  rw [beq_dec]
  have h1 : Nat.land (Nat.shiftRight m i) 1 = 1 &&& (m >>> i) := Nat.and_comm _ _
  rw [h1]
  have h2 : 1 &&& (m >>> i) = (m >>> i) % 2 := by rw [Nat.and_comm]; exact Nat.and_one_is_mod _
  rw [h2]
  rcases Nat.mod_two_eq_zero_or_one (m >>> i) with h | h <;> simp [h]

theorem nthN_eq : ∀ (l : List Nat) (i : Nat), nthN l i = l.getD i 0
  | [], i => rfl
  | x :: l, 0 => rfl
  | x :: l, i + 1 => by
    have : nthN (x :: l) (i + 1) = nthN l i := rfl
    rw [this, nthN_eq l i]
    simp

theorem edgesM_spec {acc : List Nat} {k i : Nat} : ∀ {l : List Edge}, (edgesM acc k l).testBit i = true →
    ∃ e, e ∈ l ∧ Region.binds .any e = true ∧ (e.on = i ∨ (e.on < k ∧ (acc.getD (k - 1 - e.on) 0).testBit i = true))
  | [], h => by simp [edgesM] at h
  | e :: l, h => by
    unfold edgesM at h
    cases hb : Region.binds .any e with
    | false =>
      rw [hb] at h
      obtain ⟨e', h1, h2⟩ := edgesM_spec (l := l) h
      exact ⟨e', List.mem_cons_of_mem _ h1, h2⟩
    | true =>
      rw [hb] at h
      simp only [cond_true] at h
      have h' : ((((1 <<< e.on) ||| (bif Nat.blt e.on k then nthN acc (Nat.sub (Nat.sub k 1) e.on) else 0)) ||| edgesM acc k l) : Nat).testBit i = true := h
      rw [Nat.testBit_or, Nat.testBit_or, Bool.or_eq_true, Bool.or_eq_true] at h'
      rcases h' with (h1 | h1) | h1
      · refine ⟨e, by simp, hb, .inl ?_⟩
        rw [Nat.one_shiftLeft, Nat.testBit_two_pow] at h1
        exact of_decide_eq_true h1
      · rw [blt_dec] at h1
        by_cases hlt : e.on < k
        · simp only [hlt, decide_true, cond_true] at h1
          rw [nthN_eq] at h1
          exact ⟨e, by simp, hb, .inr ⟨hlt, h1⟩⟩
        · simp [hlt] at h1
      · obtain ⟨e', h2, h3⟩ := edgesM_spec (l := l) h1
        exact ⟨e', List.mem_cons_of_mem _ h2, h3⟩

theorem befL_spec (i : Nat) : ∀ (l : List Oper) (acc : List Nat) (k : Nat), acc.length = k → ∀ j o, l[j]? = some o → ((befL l acc k).getD j 0).testBit i = true →
    ∃ e, e ∈ o.after ∧ Region.binds .any e = true ∧ (e.on = i ∨ ((acc.reverse ++ befL l acc k).getD e.on 0).testBit i = true)
  | [], _, _, _, j, o, h, _ => by simp at h
  | o :: l, acc, k, hk, 0, o', ho, hb => by
    simp only [List.getElem?_cons_zero, Option.some.injEq] at ho
    subst ho
    have hb' : (edgesM acc k o.after.toList).testBit i = true := by simpa [befL] using hb
    obtain ⟨e, h1, h2, h3⟩ := edgesM_spec hb'
    refine ⟨e, by simpa using h1, h2, h3.imp id fun ⟨hlt, h4⟩ => ?_⟩
    have hl : e.on < acc.reverse.length := by rw [List.length_reverse, hk]; exact hlt
    have : (acc.reverse ++ befL (o :: l) acc k).getD e.on 0 = acc.getD (k - 1 - e.on) 0 := by
      rw [List.getD_eq_getElem?_getD, List.getD_eq_getElem?_getD, List.getElem?_append_left hl, List.getElem?_reverse (by rwa [List.length_reverse] at hl), hk]
    rw [this]
    exact h4
  | o :: l, acc, k, hk, j + 1, o', ho, hb => by
    simp only [List.getElem?_cons_succ] at ho
    have hb' : ((befL l (edgesM acc k o.after.toList :: acc) (k + 1)).getD j 0).testBit i = true := by simpa [befL] using hb
    obtain ⟨e, h1, h2, h3⟩ := befL_spec i l (edgesM acc k o.after.toList :: acc) (k + 1) (by simp [hk]) j o' ho hb'
    refine ⟨e, h1, h2, h3.imp id fun h4 => ?_⟩
    have : acc.reverse ++ befL (o :: l) acc k = (edgesM acc k o.after.toList :: acc).reverse ++ befL l (edgesM acc k o.after.toList :: acc) (k + 1) := by
      simp [befL]
    rw [this]
    exact h4

theorem marks_before (ops : Array Oper) : marksOk ops (befA ops) = true := by
  simp only [marksOk, idxs, List.all_eq_true, List.mem_range]
  intro j hj i hi
  by_cases h : isBefore (befA ops) i j = true
  · have ho : ops.toList[j]? = some ops[j] := by simp [hj]
    unfold isBefore befA at h
    have h' : ((befL ops.toList [] 0).getD j 0).testBit i = true := by simpa using h
    obtain ⟨e, he, hbi, h4⟩ := befL_spec i ops.toList [] 0 rfl j _ ho h'
    have ho' : ops[j]? = some ops[j] := by simp [hj]
    rw [ho']
    simp only [Bool.or_eq_true]
    right
    refine List.any_eq_true.2 ⟨e, by simpa using he, ?_⟩
    simp only [Bool.and_eq_true, Bool.or_eq_true, beq_iff_eq]
    refine ⟨hbi, h4.imp id fun h5 => ?_⟩
    unfold isBefore befA
    simpa using h5
  · simp [h]

def Cl (ops : Array Oper) (b : Array Nat) (listed : Array Bool) : Prop := ∀ i j, i < ops.size → lst listed j = true → isBefore b i j = true → lst listed i = true

section
variable {ops : Array Oper} {m : Nat} {b : Array Nat} {listed : Array Bool}

theorem marks_spec (hm : marksOk ops b = true) {i j : Nat} (hi : i < ops.size) (hj : j < ops.size) (h : isBefore b i j = true) :
    ∃ o e, ops[j]? = some o ∧ e ∈ o.after ∧ Region.binds .any e = true ∧ (e.on = i ∨ isBefore b i e.on = true) := by
  simp only [marksOk, idxs, List.all_eq_true, List.mem_range] at hm
  have := hm j hj i hi
  rw [h] at this
  simp only [Bool.not_true, Bool.false_or] at this
  split at this
  · rename_i o ho
    obtain ⟨e, he, h2⟩ := List.any_eq_true.1 this
    simp only [Bool.and_eq_true, Bool.or_eq_true, beq_iff_eq] at h2
    exact ⟨o, e, ho, by simpa using he, h2.1, h2.2⟩
  · cases this

theorem ready_lst {j : Nat} (h : j ∈ Region.ready .any ops listed) (hsz : listed.size = ops.size) : j < ops.size ∧ lst listed j = false := by
  obtain ⟨h0, o, ho, _⟩ := mem_ready.1 h
  have hj : j < ops.size := (Array.getElem?_eq_some_iff.1 ho).1
  refine ⟨hj, ?_⟩
  unfold lst
  have : j < listed.size := by omega
  simp [this] at h0 ⊢
  exact h0

theorem ready_before (hm : marksOk ops b = true) (hc : Cl ops b listed) (hsz : listed.size = ops.size) {i j : Nat} (hj : j ∈ Region.ready .any ops listed) (hi : i < ops.size)
    (h : isBefore b i j = true) : lst listed i = true := by
  have hj' := (ready_lst hj hsz).1
  obtain ⟨_, o, ho, hall⟩ := mem_ready.1 hj
  obtain ⟨o', e, ho', he, hb, hor⟩ := marks_spec hm hi hj' h
  rw [ho] at ho'; cases ho'
  have hl : lst listed e.on = true := hall e he hb
  rcases hor with h1 | h1
  · rw [← h1]; exact hl
  · exact hc i e.on hi hl h1

theorem Cl.set (hc : Cl ops b listed) (hm : marksOk ops b = true) (hsz : listed.size = ops.size) {j : Nat} (hj : j ∈ Region.ready .any ops listed) : Cl ops b (listed.setIfInBounds j true) := by
  have hj' := (ready_lst hj hsz).1
  intro i x hi hx h
  rw [lst_set (by omega)] at hx ⊢
  rw [Bool.or_eq_true] at hx ⊢
  left
  rcases hx with hx | hx
  · exact hc i x hi hx h
  · rw [beq_iff_eq] at hx; subst hx
    exact ready_before hm hc hsz hj hi h

/- what the static check says of the plan's head -/
structure Head (ops : Array Oper) (m : Nat) (b : Array Nat) (as : List Nat) (seen : List Nat) (it : PlanItem) (rest : List PlanItem) (o : Oper) : Prop where
  ho : ops[it.i]? = some o
  lt : it.i < m
  nosel : ∀ cs d, o.op ≠ .select cs d
  new : it.i ∉ seen
  top : ∀ e, e ∈ o.after → Region.binds .any e = true → e.on ∈ seen
  first : ∀ a, firstAct rest = some a → isBefore b it.i a = true
  lo : it.lo = 0 ∨ ∃ a, as[it.lo - 1]? = some a ∧ isBefore b a it.i = true
  looks : ∀ t, t ∈ looksAt ops o → writes ops (it :: rest) t = false ∧ ∀ j, j < m → dstAt ops j = some t → isBefore b j it.i = true
  dst : ∀ d, o.dst = some d → writes ops rest d = false

theorem chk_head {as seen : List Nat} {it : PlanItem} {rest : List PlanItem} (h : planChk ops m b as seen (it :: rest) = true) :
    (∃ o, Head ops m b as seen it rest o) ∧ planChk ops m b as (it.i :: seen) rest = true := by
  simp only [planChk, Bool.and_eq_true] at h
  refine ⟨?_, h.2⟩
  have h1 := h.1
  split at h1
  · cases h1
  · rename_i o ho
    simp only [Bool.and_eq_true, Bool.not_eq_true', List.all_eq_true, Bool.or_eq_true] at h1
    obtain ⟨⟨⟨⟨⟨⟨⟨h0, h1⟩, h2⟩, h3⟩, h4⟩, h5⟩, h6⟩, h7⟩ := h1
    refine ⟨o, ho, by simpa [Nat.blt_eq] using h0, ?_, ?_, ?_, ?_, ?_, ?_, ?_⟩
    · intro cs d e; rw [e] at h1; simp [isSelect] at h1
    · simpa using h2
    · intro e he hb
      rcases h3 e (by simpa using he) with h | h
      · rw [hb] at h; cases h
      · simpa using h
    · intro a ha; rw [ha] at h4; exact h4
    · rcases h5 with h | h
      · left; simpa using h
      · right
        split at h
        · rename_i a ha; exact ⟨a, ha, h⟩
        · cases h
    · intro t ht
      refine ⟨by simpa using (h6 t ht).1, fun j hj hd => ?_⟩
      have := (h6 t ht).2
      simp only [List.mem_range] at this
      rcases this j hj with h | h
      · rw [hd] at h; simp at h
      · exact h
    · intro d hd; rw [hd] at h7; simpa using h7

theorem chk_new {as : List Nat} : ∀ {rest : List PlanItem} {seen : List Nat}, planChk ops m b as seen rest = true → ∀ it, it ∈ rest → it.i ∉ seen := by
  intro rest
  induction rest with
  | nil => intro seen _ it hm; simp at hm
  | cons x rest ih =>
    intro seen h it hm
    obtain ⟨⟨o, hh⟩, h2⟩ := chk_head h
    rcases List.mem_cons.1 hm with rfl | hm
    · exact hh.new
    · intro hs; exact ih h2 it hm (List.mem_cons_of_mem _ hs)

theorem chk_ssa {as : List Nat} : ∀ {rest : List PlanItem} {seen : List Nat}, planChk ops m b as seen rest = true → ssa ops rest := by
  intro rest
  induction rest with
  | nil => intro seen _; trivial
  | cons x rest ih =>
    intro seen h
    obtain ⟨⟨o, hh⟩, h2⟩ := chk_head h
    refine ⟨fun it' hm e => chk_new h2 it' hm (e ▸ List.mem_cons_self), fun o' ho' => ?_, ih h2⟩
    rw [hh.ho] at ho'; cases ho'
    exact ⟨fun t ht => (hh.looks t ht).1, hh.dst⟩

theorem ssa_inj : ∀ {rest : List PlanItem}, ssa ops rest → ∀ {x y : PlanItem}, x ∈ rest → y ∈ rest → x.i = y.i → x = y := by
  intro rest
  induction rest with
  | nil => intro _ x y hx; simp at hx
  | cons z rest ih =>
    intro h x y hx hy he
    rcases List.mem_cons.1 hx with rfl | hx1
    · rcases List.mem_cons.1 hy with rfl | hy1
      · rfl
      · exact (h.1 y hy1 he.symm).elim
    · rcases List.mem_cons.1 hy with rfl | hy1
      · exact (h.1 x hx1 he).elim
      · exact ih h.2.2 hx1 hy1 he

/-- the head's facts, for a member -/
theorem chk_mem {as : List Nat} : ∀ {rest : List PlanItem} {seen : List Nat}, planChk ops m b as seen rest = true → ∀ it, it ∈ rest → ∃ o seen' rest', Head ops m b as seen' it rest' o := by
  intro rest
  induction rest with
  | nil => intro seen _ it hm; simp at hm
  | cons x rest ih =>
    intro seen h it hm
    obtain ⟨⟨o, hh⟩, h2⟩ := chk_head h
    rcases List.mem_cons.1 hm with rfl | hm
    · exact ⟨o, seen, rest, hh⟩
    · exact ih h2 it hm

theorem chk_chain {as : List Nat} {it : PlanItem} (ha : it.act = true) : ∀ {rest : List PlanItem} {seen : List Nat}, planChk ops m b as seen rest = true → it ∈ rest →
    firstAct rest = some it.i ∨ ∃ p, p ∈ rest ∧ p.act = true ∧ isBefore b p.i it.i = true := by
  intro rest
  induction rest with
  | nil => intro seen _ hm; simp at hm
  | cons x rest ih =>
    intro seen h hm
    obtain ⟨⟨o, hh⟩, h2⟩ := chk_head h
    cases hx : x.act with
    | true =>
      rcases List.mem_cons.1 hm with rfl | hm
      · left; simp [firstAct, hx]
      · rcases ih h2 hm with h3 | ⟨p, hp, h3⟩
        · exact .inr ⟨x, List.mem_cons_self, hx, hh.first _ h3⟩
        · exact .inr ⟨p, List.mem_cons_of_mem _ hp, h3⟩
    | false =>
      rcases List.mem_cons.1 hm with rfl | hm
      · rw [ha] at hx; cases hx
      · rcases ih h2 hm with h3 | ⟨p, hp, h3⟩
        · left; simpa [firstAct, hx] using h3
        · exact .inr ⟨p, List.mem_cons_of_mem _ hp, h3⟩

end

def Live (σ : St) (al : List Alc) (listed : Array Bool) (b : Nat) : Prop := b < σ.n ∨ ∃ e, e ∈ al ∧ lst listed e.1 = true ∧ e.2.1 = b

structure Pend (σ : St) (al : List Alc) (listed : Array Bool) (ι : Nat → Loc) (w : World) (base : Nat) (e : Alc) : Prop where
  rep : ORep ι (Live σ al listed) e.2.2 (ι e.2.1) w
  bnd : bndO (e.2.1 + 1) e.2.2 = true
  base : base ≤ (ι e.2.1).block
  apart : ∀ b, b < σ.n → σ.getO b ≠ .gone → (ι b).block ≠ (ι e.2.1).block

/-- what stays the same -/
structure Env where
  D : Tab
  P : Program
  call : CallT
  round : RoundT
  isRound : Bool
  X : Ctx
  b : Frame
  ops : Array Oper
  m : Nat
  as : List Nat
  Te : List AV
  dsE : List ADef
  panE : Pan
  σE : St
  ι0 : Nat → Loc
  σ0 : St
  w0 : World

structure DInv (V : Env) (listed : Array Bool) (rest : List PlanItem) (seen : List Nat) (s : St) (old : List St) (T : List AV) (ds : List ADef) (pan : Pan) (σ : St) (al : List Alc)
    (ι : Nat → Loc) (w : World) (M : Array Value) : Prop where
  tr : Tr V.D V.call V.round V.isRound V.ops V.Te V.dsE V.panE V.σE rest (s :: old) T ds pan σ al
  chk : planChk V.ops V.m (befA V.ops) V.as seen rest = true
  acts : (rest.filter (·.act)).map (·.i) = V.as.drop old.length
  sz : listed.size = V.ops.size
  cl : Cl V.ops (befA V.ops) listed
  seenL : ∀ j, j ∈ seen → lst listed j = true
  cov : ∀ i, i < V.m → i ∈ seen ∨ ∃ it, it ∈ rest ∧ it.i = i
  un : ∀ it, it ∈ rest → it.act = true → lst listed it.i = false
  rep : Rep V.D ι σ w
  ext : Ext V.ι0 V.σ0 V.w0 ι σ w
  msz : M.size = V.Te.length
  val : ∀ t v, V.Te[t]? = some v → (∀ it, it ∈ rest → lst listed it.i = false → dstAt V.ops it.i ≠ some t) → M[t]? = some (conc ι v) ∧ ids ι (Live σ al listed) v
  pend : ∀ e, e ∈ al → lst listed e.1 = true → Pend σ al listed ι w V.w0.heap.size e
  sep : ∀ e e', e ∈ al → e' ∈ al → lst listed e.1 = true → lst listed e'.1 = true → e.2.1 ≠ e'.2.1 → (ι e.2.1).block ≠ (ι e'.2.1).block
  fit : V.X.fits pan
  ds : idsDs ι (· < σ.n) ds
  pan : idsPan ι (· < σ.n) pan

section
variable {V : Env} {listed : Array Bool} {rest : List PlanItem} {seen : List Nat} {s : St} {old : List St} {T : List AV} {ds : List ADef} {pan : Pan} {σ : St} {al : List Alc}
  {ι : Nat → Loc} {w : World} {M : Array Value}

/-- what a ready operation looks at -/
structure Looks (V : Env) (σ : St) (al : List Alc) (listed : Array Bool) (ι : Nat → Loc) (M : Array Value) (o : Oper) (T : List AV) : Prop where
  ev : Go.execOp (evT M) o = Go.execOp (fun x => conc ι (evalO V.D T x)) o
  ids : ∀ x, x ∈ o.op.operands → Dt.ids ι (Live σ al listed) (evalO V.D T x)
  wanted : Region.wanted o (yielded V.ops M) = wantedA V.ops o T

theorem DInv.looks (I : DInv V listed rest seen s old T ds pan σ al ι w M) (hm : marksOk V.ops (befA V.ops) = true) {it : PlanItem} (hit : it ∈ rest) (hr : it.i ∈ Region.ready .any V.ops listed)
    {o : Oper} (ho : V.ops[it.i]? = some o) {T' : List AV} (hT : ∀ t, t ∈ looksAt V.ops o → T'[t]? = V.Te[t]?) : Looks V σ al listed ι M o T' := by
  obtain ⟨o', seen', rest', hh⟩ := chk_mem I.chk it hit
  rw [hh.ho] at ho; cases ho
  have key : ∀ t, t ∈ looksAt V.ops o → ∀ v, T'[t]? = some v → M[t]? = some (conc ι v) ∧ ids ι (Live σ al listed) v := by
    intro t ht v hv
    rw [hT t ht] at hv
    refine I.val t v hv fun it' hm' hl' hd' => ?_
    have hlt : it'.i < V.ops.size := by
      unfold dstAt at hd'
      cases hx : V.ops[it'.i]? with
      | none => rw [hx] at hd'; cases hd'
      | some _ => exact (Array.getElem?_eq_some_iff.1 hx).1
    obtain ⟨_, _, _, hh'⟩ := chk_mem I.chk it' hm'
    have := ready_before hm I.cl I.sz hr hlt ((hh.looks t ht).2 it'.i hh'.lt hd')
    rw [hl'] at this; cases this
  have keyN : ∀ t, t ∈ looksAt V.ops o → T'[t]? = none → M[t]? = none := by
    intro t ht hv
    rw [hT t ht, List.getElem?_eq_none_iff] at hv
    exact Array.getElem?_eq_none (by rw [I.msz]; exact hv)
  have tm : ∀ t, (Operand.tmp t) ∈ o.op.operands → t ∈ looksAt V.ops o := fun t ht =>
    List.mem_append_left _ (List.mem_filterMap.2 ⟨.tmp t, by simpa using ht, rfl⟩)
  refine ⟨execOp_congr o hh.nosel fun x hx => ?_, fun x hx => ?_, ?_⟩
  · cases x with
    | tmp t =>
      have ht := tm t hx
      simp only [evT, evalO, Array.getD_eq_getD_getElem?, List.getD_eq_getElem?_getD]
      cases hv : T'[t]? with
      | none => rw [keyN t ht hv]; simp
      | some v => rw [(key t ht v hv).1]; simp
    | const v => simp [evT, evalO]
    | global g =>
      simp only [evT, evalO]
      split
      · rename_i hg
        have := I.rep.gloc g hg
        simp [conc, Loc.at, this.1, this.2]
      · simp [conc]
    | func f => simp [evT, evalO, conc, concL]
  · cases x with
    | tmp t =>
      have ht := tm t hx
      simp only [evalO, List.getD_eq_getElem?_getD]
      cases hv : T'[t]? with
      | none => simpa using ids_undef ι _
      | some v => simpa using (key t ht v hv).2
    | const v => exact ids_ofConst ι _ v
    | global g =>
      simp only [evalO]
      split
      · rename_i hg; exact .inl (I.rep.glob_lt g hg)
      · trivial
    | func f => simp [evalO, Dt.ids, idsL]
  · unfold Region.wanted wantedA
    cases hg : o.guard with
    | none => rfl
    | some p =>
      obtain ⟨g, want⟩ := p
      have : yielded V.ops M g = yieldedA V.ops T' g := by
        rw [← yielded_conc ι]
        unfold yielded
        cases ht : (V.ops[g]?).bind (·.dst) with
        | none => rfl
        | some t =>
          have hl : t ∈ looksAt V.ops o := List.mem_append_right _ (by simp [hg, ht])
          simp only [Option.bind_some, List.getElem?_toArray, concL_getElem?]
          cases hv : T'[t]? with
          | none => rw [keyN t hl hv]; simp
          | some v => rw [(key t hl v hv).1]; simp
      simp only [this]

/-- an operation that is no act has been listed -/
theorem DInv.inert (I : DInv V listed rest seen s old T ds pan σ al ι w M) (hm : marksOk V.ops (befA V.ops) = true) {it : PlanItem} (hit : it ∈ rest) (hr : it.i ∈ Region.ready .any V.ops listed)
    (hna : it.act = false) {o : Oper} (ho : V.ops[it.i]? = some o) {v : AV} (hv : ∀ d, o.dst = some d → d < V.Te.length → V.Te[d]? = some v) {ι' : Nat → Loc} {w' : World}
    (hk : ∀ b, Live σ al listed b → Live σ al (listed.setIfInBounds it.i true) b ∧ ι' b = ι b) (R : Rep V.D ι' σ w') (E : Ext V.ι0 V.σ0 V.w0 ι' σ w')
    (hid : ids ι' (Live σ al (listed.setIfInBounds it.i true)) v)
    (hp : ∀ e, e ∈ al → lst (listed.setIfInBounds it.i true) e.1 = true → Pend σ al (listed.setIfInBounds it.i true) ι' w' V.w0.heap.size e)
    (hs : ∀ e e', e ∈ al → e' ∈ al → lst (listed.setIfInBounds it.i true) e.1 = true → lst (listed.setIfInBounds it.i true) e'.1 = true → e.2.1 ≠ e'.2.1 → (ι' e.2.1).block ≠ (ι' e'.2.1).block) :
    DInv V (listed.setIfInBounds it.i true) rest seen s old T ds pan σ al ι' w' (putV M o.dst (conc ι' v)) := by
  have hlt := (ready_lst hr I.sz).1
  have hset := fun j => lst_set (listed := listed) (i := it.i) (by rw [I.sz]; exact hlt) j
  have hkn : ∀ b, b < σ.n → b < σ.n ∧ ι' b = ι b := fun b hb => ⟨hb, (hk b (.inl hb)).2⟩
  refine { tr := I.tr, chk := I.chk, acts := I.acts, sz := by simpa using I.sz, cl := I.cl.set hm I.sz hr, seenL := fun j hj => by rw [hset, I.seenL j hj]; rfl, cov := I.cov,
           un := fun it' hm' ha' => ?_, rep := R, ext := E, msz := ?_, val := fun t v' hv' hno => ?_, pend := hp, sep := hs,
           ds := idsDs_mono hkn I.ds, pan := idsPan_mono hkn pan I.pan, fit := I.fit }
  · rw [hset, I.un it' hm' ha', Bool.false_or]
    simp only [beq_eq_false_iff_ne]
    intro he
    have hsame : it' = it := ssa_inj (chk_ssa I.chk) hm' hit he
    rw [hsame, hna] at ha'; cases ha'
  · rw [← I.msz]; unfold putV; split <;> simp
  · by_cases hd : o.dst = some t
    · have htl : t < V.Te.length := (List.getElem?_eq_some_iff.1 hv').1
      have := hv t hd htl
      rw [hv'] at this; cases this
      refine ⟨?_, hid⟩
      rw [hd]; simp only [putV]
      rw [Array.getElem?_setIfInBounds_self_of_lt (by rw [I.msz]; exact htl)]
    · have h1 := I.val t v' hv' fun it' hm' hl' hd' => ?_
      · refine ⟨?_, ids_mono hk v' h1.2⟩
        have hM : (putV M o.dst (conc ι' v))[t]? = M[t]? := by
          unfold putV
          split
          · rename_i d hd'
            exact Array.getElem?_setIfInBounds_ne fun e => hd (by rw [hd', e])
          · rfl
        rw [hM, h1.1, conc_agree (fun b hb => (hk b hb).2) v' h1.2]
      · by_cases he : it'.i = it.i
        · rw [he, dstAt_eq ho] at hd'; exact hd hd'
        · refine hno it' hm' ?_ hd'
          rw [hset, hl']; simpa using he

end
end Go.Dt
