/- The plain laws: what the functions compute answers as the statement says. -/
import Derived.Test.YtkgeojjgcffebaaReachedFS
import Derived.Test.YtkgeojjgcffebaaReachedF0
import Derived.Test.YtkgeojjgcffebaaReachedF1
import Derived.Test.YtkgeojjgcffebaaReachedF2
import Derived.Test.YtkgeojjgcffebaaReachedF3
import Derived.Laws.BitsLemmas
set_option linter.unusedVariables false
set_option linter.unusedSimpArgs false
set_option linter.unusedSectionVars false
/- Plain laws: whole numbers that do not go round, loops that count. -/
namespace Go.Eng
theorem w64_id {n : Int} (h0 : -9223372036854775808 ≤ n) (h1 : n < 9223372036854775808) : w64 n = n := by
  show IntKind.wrap .i64 n = n
  rw [IntKind.wrap_i64]; omega
theorem ite_bool {α : Type} (b : Bool) (x y : α) : cond b x y = if b = true then x else y := by cases b <;> rfl
section
variable {σ τ κ : Type}
def rndOf (o : Option κ) (s : σ) : Rnd σ τ κ := match o with | some k => .ret k | none => .again s
def endOf (o : Option κ) (t : τ) : τ ⊕ κ := match o with | some k => .inr k | none => .inl t
/-- A loop that counts, and may return. -/
theorem runL_for (step : σ → Option (Rnd σ τ κ)) (st : Nat → σ) (N : Nat) (stop : Nat → Option κ) (t : τ) (hs : ∀ i, i < N → (∀ j, j < i → stop j = none) → step (st i) = some (rndOf (stop i) (st (i + 1))))
    (he : (∀ j, j < N → stop j = none) → step (st N) = some (.exit t)) : runL step (st 0) = some (endOf ((List.range N).findSome? stop) t) := by
  have key : ∀ m i, i + m = N → (∀ j, j < i → stop j = none) → runL step (st i) = some (endOf ((List.range' i m).findSome? stop) t) := by
    intro m
    induction m with
    | zero =>
      intro i hi hj
      have : i = N := by omega
      subst this
      rw [runL_eq, he hj]
      rfl
    | succ m ih =>
      intro i hi hj
      rw [runL_eq, hs i (by omega) hj, List.range'_succ, List.findSome?_cons]
      cases hk : stop i with
      | some k => rfl
      | none =>
        simp only [Option.bind_some, rndE]
        exact ih (i + 1) (by omega) fun j hlt => by
          by_cases e : j = i
          · subst e; exact hk
          · exact hj j (by omega)
  have := key N 0 (by omega) (fun j h => by omega)
  rw [this, List.range_eq_range']
/-- ... that returns nothing. -/
theorem runX_for (step : σ → Option (Rnd σ τ Unit)) (st : Nat → σ) (N : Nat) (t : τ) (hs : ∀ i, i < N → step (st i) = some (.again (st (i + 1)))) (he : step (st N) = some (.exit t)) : runX step (st 0) = some t := by
  have key : ∀ m i, i + m = N → runX step (st i) = some t := by
    intro m
    induction m with
    | zero => intro i hi; have : i = N := by omega
              subst this; rw [runX_eq, he]; rfl
    | succ m ih =>
      intro i hi
      rw [runX_eq, hs i (by omega)]
      exact ih (i + 1) (by omega)
  exact key N 0 (by omega)
/-- All rounds go on: nothing is returned. -/
theorem runL_thru (step : σ → Option (Rnd σ τ κ)) (st : Nat → σ) (N : Nat) (t : τ) (hs : ∀ i, i < N → step (st i) = some (.again (st (i + 1)))) (he : step (st N) = some (.exit t)) : runL step (st 0) = some (.inl t) := by
  rw [runL_for step st N (fun _ => none) t (fun i h _ => hs i h) (fun _ => he)]
  have : (List.range N).findSome? (fun _ => (none : Option κ)) = none := by simp
  rw [this]; rfl
end
theorem getD_lt {α : Type} {xs : List α} {i : Nat} {d : α} (h : i < xs.length) : xs.getD i d = xs[i] := by
  rw [List.getD_eq_getElem?_getD, List.getElem?_eq_getElem h]; rfl
/-- A row that is filled from the front. -/
theorem fill_step {α : Type} (l r : List α) {i : Nat} (hl : i < l.length) (hr : r.length = l.length) (d : α) : (l.take i ++ r.drop i).set i (l.getD i d) = l.take (i + 1) ++ r.drop (i + 1) := by
  apply List.ext_getElem?
  intro j
  rw [getD_lt hl, List.getElem?_set]
  have e1 : (l.take i).length = i := by simp; omega
  have e2 : (l.take (i + 1)).length = i + 1 := by simp; omega
  by_cases hji : i = j
  · subst hji
    rw [if_pos rfl, if_pos (by simp; omega), List.getElem?_append_left (by omega), List.getElem?_take, if_pos (by omega), List.getElem?_eq_getElem hl]
  · rw [if_neg hji]
    by_cases h : j < i
    · rw [List.getElem?_append_left (by omega), List.getElem?_append_left (by omega), List.getElem?_take, List.getElem?_take, if_pos h, if_pos (by omega)]
    · rw [List.getElem?_append_right (by omega), List.getElem?_append_right (by omega), e1, e2, List.getElem?_drop, List.getElem?_drop]
      congr 1; omega
end Go.Eng
/- Plain laws of bounds, keys, words, memories: the program's and the reference's. -/
set_option linter.unusedSimpArgs false
namespace Go.Eng
def bOk (a b : Int) : Bool := decide (0 ≤ a) && decide (a ≤ b) && decide (b ≤ 4096)
theorem bOk_iff {a b : Int} : bOk a b = true ↔ 0 ≤ a ∧ a ≤ b ∧ b ≤ 4096 := by
  simp [bOk, and_assoc]
theorem in_eq (x a b : Int) : impl_in x a b = some (decide (a ≤ x) && decide (x ≤ b)) := by
  simp only [impl_in, impl_in_K, ite_bool, beq_true, decide_eq_true_eq, ge_iff_le]
  by_cases h : a ≤ x <;> simp [h]
theorem l1In_eq (x a b : Int) : spec_l1In x a b = some (decide (a ≤ x) && decide (x ≤ b)) := by
  simp only [spec_l1In, spec_l1In_K, ite_bool, beq_true, decide_eq_true_eq, ge_iff_le]
  by_cases h : a ≤ x <;> simp [h]
theorem iBounds (a b : Int) : impl_BoundsOk a b = some (bOk a b) := by
  simp only [impl_BoundsOk, impl_BoundsOk_K, in_eq, Option.bind_some, ite_bool, beq_true, bOk]
  by_cases h : (decide (0 ≤ a) && decide (a ≤ b)) = true <;> simp [h]
theorem sBounds (a b : Int) : spec_BoundsOk a b = some (bOk a b) := by
  simp only [spec_BoundsOk, spec_BoundsOk_K, l1In_eq, Option.bind_some, ite_bool, beq_true, bOk, Bool.and_eq_true, decide_eq_true_eq]
  by_cases h : 0 ≤ a ∧ a ≤ 4096
  · rw [if_pos h]
    by_cases h2 : 0 ≤ b ∧ b ≤ 4096
    · rw [if_pos h2]; congr 1; rw [Bool.eq_iff_iff]; simp; omega
    · rw [if_neg h2]; congr 1; rw [Bool.eq_iff_iff]; simp; omega
  · rw [if_neg h]; congr 1; rw [Bool.eq_iff_iff]; simp; omega
/-- The bounds at one shift. -/
def packAt (a b : Int) (e : Nat) : Option (Int × Int × Int) :=
  if a / 2 ^ e ≤ 63 ∧ (b - a / 2 ^ e * 2 ^ e + 2 ^ e - 1) / 2 ^ e ≤ 63 then some ((e : Int), a / 2 ^ e, (b - a / 2 ^ e * 2 ^ e + 2 ^ e - 1) / 2 ^ e) else none
def packF (a b : Int) : Option (Int × Int × Int) := (List.range 7).findSome? (packAt a b)
theorem pw2_nat {e : Nat} (h : e < 7) : pw2 64 (e : Int) = 2 ^ e := by
  show (2 : Int) ^ Nat.min ((e : Int)).toNat 64 = 2 ^ e
  have : Nat.min ((e : Int)).toNat 64 = e := by
    have : ((e : Int)).toNat = e := by omega
    rw [this]; exact Nat.min_eq_left (by omega)
  rw [this]
theorem pow_le {e : Nat} (h : e < 7) : (1 : Int) ≤ 2 ^ e ∧ (2 : Int) ^ e ≤ 64 := by
  have : e = 0 ∨ e = 1 ∨ e = 2 ∨ e = 3 ∨ e = 4 ∨ e = 5 ∨ e = 6 := by omega
  rcases this with rfl | rfl | rfl | rfl | rfl | rfl | rfl <;> decide
theorem div_facts {a u : Int} (ha : 0 ≤ a) (hu : 1 ≤ u) : 0 ≤ a / u * u ∧ a / u * u ≤ a ∧ 0 ≤ a / u ∧ a < a / u * u + u := by
  have h1 := Int.ediv_mul_le a (b := u) (by omega)
  have h2 := Int.lt_ediv_add_one_mul_self a (b := u) (by omega)
  have h3 : 0 ≤ a / u := Int.ediv_nonneg ha (by omega)
  rw [Int.add_mul, Int.one_mul] at h2
  exact ⟨Int.mul_nonneg h3 (by omega), h1, h3, h2⟩
theorem div_small {a u : Int} (ha : 0 ≤ a) (_hu : 1 ≤ u) : a / u ≤ a := by
  have := Int.ediv_le_self u ha
  exact this
section
variable {a b : Int} (h : bOk a b = true) {e : Nat} (he : e < 7)
include h he
theorem spec_step : spec_Pack_L0_step a b (e : Int) = some (rndOf (packAt a b e) ((e + 1 : Nat) : Int)) := by
  obtain ⟨h0, h1, h2⟩ := bOk_iff.1 h
  obtain ⟨u0, u1⟩ := pow_le he
  obtain ⟨q0, q1, q2, q3⟩ := div_facts h0 u0
  have n0 : 0 ≤ b - a / 2 ^ e * 2 ^ e + 2 ^ e - 1 := by omega
  have f1 : Int.fdiv a (2 ^ e) = a / 2 ^ e := Int.fdiv_eq_ediv_of_nonneg _ (by omega)
  have w1 : w64 (a / 2 ^ e * 2 ^ e) = a / 2 ^ e * 2 ^ e := w64_id (by omega) (by omega)
  have w2 : w64 (b - a / 2 ^ e * 2 ^ e) = b - a / 2 ^ e * 2 ^ e := w64_id (by omega) (by omega)
  have w3 : w64 (1 * 2 ^ e) = 2 ^ e := by rw [Int.one_mul]; exact w64_id (by omega) (by omega)
  have w4 : w64 (b - a / 2 ^ e * 2 ^ e + 2 ^ e) = b - a / 2 ^ e * 2 ^ e + 2 ^ e := w64_id (by omega) (by omega)
  have w5 : w64 (b - a / 2 ^ e * 2 ^ e + 2 ^ e - 1) = b - a / 2 ^ e * 2 ^ e + 2 ^ e - 1 := w64_id (by omega) (by omega)
  have f2 : Int.fdiv (b - a / 2 ^ e * 2 ^ e + 2 ^ e - 1) (2 ^ e) = (b - a / 2 ^ e * 2 ^ e + 2 ^ e - 1) / 2 ^ e := Int.fdiv_eq_ediv_of_nonneg _ (by omega)
  have w6 : w64 ((e : Int) + 1) = ((e + 1 : Nat) : Int) := by rw [w64_id] <;> omega
  simp only [spec_Pack_L0_step, spec_Pack_L0_K, ite_bool, beq_true, decide_eq_true_eq, pw2_nat he, f1, w1, w2, w3, w4, w5, f2, w6, packAt, rndOf]
  rw [if_pos (by omega), if_pos (by omega), if_pos (by omega), if_pos (by omega), if_pos (by omega)]
  by_cases c1 : a / 2 ^ e ≤ 63
  · by_cases c2 : (b - a / 2 ^ e * 2 ^ e + 2 ^ e - 1) / 2 ^ e ≤ 63
    · rw [if_pos c1, if_pos c2, if_pos ⟨c1, c2⟩]
    · rw [if_pos c1, if_neg c2, if_neg (fun c => c2 c.2)]
  · rw [if_neg c1, if_neg (fun c => c1 c.1)]
theorem impl_step : impl_Pack_L0_step a b (e : Int) = some (rndOf (packAt a b e) ((e + 1 : Nat) : Int)) := by
  obtain ⟨h0, h1, h2⟩ := bOk_iff.1 h
  obtain ⟨u0, u1⟩ := pow_le he
  obtain ⟨q0, q1, q2, q3⟩ := div_facts h0 u0
  have n0 : 0 ≤ b - a / 2 ^ e * 2 ^ e + 2 ^ e - 1 := by omega
  have d1 := div_small h0 u0
  have d2 := div_small n0 u0
  have d3 : 0 ≤ (b - a / 2 ^ e * 2 ^ e + 2 ^ e - 1) / 2 ^ e := Int.ediv_nonneg n0 (by omega)
  have w3 : w64 (1 * 2 ^ e) = 2 ^ e := by rw [Int.one_mul]; exact w64_id (by omega) (by omega)
  have f1 : Int.tdiv a (2 ^ e) = a / 2 ^ e := Int.tdiv_eq_ediv_of_nonneg h0
  have w0 : w64 (a / 2 ^ e) = a / 2 ^ e := w64_id (by omega) (by omega)
  have w1 : w64 (a / 2 ^ e * 2 ^ e) = a / 2 ^ e * 2 ^ e := w64_id (by omega) (by omega)
  have w2 : w64 (b - a / 2 ^ e * 2 ^ e) = b - a / 2 ^ e * 2 ^ e := w64_id (by omega) (by omega)
  have w4 : w64 (b - a / 2 ^ e * 2 ^ e + 2 ^ e) = b - a / 2 ^ e * 2 ^ e + 2 ^ e := w64_id (by omega) (by omega)
  have w5 : w64 (b - a / 2 ^ e * 2 ^ e + 2 ^ e - 1) = b - a / 2 ^ e * 2 ^ e + 2 ^ e - 1 := w64_id (by omega) (by omega)
  have f2 : Int.tdiv (b - a / 2 ^ e * 2 ^ e + 2 ^ e - 1) (2 ^ e) = (b - a / 2 ^ e * 2 ^ e + 2 ^ e - 1) / 2 ^ e := Int.tdiv_eq_ediv_of_nonneg n0
  have w7 : w64 ((b - a / 2 ^ e * 2 ^ e + 2 ^ e - 1) / 2 ^ e) = (b - a / 2 ^ e * 2 ^ e + 2 ^ e - 1) / 2 ^ e := w64_id (by omega) (by omega)
  have w6 : w64 ((e : Int) + 1) = ((e + 1 : Nat) : Int) := by rw [w64_id] <;> omega
  have ne : ((2 : Int) ^ e != 0) = true := by rw [bne_iff_ne]; omega
  simp only [impl_Pack_L0_step, impl_Pack_L0_K, ite_bool, beq_true, decide_eq_true_eq, pw2_nat he, w3, f1, w0, w1, w2, w4, w5, f2, w7, w6, packAt, rndOf, ne, if_true]
  rw [if_pos (by omega), if_pos (by omega)]
  by_cases c1 : a / 2 ^ e ≤ 63
  · by_cases c2 : (b - a / 2 ^ e * 2 ^ e + 2 ^ e - 1) / 2 ^ e ≤ 63
    · rw [if_pos c1, if_pos c2, if_pos ⟨c1, c2⟩]
    · rw [if_pos c1, if_neg c2, if_neg (fun c => c2 c.2)]
  · rw [if_neg c1, if_neg (fun c => c1 c.1)]
end
theorem sPackL {a b : Int} (h : bOk a b = true) : runL (spec_Pack_L0_step a b) 0 = some (endOf (packF a b) ()) := by
  have hr := runL_for (spec_Pack_L0_step a b) (fun i : Nat => (i : Int)) 7 (packAt a b) () (fun i hi _ => spec_step h hi) (fun _ => by
    have e7 : ((7 : Nat) : Int) = 7 := rfl
    simp only [spec_Pack_L0_step, spec_Pack_L0_K, ite_bool, decide_eq_true_eq, e7]; rw [if_neg (by omega)])
  exact hr
theorem iPackL {a b : Int} (h : bOk a b = true) : runL (impl_Pack_L0_step a b) 0 = some (endOf (packF a b) ()) := by
  have hr := runL_for (impl_Pack_L0_step a b) (fun i : Nat => (i : Int)) 7 (packAt a b) () (fun i hi _ => impl_step h hi) (fun _ => by
    have e7 : ((7 : Nat) : Int) = 7 := rfl
    simp only [impl_Pack_L0_step, impl_Pack_L0_K, ite_bool, decide_eq_true_eq, e7]; rw [if_neg (by omega)])
  exact hr
def packR (a b : Int) : GPacked × Bool := if bOk a b = true then match packF a b with | some k => (⟨k.1, k.2.1, k.2.2⟩, true) | none => (⟨0, 0, 0⟩, false) else (⟨0, 0, 0⟩, false)
theorem sPack (a b : Int) : spec_Pack a b = some (packR a b) := by
  simp only [spec_Pack, spec_Pack_K, sBounds, Option.bind_some, ite_bool, packR]
  by_cases h : bOk a b = true
  · rw [if_neg (by simp [h]), if_pos h, sPackL h]
    cases packF a b <;> rfl
  · rw [if_pos (by simpa using h), if_neg h]
theorem iPack (a b : Int) : impl_Pack a b = some (packR a b) := by
  simp only [impl_Pack, impl_Pack_K, iBounds, Option.bind_some, ite_bool, packR]
  by_cases h : bOk a b = true
  · rw [if_neg (by simp [h]), if_pos h, iPackL h]
    cases packF a b <;> rfl
  · rw [if_pos (by simpa using h), if_neg h]
theorem packF_some {a b : Int} {k : Int × Int × Int} (hk : packF a b = some k) : ∃ e : Nat, e < 7 ∧ k = ((e : Int), a / 2 ^ e, (b - a / 2 ^ e * 2 ^ e + 2 ^ e - 1) / 2 ^ e) ∧ a / 2 ^ e ≤ 63 ∧ (b - a / 2 ^ e * 2 ^ e + 2 ^ e - 1) / 2 ^ e ≤ 63 := by
  unfold packF at hk
  obtain ⟨e, he, hp⟩ := List.exists_of_findSome?_eq_some hk
  have he7 : e < 7 := List.mem_range.1 he
  unfold packAt at hp
  split at hp
  · rename_i hc
    simp at hp; subst hp
    exact ⟨e, he7, rfl, hc⟩
  · simp at hp
def wideF (a b : Int) : Int × Int := if bOk a b = true then match packF a b with | some k => (k.2.1 * 2 ^ k.1.toNat, min 4096 ((k.2.1 + k.2.2) * 2 ^ k.1.toNat)) | none => (0, 4096) else (0, 0)
theorem unpack_facts {a b : Int} (h : bOk a b = true) {k : Int × Int × Int} (hk : packF a b = some k) : ∃ (e : Nat) (q r : Int), e < 7 ∧ k = ((e : Int), q, r) ∧ 0 ≤ q ∧ q ≤ 63 ∧ 0 ≤ r ∧ r ≤ 63 := by
  obtain ⟨e, he, rfl, c1, c2⟩ := packF_some hk
  obtain ⟨h0, h1, h2⟩ := bOk_iff.1 h
  obtain ⟨u0, u1⟩ := pow_le he
  obtain ⟨q0, q1, q2, q3⟩ := div_facts h0 u0
  have n0 : 0 ≤ b - a / 2 ^ e * 2 ^ e + 2 ^ e - 1 := by omega
  exact ⟨e, _, _, he, rfl, q2, c1, Int.ediv_nonneg n0 (by omega), c2⟩
theorem l1Min_eq (x y : Int) : spec_l1Min x y = some (min x y) := by
  simp only [spec_l1Min, spec_l1Min_K, ite_bool, decide_eq_true_eq]
  by_cases h : x < y
  · rw [if_pos h]; congr 1; omega
  · rw [if_neg h]; congr 1; omega
theorem mn_eq (x y : Int) : mn x y = min x y := by unfold mn; split <;> omega
theorem mul_bound {e : Nat} (he : e < 7) {x : Int} (hx : 0 ≤ x) (hx2 : x ≤ 126) : 0 ≤ x * 2 ^ e ∧ x * 2 ^ e ≤ 8064 := by
  obtain ⟨u0, u1⟩ := pow_le he
  have a1 : x * 2 ^ e ≤ x * 64 := Int.mul_le_mul_of_nonneg_left u1 hx
  exact ⟨Int.mul_nonneg hx (by omega), by omega⟩
section
variable {e : Nat} (he : e < 7) {q r : Int} (h1 : 0 ≤ q) (h2 : q ≤ 63) (h3 : 0 ≤ r) (h4 : r ≤ 63)
include he h1 h2 h3 h4
theorem sUnpack : spec_Unpack ⟨(e : Int), q, r⟩ = some (q * 2 ^ e, min 4096 ((q + r) * 2 ^ e), true) := by
  obtain ⟨b1, b2⟩ := mul_bound he h1 (by omega)
  obtain ⟨b3, b4⟩ := mul_bound he (x := q + r) (by omega) (by omega)
  have w1 : w64 (q * 2 ^ e) = q * 2 ^ e := w64_id (by omega) (by omega)
  have w2 : w64 (q + r) = q + r := w64_id (by omega) (by omega)
  have w3 : w64 ((q + r) * 2 ^ e) = (q + r) * 2 ^ e := w64_id (by omega) (by omega)
  have i1 : (decide (0 ≤ (e : Int)) && decide ((e : Int) ≤ 6)) = true := by simp; omega
  have i2 : (decide (0 ≤ q) && decide (q ≤ 63)) = true := by simp; omega
  have i3 : (decide (0 ≤ r) && decide (r ≤ 63)) = true := by simp; omega
  simp only [spec_Unpack, spec_Unpack_K, l1In_eq, Option.bind_some, i1, i2, i3, Bool.not_true, cond_true, cond_false, l1Min_eq, ite_bool, decide_eq_true_eq, pw2_nat he, w1, w2, w3, Bool.false_eq_true, if_false, if_true]
  try simp only [beq_self_eq_true, if_true]
  try (rw [if_pos (by omega), if_pos (by omega)])
  rw [Int.min_comm]
theorem iUnpack : impl_Unpack ⟨(e : Int), q, r⟩ = some (q * 2 ^ e, min 4096 ((q + r) * 2 ^ e), true) := by
  obtain ⟨b1, b2⟩ := mul_bound he h1 (by omega)
  obtain ⟨b3, b4⟩ := mul_bound he (x := q + r) (by omega) (by omega)
  have w1 : w64 (q * 2 ^ e) = q * 2 ^ e := w64_id (by omega) (by omega)
  have w2 : w64 (q + r) = q + r := w64_id (by omega) (by omega)
  have w3 : w64 ((q + r) * 2 ^ e) = (q + r) * 2 ^ e := w64_id (by omega) (by omega)
  have i1 : (decide (0 ≤ (e : Int)) && decide ((e : Int) ≤ 6)) = true := by simp; omega
  have i2 : (decide (0 ≤ q) && decide (q ≤ 63)) = true := by simp; omega
  have i3 : (decide (0 ≤ r) && decide (r ≤ 63)) = true := by simp; omega
  simp only [impl_Unpack, impl_Unpack_K, in_eq, Option.bind_some, i1, i2, i3, Bool.not_true, cond_true, cond_false, mn_eq, ite_bool, decide_eq_true_eq, pw2_nat he, w1, w2, w3, Bool.false_eq_true, if_false, if_true]
  try simp only [beq_self_eq_true, if_true]
  try (rw [if_pos (by omega), if_pos (by omega)])
end
theorem sWide (a b : Int) : spec_Wide a b = some (wideF a b) := by
  simp only [spec_Wide, spec_Wide_K, sPack, sBounds, Option.bind_some, ite_bool, packR, wideF]
  by_cases h : bOk a b = true
  · simp only [h, if_true]
    cases hk : packF a b with
    | none => simp
    | some k =>
      obtain ⟨e, q, r, he, rfl, k2, k3, k4, k5⟩ := unpack_facts h hk
      simp [sUnpack he k2 k3 k4 k5]
  · simp [h]
theorem iWide (a b : Int) : impl_Wide a b = some (wideF a b) := by
  simp only [impl_Wide, impl_Wide_K, iPack, iBounds, Option.bind_some, ite_bool, packR, wideF]
  by_cases h : bOk a b = true
  · simp only [h, if_true]
    cases hk : packF a b with
    | none => simp
    | some k =>
      obtain ⟨e, q, r, he, rfl, k2, k3, k4, k5⟩ := unpack_facts h hk
      simp [iUnpack he k2 k3 k4 k5]
  · simp [h]
def exactF (a b : Int) : Bool := bOk a b && (wideF a b).1 == a && (wideF a b).2 == b
theorem sExact (a b : Int) : spec_Exact a b = some (exactF a b) := by
  simp only [spec_Exact, spec_Exact_K, sWide, sBounds, Option.bind_some, exactF]
  cases bOk a b <;> cases h : (wideF a b).1 == a <;> simp
theorem iExact (a b : Int) : impl_Exact a b = some (exactF a b) := by
  simp only [impl_Exact, impl_Exact_K, iWide, iBounds, Option.bind_some, exactF]
  cases bOk a b <;> cases h : (wideF a b).1 == a <;> simp
def keyF (k : GKey) : Bool := exactF k.base k.top && (decide (0 ≤ k.perms) && decide (k.perms ≤ 63)) && (decide (0 ≤ k.seal_) && decide (k.seal_ ≤ 7))
theorem sKey (k : GKey) : spec_KeyOk k = some (keyF k) := by
  simp only [spec_KeyOk, spec_KeyOk_K, sExact, l1In_eq, Option.bind_some, keyF]
  cases exactF k.base k.top <;> cases (decide (0 ≤ k.perms) && decide (k.perms ≤ 63)) <;> simp
theorem iKey (k : GKey) : impl_KeyOk k = some (keyF k) := by
  simp only [impl_KeyOk, impl_KeyOk_K, iExact, in_eq, Option.bind_some, keyF]
  cases exactF k.base k.top <;> cases (decide (0 ≤ k.perms) && decide (k.perms ≤ 63)) <;> simp
def zeroKey (k : GKey) : Bool := (k.base == 0) && ((k.top == 0) && ((k.perms == 0) && ((k.seal_ == 0) && true)))
def wordF (w : GWord) : Bool := (decide (0 ≤ w.n) && decide (w.n ≤ 65535)) && cond w.is (keyF w.key) (zeroKey w.key)
theorem sWord (w : GWord) : spec_WordOk w = some (wordF w) := by
  simp only [spec_WordOk, spec_WordOk_K, sKey, l1In_eq, Option.bind_some, wordF, zeroKey]
  cases (decide (0 ≤ w.n) && decide (w.n ≤ 65535)) <;> cases w.is <;> cases keyF w.key <;> simp
theorem iWord (w : GWord) : impl_WordOk w = some (wordF w) := by
  simp only [impl_WordOk, impl_WordOk_K, iKey, in_eq, Option.bind_some, wordF, zeroKey]
  cases (decide (0 ≤ w.n) && decide (w.n ≤ 65535)) <;> cases w.is <;> simp
end Go.Eng
/- Plain laws of memories and heaps: the program's and the reference's are the same. -/
set_option linter.unusedSimpArgs false
namespace Go.Eng
section
variable {σ τ κ : Type}
/-- A loop that counts, and may return: whether it returns. -/
theorem runL_all (step : σ → Option (Rnd σ τ κ)) (st : Nat → σ) (N : Nat) (good : Nat → Bool) (t : τ) (hs : ∀ i, i < N → (∀ j, j < i → good j = true) → good i = true → step (st i) = some (.again (st (i + 1))))
    (hb : ∀ i, i < N → (∀ j, j < i → good j = true) → good i = false → ∃ k, step (st i) = some (.ret k)) (he : (∀ j, j < N → good j = true) → step (st N) = some (.exit t)) :
    ((List.range N).all good = true → runL step (st 0) = some (.inl t)) ∧ ((List.range N).all good = false → ∃ k, runL step (st 0) = some (.inr k)) := by
  have key : ∀ m i, i + m = N → (∀ j, j < i → good j = true) → ((List.range' i m).all good = true → runL step (st i) = some (.inl t)) ∧ ((List.range' i m).all good = false → ∃ k, runL step (st i) = some (.inr k)) := by
    intro m
    induction m with
    | zero =>
      intro i hi hj
      have : i = N := by omega
      subst this
      refine ⟨fun _ => ?_, fun h => by simp at h⟩
      rw [runL_eq, he hj]; rfl
    | succ m ih =>
      intro i hi hj
      rw [List.range'_succ, List.all_cons]
      cases hk : good i with
      | false =>
        obtain ⟨k, hk'⟩ := hb i (by omega) hj hk
        refine ⟨fun h => by simp at h, fun _ => ⟨k, ?_⟩⟩
        rw [runL_eq, hk']; rfl
      | true =>
        rw [runL_eq, hs i (by omega) hj hk, Bool.true_and]
        simp only [Option.bind_some, rndE]
        exact ih (i + 1) (by omega) fun j hlt => by
          by_cases e : j = i
          · subst e; exact hk
          · exact hj j (by omega)
  have := key N 0 (by omega) (fun j h => by omega)
  rwa [← List.range_eq_range'] at this
theorem runX_inv (step : σ → Option (Rnd σ τ Unit)) (I : σ → Prop) (Q : τ → Prop) (μ : σ → Nat) (h : ∀ s, I s → (∃ s', step s = some (.again s') ∧ I s' ∧ μ s' < μ s) ∨ ∃ t, step s = some (.exit t) ∧ Q t) : ∀ s, I s → ∃ t, runX step s = some t ∧ Q t := by
  have key : ∀ n s, μ s < n → I s → ∃ t, runX step s = some t ∧ Q t := by
    intro n
    induction n with
    | zero => intro s hs; omega
    | succ n ih =>
      intro s hs hI
      rcases h s hI with ⟨s', h1, h2, h3⟩ | ⟨t, h1, h2⟩
      · obtain ⟨t, k1, k2⟩ := ih s' (by omega) h2
        refine ⟨t, ?_, k2⟩
        rw [runX_eq, h1]; exact k1
      · refine ⟨t, ?_, h2⟩
        rw [runX_eq, h1]; rfl
  exact fun s hI => key (μ s + 1) s (by omega) hI
end
theorem nat_toNat (i : Nat) : ((i : Int)).toNat = i := by omega
theorem w64_succ {i : Nat} (h : i < 1073741824) : w64 ((i : Int) + 1) = ((i + 1 : Nat) : Int) := by rw [w64_id] <;> omega
theorem all_ok {N : Nat} {good : Nat → Bool} : (List.range N).all good = true ↔ ∀ i, i < N → good i = true := by
  simp [List.all_eq_true]
/-! ### memories -/
def wordsF (ws : List GWord) (n : Nat) : Bool := (List.range n).all fun i => wordF (ws.getD i default)
def memF (m : GMemory) : Bool := (m.words.length == 24) && ((m.gone.length == 24) && wordsF m.words 24)
theorem len24 (n : Nat) : (((n : Nat) : Int) == 24) = (n == 24) := by
  rw [Bool.eq_iff_iff]; simp; omega
theorem sMemory (m : GMemory) : spec_MemoryOk m = some (memF m) := by
  simp only [spec_MemoryOk, spec_MemoryOk_K, bne, len24, memF]
  cases h1 : m.words.length == 24
  · rfl
  · cases h2 : m.gone.length == 24
    · rfl
    · have e1 : m.words.length = 24 := by simpa using h1
      have hr := runL_all (spec_MemoryOk_L0_step m.words m.gone) (fun i : Nat => (i : Int)) 24 (fun i => wordF (m.words.getD i default)) ()
        (fun i hi _ hg => by
          simp only [spec_MemoryOk_L0_step, spec_MemoryOk_L0_K, ite_bool, decide_eq_true_eq, nat_toNat, sWord, Option.bind_some, hg, w64_succ (show i < 1073741824 by omega), Bool.not_true, Bool.false_eq_true, if_false]
          rw [if_pos (by omega), if_pos (by omega), if_pos (by omega)])
        (fun i hi _ hg => ⟨(), by
          simp only [spec_MemoryOk_L0_step, spec_MemoryOk_L0_K, ite_bool, decide_eq_true_eq, nat_toNat, sWord, Option.bind_some, hg, Bool.not_false, if_true]
          rw [if_pos (by omega), if_pos (by omega), if_pos (by omega)]⟩)
        (fun _ => by
          simp only [spec_MemoryOk_L0_step, spec_MemoryOk_L0_K, ite_bool, decide_eq_true_eq]
          rw [if_neg (by omega)])
      simp only [Bool.not_true, Bool.true_and, wordsF, beq_self_eq_true, cond_true, cond_false]
      cases hA : (List.range 24).all fun i => wordF (m.words.getD i default)
      · obtain ⟨k, hk⟩ := hr.2 hA
        rw [show ((0 : Nat) : Int) = 0 from rfl] at hk
        rw [hk]; rfl
      · have hk := hr.1 hA
        rw [show ((0 : Nat) : Int) = 0 from rfl] at hk
        rw [hk]; rfl
theorem iWords {ws : List GWord} (h : ws.length ≤ 1048576) : slices_ContainsFunc_124 ws = some (!wordsF ws ws.length) := by
  have hr := runL_for (slices_IndexFunc_124_L0_step ws ((ws.length : Nat) : Int)) (fun i : Nat => (i : Int)) ws.length (fun i => if wordF (ws.getD i default) = true then none else some (i : Int)) ()
    (fun i hi _ => by
      simp only [slices_IndexFunc_124_L0_step, slices_IndexFunc_124_L0_K, impl_MemoryOk_1, impl_MemoryOk_1_K, ite_bool, decide_eq_true_eq, nat_toNat, iWord, Option.bind_some, w64_succ (show i < 1073741824 by omega)]
      rw [if_pos (by omega), if_pos (by omega), if_pos (by omega)]
      cases wordF (ws.getD i default) <;> rfl)
    (fun _ => by
      simp only [slices_IndexFunc_124_L0_step, slices_IndexFunc_124_L0_K, ite_bool, decide_eq_true_eq]
      rw [if_neg (by omega)])
  rw [show ((0 : Nat) : Int) = 0 from rfl] at hr
  simp only [slices_ContainsFunc_124, slices_ContainsFunc_124_K, slices_IndexFunc_124, slices_IndexFunc_124_K, hr, Option.bind_some, wordsF]
  cases hf : (List.range ws.length).findSome? (fun i => if wordF (ws.getD i default) = true then none else some (i : Int)) with
  | none =>
    have : ((List.range ws.length).all fun i => wordF (ws.getD i default)) = true := by
      rw [all_ok]; intro i hi
      have := (List.findSome?_eq_none_iff.1 hf) i (List.mem_range.2 hi)
      split at this
      · rename_i hc; exact hc
      · simp at this
    rw [this]; rfl
  | some k =>
    obtain ⟨i, hi, hk⟩ := List.exists_of_findSome?_eq_some hf
    have hne : ((List.range ws.length).all fun i => wordF (ws.getD i default)) = false := by
      rw [← Bool.not_eq_true]; intro hc
      rw [if_pos (all_ok.1 hc i (List.mem_range.1 hi))] at hk; simp at hk
    have hk0 : 0 ≤ k := by
      split at hk
      · simp at hk
      · simp at hk; omega
    rw [hne]
    simp only [endOf, sumK, Option.bind_some, Bool.not_false, ge_iff_le]
    rw [decide_eq_true hk0]
theorem iMemory (m : GMemory) : impl_MemoryOk m = some (memF m) := by
  simp only [impl_MemoryOk, impl_MemoryOk_K, len24, memF]
  cases h1 : m.words.length == 24
  · rfl
  · cases h2 : m.gone.length == 24
    · rfl
    · have e1 : m.words.length = 24 := by simpa using h1
      rw [iWords (by omega), e1]
      simp
end Go.Eng
/- Plain laws of what is drawn: it is always something. -/
set_option linter.unusedSimpArgs false
set_option linter.unusedVariables false
namespace Go.Eng
/-- A draw answers, and leaves a cursor that is right. -/
def Dr {α : Type} (P : α → Prop) (o : Option (α × Int × Int)) : Prop := ∃ v i h, o = some (v, i, h) ∧ 0 ≤ i ∧ P v
section
variable {α β : Type} {P : α → Prop} {Q : β → Prop}
theorem Dr.bind {o : Option (α × Int × Int)} {K : α × Int × Int → Option (β × Int × Int)} (h : Dr P o) (hK : ∀ v i h, 0 ≤ i → P v → Dr Q (K (v, i, h))) : Dr Q (o.bind K) := by
  obtain ⟨v, i, g, rfl, hi, hv⟩ := h
  exact hK v i g hi hv
theorem Dr.cond {b : Bool} {x y : Option (α × Int × Int)} (hx : Dr P x) (hy : Dr P y) : Dr P (cond b x y) := by cases b <;> assumption
theorem Dr.ret {v : α} {i h : Int} (hi : 0 ≤ i) (hv : P v) : Dr P (some (v, i, h)) := ⟨v, i, h, rfl, hi, hv⟩
theorem Dr.mono {P' : α → Prop} {o : Option (α × Int × Int)} (h : Dr P o) (hm : ∀ v, P v → P' v) : Dr P' o := by
  obtain ⟨v, i, g, rfl, hi, hv⟩ := h
  exact ⟨v, i, g, rfl, hi, hm v hv⟩
end
theorem and_mask (x : Int) (m : Nat) (hm : m < 9223372036854775808) : 0 ≤ bits .and .i64 x (m : Int) ∧ bits .and .i64 x (m : Int) ≤ m := by
  unfold bits
  simp only [BitVec.toNat_and, BitVec.ofInt_natCast, BitVec.toNat_ofNat]
  have h1 : (BitVec.ofInt IntKind.i64.bits x).toNat &&& m % 2 ^ IntKind.i64.bits ≤ m := Nat.le_trans Nat.and_le_right (Nat.mod_le _ _)
  generalize (BitVec.ofInt IntKind.i64.bits x).toNat &&& m % 2 ^ IntKind.i64.bits = n at h1
  rw [IntKind.wrap_i64]
  omega
theorem and255 (x : Int) : 0 ≤ bits .and .i64 x 255 ∧ bits .and .i64 x 255 ≤ 255 := and_mask x 255 (by decide)
section
variable {b : List Int} (hb : b.length ≤ 1048576)
include hb
theorem byte_dr {i h : Int} (h0 : 0 ≤ i) : Dr (fun v => 0 ≤ v ∧ v ≤ 255) (spec_l1Byte ⟨b, i, h⟩) := by
  simp only [spec_l1Byte, spec_l1Byte_K, ite_bool, decide_eq_true_eq]
  by_cases c : i < (b.length : Int)
  · have w : w64 (i + 1) = i + 1 := w64_id (by omega) (by omega)
    rw [if_pos c, if_pos h0, if_pos c, w]
    exact Dr.ret (by omega) (and255 _)
  · rw [if_neg c]
    exact Dr.ret h0 (and255 _)
theorem below_dr {i h n : Int} (h0 : 0 ≤ i) (hn : n ≤ 2147483648) : Dr (fun v => 0 ≤ v ∧ (0 < n → v < n)) (spec_l1Below ⟨b, i, h⟩ n) := by
  simp only [spec_l1Below, spec_l1Below_K, ite_bool, decide_eq_true_eq]
  by_cases c : n ≤ 0
  · rw [if_pos c]
    exact Dr.ret h0 ⟨Int.le_refl _, fun h => absurd h (by omega)⟩
  · rw [if_neg c]
    have hne : (n != 0) = true := by rw [bne_iff_ne]; omega
    by_cases c2 : n ≤ 256
    · rw [if_pos c2]
      refine Dr.bind (byte_dr hb h0) fun v i h hi hv => ?_
      rw [if_pos hne]
      refine Dr.ret hi ?_
      rw [Int.tmod_eq_emod_of_nonneg hv.1]
      exact ⟨Int.emod_nonneg _ (by omega), fun _ => Int.emod_lt_of_pos _ (by omega)⟩
    · rw [if_neg c2]
      refine Dr.bind (byte_dr hb h0) fun v1 i1 h1 hi1 hv1 => ?_
      refine Dr.bind (byte_dr hb hi1) fun v2 i2 h2 hi2 hv2 => ?_
      refine Dr.bind (byte_dr hb hi2) fun v3 i3 h3 hi3 hv3 => ?_
      refine Dr.bind (byte_dr hb hi3) fun v4 i4 h4 hi4 hv4 => ?_
      rw [if_pos hne]
      refine Dr.ret hi4 ?_
      dsimp only
      have w1 : w64 (v1 * 16777216) = v1 * 16777216 := w64_id (by omega) (by omega)
      have w2 : w64 (v2 * 65536) = v2 * 65536 := w64_id (by omega) (by omega)
      have w3 : w64 (v3 * 256) = v3 * 256 := w64_id (by omega) (by omega)
      rw [w1, w2, w3, w64_id (n := v1 * 16777216 + v2 * 65536) (by omega) (by omega), w64_id (n := v1 * 16777216 + v2 * 65536 + v3 * 256) (by omega) (by omega), w64_id (n := v1 * 16777216 + v2 * 65536 + v3 * 256 + v4) (by omega) (by omega)]
      rw [Int.tmod_eq_emod_of_nonneg (by omega)]
      exact ⟨Int.emod_nonneg _ (by omega), fun _ => Int.emod_lt_of_pos _ (by omega)⟩
theorem once_dr {i h n : Int} (h0 : 0 ≤ i) (hn : n ≤ 2147483648) : Dr (fun _ => True) (spec_l1Once ⟨b, i, h⟩ n) := by
  simp only [spec_l1Once, spec_l1Once_K]
  exact Dr.bind (below_dr hb h0 hn) fun v i h hi hv => Dr.ret hi trivial
theorem pick_dr {i h : Int} {l : List Int} (h0 : 0 ≤ i) (hl : 0 < l.length) (hl2 : l.length ≤ 1048576) : Dr (fun v => v ∈ l) (spec_l1PickInt ⟨b, i, h⟩ l) := by
  simp only [spec_l1PickInt, spec_l1PickInt_K, ite_bool, decide_eq_true_eq]
  refine Dr.bind (below_dr hb h0 (by omega)) fun v i h hi hv => ?_
  have h1 : v < (l.length : Int) := hv.2 (by omega)
  rw [if_pos hv.1, if_pos h1]
  refine Dr.ret hi ?_
  rw [getD_lt (by omega)]
  exact List.getElem_mem _
theorem l2DrawRight_dr {i h : Int} (h0 : 0 ≤ i) : Dr (fun _ => True) (spec_l2DrawRight ⟨b, i, h⟩) := by
  simp only [spec_l2DrawRight, spec_l2DrawRight_K, spec_Root, spec_Root_K, Option.bind_some]
  repeat' first
    | exact Dr.ret (by assumption) trivial
    | refine Dr.cond ?_ ?_
    | refine Dr.bind (below_dr hb (by assumption) (by decide)) (fun v i h hi hv => ?_)
    | refine Dr.bind (once_dr hb (by assumption) (by decide)) (fun v i h hi hv => ?_)
    | refine Dr.bind (pick_dr hb (by assumption) (by simp) (by simp)) (fun v i h hi hv => ?_)
end
end Go.Eng
/- Plain laws of what is drawn: words, memories, lists. -/
set_option linter.unusedSimpArgs false
set_option linter.unusedVariables false
namespace Go.Eng
section
variable {b : List Int} (hb : b.length ≤ 1048576)
include hb
theorem l3DrawRight_dr {i h : Int} (h0 : 0 ≤ i) : Dr (fun _ => True) (spec_l3DrawRight ⟨b, i, h⟩) := by
  simp only [spec_l3DrawRight, spec_l3DrawRight_K]
  refine Dr.bind (once_dr hb h0 (by decide)) fun v i h hi hv => ?_
  refine Dr.cond ?_ ?_
  · refine Dr.bind (pick_dr hb hi (by simp) (by simp)) fun v i h hi hv => ?_
    simp only [spec_Plain, spec_Plain_K, Option.bind_some]
    exact Dr.ret hi trivial
  · refine Dr.bind (l2DrawRight_dr hb hi) fun v i h hi hv => ?_
    refine Dr.bind (pick_dr hb hi (by simp) (by simp)) fun v2 i2 h2 hi2 hv2 => ?_
    simp only [spec_KeyWord, spec_KeyWord_K, spec_Plain, spec_Plain_K, sKey, Option.bind_some]
    cases keyF v <;> exact Dr.ret hi2 trivial
theorem l2Draw_dr {i h : Int} (h0 : 0 ≤ i) : Dr (fun _ => True) (spec_l2Draw ⟨b, i, h⟩) := by
  simp only [spec_l2Draw, spec_l2Draw_K]
  refine Dr.bind (l2DrawRight_dr hb h0) fun v i h hi hv => ?_
  refine Dr.bind (below_dr hb hi (by decide)) fun v2 i h hi hv2 => ?_
  repeat' first
    | exact Dr.ret (by assumption) trivial
    | refine Dr.cond ?_ ?_
    | refine Dr.bind (pick_dr hb (by assumption) (by simp) (by simp)) (fun v i h hi hv => ?_)
theorem l3Draw_dr {i h : Int} (h0 : 0 ≤ i) : Dr (fun _ => True) (spec_l3Draw ⟨b, i, h⟩) := by
  simp only [spec_l3Draw, spec_l3Draw_K]
  refine Dr.bind (l3DrawRight_dr hb h0) fun v i h hi hv => ?_
  refine Dr.bind (below_dr hb hi (by decide)) fun v2 i h hi hv2 => ?_
  repeat' first
    | exact Dr.ret (by assumption) trivial
    | refine Dr.cond ?_ ?_
    | refine Dr.bind (pick_dr hb (by assumption) (by simp) (by simp)) (fun v i h hi hv => ?_)
    | refine Dr.bind (l2Draw_dr hb (by assumption)) (fun v i h hi hv => ?_)
/-- A memory of the right size. -/
def MemLen (m : GMemory) : Prop := m.words.length ≤ 24 ∧ m.gone.length ≤ 24
theorem l8DrawRight_dr {i h : Int} (h0 : 0 ≤ i) : Dr (fun m : GMemory => m.words.length = 24 ∧ m.gone.length = 24) (spec_l8DrawRight ⟨b, i, h⟩) := by
  simp only [spec_l8DrawRight, spec_l8DrawRight_K, spec_MemoryNew, spec_MemoryNew_K, Option.bind_some]
  obtain ⟨t5, k5, q5⟩ := runX_inv (spec_l8DrawRight_L0_step b (List.replicate 24 false)) (fun s : Int × Int × List GWord × Int => 0 ≤ s.1 ∧ s.2.2.1.length = 24 ∧ 0 ≤ s.2.2.2 ∧ s.2.2.2 ≤ 12) (fun t : Int × Int × List GWord => 0 ≤ t.1 ∧ t.2.2.length = 24) (fun s => (13 - s.2.2.2).toNat)
    (fun s hs => by
      obtain ⟨n0, n1, l3, n5⟩ := s
      obtain ⟨g0, g1, g2, g3⟩ := hs
      simp only at g0 g1 g2 g3
      simp only [spec_l8DrawRight_L0_step, spec_l8DrawRight_L0_K, ite_bool, decide_eq_true_eq]
      obtain ⟨v, i1, h1, e1, hi1, hv1⟩ := below_dr hb (i := n0) (h := n1) (n := 12) g0 (by decide)
      rw [e1]
      simp only [Option.bind_some]
      have hv2 := hv1.2 (by decide)
      by_cases c : n5 < v
      · rw [if_pos c]
        obtain ⟨v2, i2, h2, e2, hi2, hw2⟩ := below_dr hb (i := i1) (h := h1) (n := 24) hi1 (by decide)
        rw [e2]
        simp only [Option.bind_some]
        obtain ⟨v3, i3, h3, e3, hi3, hv3⟩ := l3DrawRight_dr hb (i := i2) (h := h2) hi2
        rw [e3]
        simp only [Option.bind_some]
        have hw3 := hw2.2 (by decide)
        rw [if_pos hw2.1, if_pos (by omega)]
        have w : w64 (n5 + 1) = n5 + 1 := w64_id (by omega) (by omega)
        exact .inl ⟨_, rfl, ⟨hi3, by simp [g1], by simp only [w]; omega, by simp only [w]; omega⟩, by simp only [w]; omega⟩
      · rw [if_neg c]
        exact .inr ⟨_, rfl, hi1, g1⟩) (i, h, List.replicate 24 (⟨0, false, (⟨0, 0, 0, 0⟩ : GKey)⟩ : GWord), 0) ⟨h0, by simp, by simp, by simp⟩
  rw [k5]
  simp only [Option.bind_some]
  obtain ⟨t8, k8, q8⟩ := runX_inv (spec_l8DrawRight_L2_step b t5.2.2) (fun s : Int × Int × List Bool × Int => 0 ≤ s.1 ∧ s.2.2.1.length = 24 ∧ 0 ≤ s.2.2.2 ∧ s.2.2.2 ≤ 4) (fun t : Int × Int × List Bool => 0 ≤ t.1 ∧ t.2.2.length = 24) (fun s => (5 - s.2.2.2).toNat)
    (fun s hs => by
      obtain ⟨n0, n1, l3, n5⟩ := s
      obtain ⟨g0, g1, g2, g3⟩ := hs
      simp only at g0 g1 g2 g3
      simp only [spec_l8DrawRight_L2_step, spec_l8DrawRight_L2_K, ite_bool, decide_eq_true_eq]
      obtain ⟨v, i1, h1, e1, hi1, hv1⟩ := below_dr hb (i := n0) (h := n1) (n := 4) g0 (by decide)
      rw [e1]
      simp only [Option.bind_some]
      have hv2 := hv1.2 (by decide)
      by_cases c : n5 < v
      · rw [if_pos c]
        obtain ⟨v2, i2, h2, e2, hi2, hw2⟩ := below_dr hb (i := i1) (h := h1) (n := 24) hi1 (by decide)
        rw [e2]
        simp only [Option.bind_some]
        have hw3 := hw2.2 (by decide)
        rw [if_pos hw2.1, if_pos (by omega)]
        have w : w64 (n5 + 1) = n5 + 1 := w64_id (by omega) (by omega)
        exact .inl ⟨_, rfl, ⟨hi2, by simp [g1], by simp only [w]; omega, by simp only [w]; omega⟩, by simp only [w]; omega⟩
      · rw [if_neg c]
        exact .inr ⟨_, rfl, hi1, g1⟩) (t5.1, t5.2.1, List.replicate 24 false, 0) ⟨q5.1, by simp, by simp, by simp⟩
  rw [k8]
  exact Dr.ret q8.1 ⟨q5.2, q8.2⟩
theorem l8Draw_dr {i h : Int} (h0 : 0 ≤ i) : Dr MemLen (spec_l8Draw ⟨b, i, h⟩) := by
  simp only [spec_l8Draw, spec_l8Draw_K, ite_bool, decide_eq_true_eq]
  refine Dr.bind (l8DrawRight_dr hb h0) fun m i h hi hm => ?_
  refine Dr.bind (below_dr hb hi (by decide)) fun v i h hi hv => ?_
  dsimp only
  split
  · rw [if_pos (by omega), if_pos (by omega)]
    refine Dr.ret hi ⟨?_, by simp only; omega⟩
    simp only [cutL, List.length_take, List.length_drop]; omega
  · split
    · refine Dr.bind (below_dr hb hi (by decide)) fun v3 i3 h3 hi3 hv3 => ?_
      refine Dr.bind (l3Draw_dr hb hi3) fun v4 i4 h4 hi4 hv4 => ?_
      have := hv3.2 (by decide)
      dsimp only
      rw [if_pos hv3.1, if_pos (by omega)]
      exact Dr.ret hi4 ⟨by simp only [List.length_set]; omega, by simp only; omega⟩
    · split
      · exact Dr.ret hi ⟨by simp only; omega, by simp⟩
      · exact Dr.ret hi ⟨by omega, by omega⟩
end
theorem l1New_some {b : List Int} (hb : b.length ≤ 1048576) : ∃ h, spec_l1New b = some ⟨b, 0, h⟩ := by
  obtain ⟨t, k, _⟩ := runX_inv (spec_l1New_L0_step b) (fun s : Int × Int => 0 ≤ s.2) (fun t : Int => True) (fun s => (4000 - s.2).toNat)
    (fun s hs => by
      obtain ⟨n1, n2⟩ := s
      simp only at hs
      simp only [spec_l1New_L0_step, spec_l1New_L0_K, ite_bool, decide_eq_true_eq, beq_true]
      by_cases c : n2 < (b.length : Int)
      · by_cases c2 : n2 < 4000
        · have w : w64 (n2 + 1) = n2 + 1 := w64_id (by omega) (by omega)
          simp only [if_pos c, if_pos c2, if_pos hs]
          exact .inl ⟨_, rfl, by simp only [w]; omega, by simp only [w]; omega⟩
        · simp only [if_pos c, if_neg c2]
          exact .inr ⟨_, rfl, trivial⟩
      · simp only [if_neg c]
        exact .inr ⟨_, rfl, trivial⟩) (w64 (19220 + ((b.length : Nat) : Int)), 0) (by simp)
  exact ⟨t, by simp only [spec_l1New, spec_l1New_K, k, Option.bind_some]⟩
section
variable {b : List Int} (hb : b.length ≤ 1048576)
include hb
/-- A list of drawn words. -/
theorem words_some (step : Int × Int × List GWord × Int → Option (Rnd (Int × Int × List GWord × Int) (List GWord) Unit))
    (hstep : ∀ n1 n2 l3 n6, step (n1, n2, l3, n6) = (spec_l1Below ⟨b, n1, n2⟩ 4).bind fun r3 => cond (decide (n6 < r3.1)) ((spec_l3Draw ⟨b, r3.2.1, r3.2.2⟩).bind fun r4 => cond (decide (((l3.length) + 1) * 48 ≤ 140737488355328)) (some (.again (r4.2.1, r4.2.2, l3 ++ [r4.1], w64 (n6 + 1)))) none) (some (.exit l3)))
    {i h : Int} (h0 : 0 ≤ i) : ∃ t, runX step (i, h, [], 0) = some t ∧ t.length ≤ 4 := by
  refine runX_inv step (fun s : Int × Int × List GWord × Int => 0 ≤ s.1 ∧ (s.2.2.1.length : Int) = s.2.2.2 ∧ s.2.2.2 ≤ 4) (fun t : List GWord => t.length ≤ 4) (fun s => (5 - s.2.2.2).toNat) (fun s hs => ?_) (i, h, [], 0) ⟨h0, by simp, by simp⟩
  obtain ⟨n0, n1, l3, n5⟩ := s
  obtain ⟨g0, g1, g2⟩ := hs
  simp only at g0 g1 g2
  rw [hstep]
  obtain ⟨v, i1, h1, e1, hi1, hv1⟩ := below_dr hb (i := n0) (h := n1) (n := 4) g0 (by decide)
  rw [e1]
  simp only [Option.bind_some, ite_bool, decide_eq_true_eq]
  have hv2 := hv1.2 (by decide)
  by_cases c : n5 < v
  · rw [if_pos c]
    obtain ⟨v3, i3, h3, e3, hi3, hv3⟩ := l3Draw_dr hb (i := i1) (h := h1) hi1
    rw [e3]
    simp only [Option.bind_some]
    rw [if_pos (by omega)]
    have w : w64 (n5 + 1) = n5 + 1 := w64_id (by omega) (by omega)
    exact .inl ⟨_, rfl, ⟨hi3, by simp only [w, List.length_append, List.length_cons, List.length_nil]; omega, by simp only [w]; omega⟩, by simp only [w]; omega⟩
  · rw [if_neg c]
    exact .inr ⟨_, rfl, by omega⟩
theorem drawClosure_some : ∃ m ws, spec_DrawClosure b = some (m, ws) ∧ MemLen m ∧ ws.length ≤ 4 := by
  obtain ⟨h, e⟩ := l1New_some hb
  obtain ⟨m, i2, h2, e2, hi2, hm⟩ := l8Draw_dr hb (i := 0) (h := h) (by decide)
  obtain ⟨t, k, q⟩ := words_some hb (spec_DrawClosure_L0_step b m.words m.gone) (fun _ _ _ _ => rfl) (h := h2) hi2
  exact ⟨m, t, by simp only [spec_DrawClosure, spec_DrawClosure_K, e, e2, k, Option.bind_some], hm, q⟩
theorem drawLoad_some : ∃ m ws, spec_DrawLoadCells b = some (m, ws) ∧ MemLen m ∧ ws.length ≤ 4 := by
  obtain ⟨h, e⟩ := l1New_some hb
  obtain ⟨m, i2, h2, e2, hi2, hm⟩ := l8Draw_dr hb (i := 0) (h := h) (by decide)
  obtain ⟨t, k, q⟩ := words_some hb (spec_DrawLoadCells_L0_step b m.words m.gone) (fun _ _ _ _ => rfl) (h := h2) hi2
  exact ⟨m, t, by simp only [spec_DrawLoadCells, spec_DrawLoadCells_K, e, e2, k, Option.bind_some], hm, q⟩
theorem drawStore_some : ∃ m ws, spec_DrawStoreCells b = some (m, ws) ∧ MemLen m ∧ ws.length ≤ 4 := by
  obtain ⟨h, e⟩ := l1New_some hb
  obtain ⟨m, i2, h2, e2, hi2, hm⟩ := l8Draw_dr hb (i := 0) (h := h) (by decide)
  obtain ⟨t, k, q⟩ := words_some hb (spec_DrawStoreCells_L0_step b m.words m.gone) (fun _ _ _ _ => rfl) (h := h2) hi2
  exact ⟨m, t, by simp only [spec_DrawStoreCells, spec_DrawStoreCells_K, e, e2, k, Option.bind_some], hm, q⟩
theorem drawSeal_some : ∃ m ws, spec_DrawCanSeal b = some (m, ws) ∧ MemLen m ∧ ws.length ≤ 4 := by
  obtain ⟨h, e⟩ := l1New_some hb
  obtain ⟨m, i2, h2, e2, hi2, hm⟩ := l8Draw_dr hb (i := 0) (h := h) (by decide)
  obtain ⟨t, k, q⟩ := words_some hb (spec_DrawCanSeal_L0_step b m.words m.gone) (fun _ _ _ _ => rfl) (h := h2) hi2
  exact ⟨m, t, by simp only [spec_DrawCanSeal, spec_DrawCanSeal_K, e, e2, k, Option.bind_some], hm, q⟩
end
end Go.Eng
/- Plain laws of what words open: the program's closure is the reference's. -/
set_option linter.unusedSimpArgs false
set_option linter.unusedVariables false
namespace Go.Eng
theorem runX_two {σ τ : Type} (step step' : σ → Option (Rnd σ τ Unit)) (I : σ → Prop) (Q : τ → Prop) (μ : σ → Nat) (h : ∀ s, I s → (∃ s', step s = some (.again s') ∧ step' s = some (.again s') ∧ I s' ∧ μ s' < μ s) ∨ ∃ t, step s = some (.exit t) ∧ step' s = some (.exit t) ∧ Q t) : ∀ s, I s → ∃ t, runX step s = some t ∧ runX step' s = some t ∧ Q t := by
  have key : ∀ n s, μ s < n → I s → ∃ t, runX step s = some t ∧ runX step' s = some t ∧ Q t := by
    intro n
    induction n with
    | zero => intro s hs; omega
    | succ n ih =>
      intro s hs hI
      rcases h s hI with ⟨s', h1, h1', h2, h3⟩ | ⟨t, h1, h1', h2⟩
      · obtain ⟨t, k1, k1', k2⟩ := ih s' (by omega) h2
        refine ⟨t, ?_, ?_, k2⟩
        · rw [runX_eq, h1]; exact k1
        · rw [runX_eq, h1']; exact k1'
      · refine ⟨t, ?_, ?_, h2⟩
        · rw [runX_eq, h1]; rfl
        · rw [runX_eq, h1']; rfl
  exact fun s hI => key (μ s + 1) s (by omega) hI
/-- A search: what the first that stops says. -/
theorem findS {κ : Type} {N : Nat} {good : Nat → Bool} {k : Nat → κ} : ((List.range N).all good = true → (List.range N).findSome? (fun i => if good i = true then none else some (k i)) = none) ∧ ((List.range N).all good = false → ∃ i, i < N ∧ good i = false ∧ (List.range N).findSome? (fun i => if good i = true then none else some (k i)) = some (k i)) := by
  constructor
  · intro h
    rw [List.findSome?_eq_none_iff]
    intro i hi
    rw [if_pos (all_ok.1 h i (List.mem_range.1 hi))]
  · intro h
    cases hf : (List.range N).findSome? (fun i => if good i = true then none else some (k i)) with
    | none =>
      rw [List.findSome?_eq_none_iff] at hf
      rw [← Bool.not_eq_true, all_ok] at h
      refine absurd (fun i hi => ?_) h
      have := hf i (List.mem_range.2 hi)
      split at this
      · rename_i hc; exact hc
      · simp at this
    | some x =>
      obtain ⟨i, hi, hk⟩ := List.exists_of_findSome?_eq_some hf
      split at hk
      · simp at hk
      · rename_i hc
        simp at hk
        exact ⟨i, List.mem_range.1 hi, by simpa using hc, by rw [hk]⟩
/-- A search of a list. -/
theorem all_any {α : Type} {l : List α} {p : α → Bool} {d : α} : (!(List.range l.length).all fun i => !p (l.getD i d)) = l.any p := by
  rw [Bool.eq_iff_iff, Bool.not_eq_true', ← Bool.not_eq_true, all_ok, List.any_eq_true]
  constructor
  · intro h
    rw [Classical.not_forall] at h
    obtain ⟨i, h⟩ := h
    rw [Classical.not_imp] at h
    refine ⟨l[i]'h.1, List.getElem_mem h.1, ?_⟩
    have := h.2
    rw [getD_lt h.1] at this
    simpa using this
  · rintro ⟨s, hs, hc⟩ h
    obtain ⟨i, hi, rfl⟩ := List.getElem_of_mem hs
    have := h i hi
    rw [getD_lt hi, hc] at this; simp at this
theorem key_eq (a b : GKey) : ((a.base == b.base) && ((a.top == b.top) && ((a.perms == b.perms) && ((a.seal_ == b.seal_) && true)))) = decide (a = b) := by
  rw [Bool.eq_iff_iff, decide_eq_true_eq]
  cases a; cases b
  simp
def hasK (ws : List GWord) (k : GKey) : Bool := ws.any fun w => decide (w.key = k)
theorem sHas {ws : List GWord} (hl : ws.length ≤ 1048576) (k : GKey) : spec_l21Has ws k = some (hasK ws k) := by
  have hr := runL_for (spec_l21Has_L0_step ws k.base k.top k.perms k.seal_) (fun i : Nat => (i : Int)) ws.length (fun i => if (!decide ((ws.getD i default).key = k)) = true then none else some ()) ()
    (fun i hi _ => by
      simp only [spec_l21Has_L0_step, spec_l21Has_L0_K, key_eq, ite_bool, decide_eq_true_eq, nat_toNat, w64_succ (show i < 1073741824 by omega)]
      repeat (rw [if_pos (by omega)])
      by_cases h : (ws.getD i default).key = k
      · rw [if_pos h, if_neg (by rw [decide_eq_true h]; simp)]; rfl
      · rw [if_neg h, if_pos (by rw [decide_eq_false h]; rfl)]; rfl)
    (fun _ => by
      simp only [spec_l21Has_L0_step, spec_l21Has_L0_K, ite_bool, decide_eq_true_eq]
      rw [if_neg (by omega)])
  rw [show ((0 : Nat) : Int) = 0 from rfl] at hr
  have e := all_any (l := ws) (p := fun w => decide (w.key = k)) (d := default)
  have hf := findS (N := ws.length) (good := fun i => !decide ((ws.getD i default).key = k)) (k := fun _ => ())
  simp only [spec_l21Has, spec_l21Has_K, hr, Option.bind_some, hasK, ← e]
  cases hA : (List.range ws.length).all fun i => !decide ((ws.getD i default).key = k)
  · obtain ⟨i, _, _, h3⟩ := hf.2 hA
    rw [h3]; rfl
  · rw [hf.1 hA]; rfl
theorem iHas {ws : List GWord} (hl : ws.length ≤ 1048576) (w : GWord) : slices_ContainsFunc_114 ws w.n w.is w.key.base w.key.top w.key.perms w.key.seal_ = some (hasK ws w.key) := by
  have hr := runL_for (slices_IndexFunc_114_L0_step ws w.n w.is w.key.base w.key.top w.key.perms w.key.seal_ ((ws.length : Nat) : Int)) (fun i : Nat => (i : Int)) ws.length (fun i => if (!decide ((ws.getD i default).key = w.key)) = true then none else some (i : Int)) ()
    (fun i hi _ => by
      simp only [slices_IndexFunc_114_L0_step, slices_IndexFunc_114_L0_K, impl_Closure_1_1, impl_Closure_1_1_K, key_eq, ite_bool, decide_eq_true_eq, nat_toNat, Option.bind_some, w64_succ (show i < 1073741824 by omega)]
      repeat (rw [if_pos (by omega)])
      by_cases h : (ws.getD i default).key = w.key
      · rw [if_pos h, if_neg (by rw [decide_eq_true h]; simp)]; rfl
      · rw [if_neg h, if_pos (by rw [decide_eq_false h]; rfl)]; rfl)
    (fun _ => by
      simp only [slices_IndexFunc_114_L0_step, slices_IndexFunc_114_L0_K, ite_bool, decide_eq_true_eq]
      rw [if_neg (by omega)])
  rw [show ((0 : Nat) : Int) = 0 from rfl] at hr
  have e := all_any (l := ws) (p := fun x => decide (x.key = w.key)) (d := default)
  have hf := findS (N := ws.length) (good := fun i => !decide ((ws.getD i default).key = w.key)) (k := fun i => (i : Int))
  simp only [slices_ContainsFunc_114, slices_ContainsFunc_114_K, slices_IndexFunc_114, slices_IndexFunc_114_K, hr, Option.bind_some, hasK, ← e]
  cases hA : (List.range ws.length).all fun i => !decide ((ws.getD i default).key = w.key)
  · obtain ⟨i, _, _, h3⟩ := hf.2 hA
    rw [h3]
    simp only [endOf, sumK, Option.bind_some, Bool.not_false, ge_iff_le]
    rw [decide_eq_true (by omega)]
  · rw [hf.1 hA]; rfl
theorem hasK_append {ws : List GWord} {w : GWord} {k : GKey} : hasK (ws ++ [w]) k = (hasK ws k || decide (w.key = k)) := by
  unfold hasK; rw [List.any_append]; simp
def addW (ws : List GWord) (w : GWord) : List GWord := if w.is = true ∧ hasK ws w.key = false then ws ++ [w] else ws
theorem addW_len {ws : List GWord} {w : GWord} : ws.length ≤ (addW ws w).length ∧ (addW ws w).length ≤ ws.length + 1 := by
  unfold addW; split <;> simp
theorem addW_pre {ws : List GWord} {w : GWord} : ws <+: addW ws w := by
  unfold addW; split
  · exact List.prefix_append _ _
  · exact List.prefix_refl _
theorem addW_has {ws : List GWord} {w : GWord} (h : w.is = true) : hasK (addW ws w) w.key = true := by
  unfold addW
  by_cases hk : hasK ws w.key = true
  · rw [if_neg (by simp [hk])]; exact hk
  · rw [if_pos ⟨h, by simpa using hk⟩, hasK_append, decide_eq_true rfl, Bool.or_true]
theorem hasK_pre {ws vs : List GWord} (h : ws <+: vs) {k : GKey} (hk : hasK ws k = true) : hasK vs k = true := by
  obtain ⟨r, rfl⟩ := h
  unfold hasK at hk ⊢
  rw [List.any_append, hk]; rfl
theorem fold_pre : ∀ (l : List GWord) (ws : List GWord), ws <+: l.foldl addW ws
  | [], ws => List.prefix_refl _
  | w :: l, ws => List.IsPrefix.trans addW_pre (fold_pre l (addW ws w))
theorem fold_has : ∀ (l : List GWord) (ws : List GWord) (w : GWord), w ∈ l → w.is = true → hasK (l.foldl addW ws) w.key = true
  | x :: l, ws, w, hm, hw => by
    rcases List.mem_cons.1 hm with rfl | hm
    · exact hasK_pre (fold_pre l _) (addW_has hw)
    · exact fold_has l _ w hm hw
/-- The memory's words that are not there yet. -/
def left (words ws : List GWord) : Nat := words.countP fun w => w.is && !hasK ws w.key
theorem countP_less {p q : GWord → Bool} : ∀ (l : List GWord), (∀ x ∈ l, q x = true → p x = true) → (∃ x ∈ l, p x = true ∧ q x = false) → l.countP q + 1 ≤ l.countP p
  | [], _, h => by obtain ⟨x, hx, _⟩ := h; simp at hx
  | a :: l, hpq, h => by
    rw [List.countP_cons, List.countP_cons]
    have mono : l.countP q ≤ l.countP p := List.countP_mono_left fun x hx => hpq x (by simp [hx])
    obtain ⟨x, hx, h1, h2⟩ := h
    rcases List.mem_cons.1 hx with rfl | hx
    · rw [h1, h2]; simp; exact mono
    · have ih := countP_less l (fun x hx => hpq x (by simp [hx])) ⟨x, hx, h1, h2⟩
      have ha := hpq a (by simp)
      cases hq : q a with
      | false => simp; omega
      | true => rw [ha hq]; simp; omega
theorem addW_left {words ws : List GWord} {w : GWord} (hw : w ∈ words) : (addW ws w).length + left words (addW ws w) ≤ ws.length + left words ws := by
  unfold addW
  split
  · rename_i h
    rw [List.length_append, List.length_cons, List.length_nil]
    have := countP_less (p := fun x => x.is && !hasK ws x.key) (q := fun x => x.is && !hasK (ws ++ [w]) x.key) words
      (fun x _ hx => by
        simp only [Bool.and_eq_true, Bool.not_eq_true', hasK_append, Bool.or_eq_false_iff] at hx ⊢
        exact ⟨hx.1, hx.2.1⟩)
      ⟨w, hw, by simp [h.1, h.2], by simp [hasK_append]⟩
    unfold left; omega
  · exact Nat.le_refl _
theorem fold_left {words : List GWord} : ∀ (l ws : List GWord), (∀ x ∈ l, x ∈ words) → (l.foldl addW ws).length + left words (l.foldl addW ws) ≤ ws.length + left words ws
  | [], ws, _ => Nat.le_refl _
  | w :: l, ws, h => Nat.le_trans (fold_left l (addW ws w) fun x hx => h x (by simp [hx])) (addW_left (h w (by simp)))
end Go.Eng
/- Plain laws of what words open: the closure. -/
set_option linter.unusedSimpArgs false
set_option linter.unusedVariables false
set_option linter.unusedSectionVars false
namespace Go.Eng
def okAdd (ws : List GWord) (w : GWord) : List GWord := if wordF w = true then addW ws w else ws
theorem okAdd_len {ws : List GWord} {w : GWord} : (okAdd ws w).length ≤ ws.length + 1 := by
  unfold okAdd; split
  · exact addW_len.2
  · omega
theorem okFold_len : ∀ (l ws : List GWord), (l.foldl okAdd ws).length ≤ ws.length + l.length
  | [], ws => by simp
  | w :: l, ws => by
    have h1 := okFold_len l (okAdd ws w)
    have h2 := okAdd_len (ws := ws) (w := w)
    simp only [List.foldl_cons, List.length_cons]; omega
/-- Right words, each key once. -/
def Good (ws : List GWord) : Prop := ws.foldl okAdd [] = ws ∧ ∀ w ∈ ws, w.is = true ∧ wordF w = true
theorem good_nil : Good [] := ⟨rfl, by simp⟩
theorem good_addW {ws : List GWord} {w : GWord} (h : Good ws) (hw : wordF w = true) : Good (addW ws w) := by
  by_cases hc : w.is = true ∧ hasK ws w.key = false
  · have e : addW ws w = ws ++ [w] := by unfold addW; rw [if_pos hc]
    rw [e]
    refine ⟨?_, fun x hx => ?_⟩
    · rw [List.foldl_append, h.1]
      show okAdd ws w = _
      unfold okAdd; rw [if_pos hw, e]
    · rcases List.mem_append.1 hx with hx | hx
      · exact h.2 x hx
      · simp at hx; subst hx; exact ⟨hc.1, hw⟩
  · have e : addW ws w = ws := by unfold addW; rw [if_neg hc]
    rw [e]; exact h
theorem good_okAdd {ws : List GWord} {w : GWord} (h : Good ws) : Good (okAdd ws w) := by
  unfold okAdd; split
  · exact good_addW h (by assumption)
  · exact h
theorem good_okFold : ∀ (l ws : List GWord), Good ws → Good (l.foldl okAdd ws)
  | [], ws, h => h
  | w :: l, ws, h => good_okFold l _ (good_okAdd h)
theorem good_fold : ∀ (l ws : List GWord), Good ws → (∀ w ∈ l, wordF w = true) → Good (l.foldl addW ws)
  | [], ws, h, _ => h
  | w :: l, ws, h, hl => good_fold l _ (good_addW h (hl w (by simp))) fun x hx => hl x (by simp [hx])
theorem okFold_pre : ∀ (l ws : List GWord), ws <+: l.foldl okAdd ws
  | [], ws => List.prefix_refl _
  | w :: l, ws => by
    refine List.IsPrefix.trans ?_ (okFold_pre l (okAdd ws w))
    unfold okAdd; split
    · exact addW_pre
    · exact List.prefix_refl _
theorem okFold_has : ∀ (l ws : List GWord) (w : GWord), w ∈ l → w.is = true → wordF w = true → hasK (l.foldl okAdd ws) w.key = true
  | x :: l, ws, w, hm, hw, hk => by
    rcases List.mem_cons.1 hm with rfl | hm
    · refine hasK_pre (okFold_pre l _) ?_
      unfold okAdd; rw [if_pos hk]; exact addW_has hw
    · exact okFold_has l _ w hm hw hk
theorem foldl_take_succ {β : Type} {f : β → GWord → β} {l : List GWord} {b : β} {i : Nat} (hi : i < l.length) : (l.take (i + 1)).foldl f b = f ((l.take i).foldl f b) (l.getD i default) := by
  rw [List.take_add_one, List.getElem?_eq_getElem hi, Option.toList_some, List.foldl_append, getD_lt hi]; rfl
theorem iAdd {ws : List GWord} (hl : ws.length ≤ 1000000) (w : GWord) : ∃ c, impl_Closure_1 w ws = some (okAdd ws w, c) := by
  simp only [impl_Closure_1, impl_Closure_1_K, iWord, iHas (show ws.length ≤ 1048576 by omega), Option.bind_some, ite_bool, decide_eq_true_eq, beq_true, okAdd, addW]
  by_cases h1 : w.is = true
  · rw [if_pos h1]
    by_cases h2 : wordF w = true
    · rw [if_pos h2, if_pos h2]
      cases h3 : hasK ws w.key
      · rw [if_pos (by rfl), if_pos (by omega), if_pos ⟨h1, rfl⟩]; exact ⟨_, rfl⟩
      · rw [if_neg (by simp), if_neg (by simp)]; exact ⟨_, rfl⟩
    · rw [if_neg h2, if_neg h2]; exact ⟨_, rfl⟩
  · rw [if_neg h1]
    by_cases h2 : wordF w = true
    · rw [if_pos h2, if_neg (fun h => h1 h.1)]; exact ⟨_, rfl⟩
    · rw [if_neg h2]; exact ⟨_, rfl⟩
section
variable {words : List GWord} {gone : List Bool} {x1 : List GWord} (hx : x1.length ≤ 1000)
include hx
theorem iInit : runX (impl_Closure_L0_step words gone x1 ((x1.length : Nat) : Int)) ([], 0) = some (x1.foldl okAdd []) := by
  have hr := runX_for (impl_Closure_L0_step words gone x1 ((x1.length : Nat) : Int)) (fun i : Nat => ((x1.take i).foldl okAdd [], (i : Int))) x1.length (x1.foldl okAdd [])
    (fun i hi => by
      have hl := okFold_len (x1.take i) []
      rw [List.length_take, List.length_nil] at hl
      obtain ⟨c, hc⟩ := iAdd (ws := (x1.take i).foldl okAdd []) (by omega) (x1.getD i default)
      simp only [impl_Closure_L0_step, impl_Closure_L0_K, ite_bool, decide_eq_true_eq, nat_toNat, hc, Option.bind_some, w64_succ (show i < 1073741824 by omega), foldl_take_succ hi]
      repeat (rw [if_pos (by omega)])
      rw [ite_self])
    (by
      simp only [impl_Closure_L0_step, impl_Closure_L0_K, ite_bool, decide_eq_true_eq]
      rw [if_neg (by omega), List.take_length])
  exact hr
theorem sInit : runX (spec_Closure_L0_step words gone x1) ([], 0) = some (x1.foldl okAdd []) := by
  have hr := runX_for (spec_Closure_L0_step words gone x1) (fun i : Nat => ((x1.take i).foldl okAdd [], (i : Int))) x1.length (x1.foldl okAdd [])
    (fun i hi => by
      have hl := okFold_len (x1.take i) []
      rw [List.length_take, List.length_nil] at hl
      simp only [spec_Closure_L0_step, spec_Closure_L0_K, sWord, sHas (show ((x1.take i).foldl okAdd []).length ≤ 1048576 by omega), ite_bool, decide_eq_true_eq, beq_true, nat_toNat, Option.bind_some, w64_succ (show i < 1073741824 by omega), foldl_take_succ hi]
      generalize (x1.take i).foldl okAdd [] = ws at hl
      generalize x1.getD i default = w
      unfold okAdd addW
      repeat (rw [if_pos (show (i : Int) < (x1.length : Int) by omega)])
      repeat (rw [if_pos (show (0 : Int) ≤ (i : Int) by omega)])
      by_cases h2 : wordF w = true
      · rw [if_pos h2, if_pos h2]
        by_cases h1 : w.is = true
        · rw [if_pos h1]
          cases h3 : hasK ws w.key
          · rw [if_pos (by rfl), if_pos (by omega), if_pos ⟨h1, rfl⟩]
          · rw [if_neg (by simp), if_neg (by simp)]
        · rw [if_neg h1, if_neg (fun h => h1 h.1)]
      · rw [if_neg h2, if_neg h2])
    (by
      simp only [spec_Closure_L0_step, spec_Closure_L0_K, ite_bool, decide_eq_true_eq]
      rw [if_neg (by omega), List.take_length])
  exact hr
end
/-! ### what one word opens -/
def seg (words : List GWord) (k : GKey) : List GWord := (words.take k.top.toNat).drop k.base.toNat
theorem seg_mem {words : List GWord} {k : GKey} {w : GWord} (h : w ∈ seg words k) : w ∈ words := List.mem_of_mem_take (List.mem_of_mem_drop h)
section
variable {words : List GWord} {gone : List Bool} {x1 : List GWord} (h24 : words.length = 24) {k : GKey} (hb : 0 ≤ k.base) (ht : k.top ≤ 4096)
include h24 hb ht
theorem seg_len : ((k.base + ((seg words k).length : Nat) : Int) = min k.top 24 ∨ ((seg words k).length = 0 ∧ min k.top 24 ≤ k.base)) := by
  unfold seg
  rw [List.length_drop, List.length_take, h24]
  omega
theorem seg_get {i : Nat} (hi : i < (seg words k).length) : words.getD (k.base + (i : Int)).toNat default = (seg words k).getD i default ∧ (k.base + (i : Int)) < 24 := by
  have hl := seg_len h24 hb ht
  refine ⟨?_, by omega⟩
  rw [List.getD_eq_getElem?_getD, List.getD_eq_getElem?_getD]
  congr 1
  unfold seg at hi ⊢
  rw [List.length_drop, List.length_take] at hi
  rw [List.getElem?_drop, List.getElem?_take, if_pos (by omega)]
  congr 1; omega
variable (hok : ∀ w ∈ words, wordF w = true) {ws : List GWord} (hws : ws.length ≤ 1000) {n4 : Int}
include hok hws
theorem iSeg : runX (impl_Closure_L4_step words gone x1 n4 (min k.top 24)) (ws, k.base) = some ((seg words k).foldl addW ws) := by
  have hl := seg_len h24 hb ht
  have hr := runX_for (impl_Closure_L4_step words gone x1 n4 (min k.top 24)) (fun i : Nat => (((seg words k).take i).foldl addW ws, k.base + (i : Int))) (seg words k).length ((seg words k).foldl addW ws)
    (fun i hi => by
      obtain ⟨g1, g2⟩ := seg_get h24 hb ht hi
      have hlen : (((seg words k).take i).foldl addW ws).length ≤ ws.length + i := by
        have := fold_left (words := words) ((seg words k).take i) ws (fun x hx => seg_mem (List.mem_of_mem_take hx))
        have h2 : left words ws ≤ 24 := by unfold left; rw [← h24]; exact List.countP_le_length
        have h3 : ∀ (l vs : List GWord), (l.foldl addW vs).length ≤ vs.length + l.length := fun l => by
          induction l with
          | nil => intro vs; simp
          | cons w l ih => intro vs; have := ih (addW vs w); have := (addW_len (ws := vs) (w := w)).2; simp only [List.foldl_cons, List.length_cons]; omega
        have := h3 ((seg words k).take i) ws
        rw [List.length_take] at this; omega
      have hwk : wordF ((seg words k).getD i default) = true := hok _ (by rw [getD_lt hi]; exact seg_mem (List.getElem_mem hi))
      obtain ⟨c, hc⟩ := iAdd (ws := ((seg words k).take i).foldl addW ws) (by omega) ((seg words k).getD i default)
      have e : okAdd (((seg words k).take i).foldl addW ws) ((seg words k).getD i default) = addW (((seg words k).take i).foldl addW ws) ((seg words k).getD i default) := by unfold okAdd; rw [if_pos hwk]
      have w1 : w64 (k.base + (i : Int) + 1) = k.base + ((i + 1 : Nat) : Int) := by rw [w64_id (by omega) (by omega)]; omega
      simp only [impl_Closure_L4_step, impl_Closure_L4_K, ite_bool, decide_eq_true_eq, g1, hc, e, w1, Option.bind_some, foldl_take_succ hi]
      repeat (rw [if_pos (by omega)])
      rw [ite_self])
    (by
      simp only [impl_Closure_L4_step, impl_Closure_L4_K, ite_bool, decide_eq_true_eq]
      rw [if_neg (by omega), List.take_length])
  rw [show k.base + ((0 : Nat) : Int) = k.base by omega] at hr
  exact hr
theorem sSeg : runX (spec_Closure_L4_step words gone x1 k.base k.top k.perms k.seal_ n4) (ws, k.base) = some ((seg words k).foldl addW ws) := by
  have hl := seg_len h24 hb ht
  have hr := runX_for (spec_Closure_L4_step words gone x1 k.base k.top k.perms k.seal_ n4) (fun i : Nat => (((seg words k).take i).foldl addW ws, k.base + (i : Int))) (seg words k).length ((seg words k).foldl addW ws)
    (fun i hi => by
      obtain ⟨g1, g2⟩ := seg_get h24 hb ht hi
      have hlen : (((seg words k).take i).foldl addW ws).length ≤ ws.length + i := by
        have h3 : ∀ (l vs : List GWord), (l.foldl addW vs).length ≤ vs.length + l.length := fun l => by
          induction l with
          | nil => intro vs; simp
          | cons w l ih => intro vs; have := ih (addW vs w); have := (addW_len (ws := vs) (w := w)).2; simp only [List.foldl_cons, List.length_cons]; omega
        have := h3 ((seg words k).take i) ws
        rw [List.length_take] at this; omega
      have w1 : w64 (k.base + (i : Int) + 1) = k.base + ((i + 1 : Nat) : Int) := by rw [w64_id (by omega) (by omega)]; omega
      simp only [spec_Closure_L4_step, spec_Closure_L4_K, l1Min_eq, Option.bind_some, g1, sHas (show (((seg words k).take i).foldl addW ws).length ≤ 1048576 by omega), ite_bool, decide_eq_true_eq, beq_true, w1, foldl_take_succ hi]
      generalize ((seg words k).take i).foldl addW ws = vs at hlen
      generalize (seg words k).getD i default = w
      rw [if_pos (show k.base + (i : Int) < min k.top 24 by omega), if_pos (show 0 ≤ k.base + (i : Int) by omega), if_pos (show k.base + (i : Int) < (words.length : Int) by omega)]
      unfold addW
      by_cases h1 : w.is = true
      · rw [if_pos h1]
        cases h3 : hasK vs w.key
        · rw [if_pos (by rfl), if_pos (by omega), if_pos ⟨h1, rfl⟩]
        · rw [if_neg (by simp), if_neg (by simp)]
      · rw [if_neg h1, if_neg (fun h => h1 h.1)])
    (by
      simp only [spec_Closure_L4_step, spec_Closure_L4_K, l1Min_eq, Option.bind_some, ite_bool, decide_eq_true_eq]
      rw [if_neg (by omega), List.take_length])
  rw [show k.base + ((0 : Nat) : Int) = k.base by omega] at hr
  exact hr
end
end Go.Eng
/- Plain laws of what words open: the closure is closed, and both sides' is the same. -/
set_option linter.unusedSimpArgs false
set_option linter.unusedVariables false
set_option linter.unusedSectionVars false
namespace Go.Eng
def reads (w : GWord) : Bool := !((bits .and .i64 w.key.perms 1) == 0) && !((bits .and .i64 w.key.perms 8) == 0)
def nextC (words ws : List GWord) (n : Nat) : List GWord := cond (reads (ws.getD n default)) ((seg words (ws.getD n default).key).foldl addW ws) ws
theorem word_key {w : GWord} (h : w.is = true) (hw : wordF w = true) : 0 ≤ w.key.base ∧ w.key.base ≤ w.key.top ∧ w.key.top ≤ 4096 := by
  unfold wordF at hw
  rw [h, cond_true] at hw
  simp only [Bool.and_eq_true] at hw
  have hk := hw.2
  unfold keyF exactF at hk
  simp only [Bool.and_eq_true] at hk
  exact bOk_iff.1 hk.1.1.1.1
theorem fold_fix : ∀ (l ws : List GWord), (∀ w ∈ l, w.is = true → hasK ws w.key = true) → l.foldl addW ws = ws
  | [], ws, _ => rfl
  | w :: l, ws, h => by
    have e : addW ws w = ws := by
      unfold addW
      by_cases hc : w.is = true
      · rw [if_neg (by rw [h w (by simp) hc]; simp)]
      · rw [if_neg (fun x => hc x.1)]
    rw [List.foldl_cons, e]
    exact fold_fix l ws fun x hx => h x (by simp [hx])
def Closed (words C : List GWord) : Prop := ∀ w ∈ C, reads w = true → ∀ v ∈ seg words w.key, v.is = true → hasK C v.key = true
section
variable {words : List GWord} {gone : List Bool} {x1 : List GWord} (h24 : words.length = 24) (hok : ∀ w ∈ words, wordF w = true)
include h24 hok
theorem iStep {ws : List GWord} {n : Nat} (hg : Good ws) (hl : ws.length ≤ 1000) (hn : n < ws.length) : impl_Closure_L2_step words gone x1 (ws, (n : Int)) = some (.again (nextC words ws n, ((n + 1 : Nat) : Int))) := by
  have hw := hg.2 (ws.getD n default) (by rw [getD_lt hn]; exact List.getElem_mem hn)
  have hk := word_key hw.1 hw.2
  have hs := iSeg (gone := gone) (x1 := x1) (n4 := (n : Int)) h24 hk.1 hk.2.2 hok hl
  simp only [impl_Closure_L2_step, impl_Closure_L2_K, impl_spanned, impl_spanned_K, mn_eq, ite_bool, decide_eq_true_eq, nat_toNat, Option.bind_some, hs, w64_succ (show n < 1073741824 by omega), nextC, reads]
  repeat (rw [if_pos (by omega)])
  cases (bits BinOp.and IntKind.i64 (ws.getD n default).key.perms 1) == 0 <;> cases (bits BinOp.and IntKind.i64 (ws.getD n default).key.perms 8) == 0 <;> rfl
theorem sStep {ws : List GWord} {n : Nat} (hg : Good ws) (hl : ws.length ≤ 1000) (hn : n < ws.length) : spec_Closure_L2_step words gone x1 (ws, (n : Int)) = some (.again (nextC words ws n, ((n + 1 : Nat) : Int))) := by
  have hw := hg.2 (ws.getD n default) (by rw [getD_lt hn]; exact List.getElem_mem hn)
  have hk := word_key hw.1 hw.2
  have hs := sSeg (gone := gone) (x1 := x1) (n4 := (n : Int)) h24 hk.1 hk.2.2 hok hl
  simp only [spec_Closure_L2_step, spec_Closure_L2_K, ite_bool, decide_eq_true_eq, nat_toNat, Option.bind_some, hs, w64_succ (show n < 1073741824 by omega), nextC, reads]
  repeat (rw [if_pos (by omega)])
  cases (bits BinOp.and IntKind.i64 (ws.getD n default).key.perms 1) == 0 <;> cases (bits BinOp.and IntKind.i64 (ws.getD n default).key.perms 8) == 0 <;> rfl
theorem left_le {ws : List GWord} : left words ws ≤ 24 := by unfold left; rw [← h24]; exact List.countP_le_length
theorem next_left {ws : List GWord} {n : Nat} : (nextC words ws n).length + left words (nextC words ws n) ≤ ws.length + left words ws := by
  unfold nextC; cases reads (ws.getD n default)
  · exact Nat.le_refl _
  · exact fold_left _ _ fun x hx => seg_mem hx
theorem next_pre {ws : List GWord} {n : Nat} : ws <+: nextC words ws n := by
  unfold nextC; cases reads (ws.getD n default)
  · exact List.prefix_refl _
  · exact fold_pre _ _
theorem next_good {ws : List GWord} {n : Nat} (hg : Good ws) : Good (nextC words ws n) := by
  unfold nextC; cases reads (ws.getD n default)
  · exact hg
  · exact good_fold _ _ hg fun w hw => hok w (seg_mem hw)
theorem pre_getD {ws vs : List GWord} (h : ws <+: vs) {j : Nat} (hj : j < ws.length) : vs.getD j default = ws.getD j default := by
  obtain ⟨r, rfl⟩ := h
  rw [List.getD_eq_getElem?_getD, List.getD_eq_getElem?_getD, List.getElem?_append_left hj]
theorem closure_loop {ws0 : List GWord} (hg0 : Good ws0) (hl0 : ws0.length ≤ 900) :
    ∃ C, runX (impl_Closure_L2_step words gone x1) (ws0, 0) = some C ∧ runX (spec_Closure_L2_step words gone x1) (ws0, 0) = some C ∧ Good C ∧ ws0 <+: C ∧ C.length ≤ ws0.length + 24 ∧ Closed words C := by
  refine runX_two _ _ (fun s : List GWord × Int => Good s.1 ∧ 0 ≤ s.2 ∧ s.2 ≤ s.1.length ∧ s.1.length + left words s.1 ≤ ws0.length + 24 ∧ ws0 <+: s.1 ∧ ∀ j : Nat, (j : Int) < s.2 → reads (s.1.getD j default) = true → ∀ v ∈ seg words (s.1.getD j default).key, v.is = true → hasK s.1 v.key = true)
    (fun C => Good C ∧ ws0 <+: C ∧ C.length ≤ ws0.length + 24 ∧ Closed words C) (fun s => s.1.length + left words s.1 - s.2.toNat) (fun s hs => ?_) (ws0, 0) ⟨hg0, by simp, by simp, by have := left_le h24 hok (ws := ws0); simp only; omega, List.prefix_refl _, fun j hj => by simp only at hj; omega⟩
  obtain ⟨ws, n'⟩ := s
  obtain ⟨g0, g1, g2, g3, g4, g5⟩ := hs
  simp only at g0 g1 g2 g3 g4 g5
  obtain ⟨n, rfl⟩ : ∃ n : Nat, n' = (n : Int) := ⟨n'.toNat, by omega⟩
  have hl : ws.length ≤ 1000 := by omega
  by_cases hn : n < ws.length
  · have hp := next_pre h24 hok (ws := ws) (n := n)
    have hlp := hp.length_le
    refine .inl ⟨_, iStep h24 hok g0 hl hn, sStep h24 hok g0 hl hn, ⟨next_good h24 hok g0, by simp only; omega, by simp only; omega, Nat.le_trans (next_left h24 hok) g3, List.IsPrefix.trans g4 hp, fun j hj hr v hv hi => ?_⟩, ?_⟩
    · simp only at hj hr hv ⊢
      have hjn : j ≤ n := by omega
      rw [pre_getD h24 hok hp (show j < ws.length by omega)] at hr hv
      by_cases e : j = n
      · subst e
        have : nextC words ws j = (seg words (ws.getD j default).key).foldl addW ws := by unfold nextC; rw [hr]; rfl
        rw [this]
        exact fold_has _ _ _ hv hi
      · exact hasK_pre hp (g5 j (by omega) hr v hv hi)
    · have := next_left h24 hok (ws := ws) (n := n)
      simp only; omega
  · have e : (n : Int) = ws.length := by omega
    refine .inr ⟨ws, ?_, ?_, g0, g4, by omega, fun w hw hr v hv hi => ?_⟩
    · simp only [impl_Closure_L2_step, impl_Closure_L2_K, ite_bool, decide_eq_true_eq]
      rw [if_neg (by omega)]
    · simp only [spec_Closure_L2_step, spec_Closure_L2_K, ite_bool, decide_eq_true_eq]
      rw [if_neg (by omega)]
    · obtain ⟨j, hj, rfl⟩ := List.getElem_of_mem hw
      rw [← getD_lt (d := default) hj] at hr hv
      exact g5 j (by omega) hr v hv hi
theorem closure_fix {C : List GWord} (hg : Good C) (hl : C.length ≤ 1000) (hc : Closed words C) : runX (impl_Closure_L2_step words gone x1) (C, 0) = some C := by
  have hr := runX_for (impl_Closure_L2_step words gone x1) (fun i : Nat => (C, (i : Int))) C.length C
    (fun i hi => by
      have hs := iStep (gone := gone) (x1 := x1) h24 hok hg hl hi
      have e : nextC words C i = C := by
        unfold nextC
        cases hr : reads (C.getD i default)
        · rfl
        · exact fold_fix _ _ fun w hw hwi => hc _ (by rw [getD_lt hi]; exact List.getElem_mem hi) hr w hw hwi
      rw [e] at hs
      exact hs)
    (by
      simp only [impl_Closure_L2_step, impl_Closure_L2_K, ite_bool, decide_eq_true_eq]
      rw [if_neg (by omega)])
  exact hr
end
theorem mem_facts {m : GMemory} (h : memF m = true) : m.words.length = 24 ∧ m.gone.length = 24 ∧ ∀ w ∈ m.words, wordF w = true := by
  unfold memF at h
  simp only [Bool.and_eq_true, beq_iff_eq] at h
  refine ⟨h.1, h.2.1, fun w hw => ?_⟩
  obtain ⟨i, hi, rfl⟩ := List.getElem_of_mem hw
  have := all_ok.1 h.2.2 i (by omega)
  rwa [getD_lt hi] at this
theorem closure_eq (m : GMemory) (x1 : List GWord) (hx : x1.length ≤ 800) : ∃ C, impl_Closure m x1 = some C ∧ spec_Closure m x1 = some C ∧ C.length ≤ x1.length + 24 ∧ (memF m = false → C = []) ∧ (memF m = true → Good C ∧ x1.foldl okAdd [] <+: C ∧ Closed m.words C) := by
  simp only [impl_Closure, impl_Closure_K, spec_Closure, spec_Closure_K, iMemory, sMemory, Option.bind_some]
  cases hm : memF m
  · exact ⟨[], rfl, rfl, by simp, fun _ => rfl, fun h => by simp at h⟩
  · obtain ⟨f1, f2, f3⟩ := mem_facts hm
    have hl := okFold_len x1 []
    simp only [List.length_nil, Nat.zero_add] at hl
    obtain ⟨C, k1, k2, k3, k4, k5, k6⟩ := closure_loop (gone := m.gone) (x1 := x1) f1 f3 (good_okFold x1 [] good_nil) (by omega)
    refine ⟨C, ?_, ?_, by omega, fun h => by simp at h, fun _ => ⟨k3, k4, k6⟩⟩
    · simp only [Bool.not_true, cond_false, iInit (show x1.length ≤ 1000 by omega), Option.bind_some, k1]
    · simp only [Bool.not_true, cond_false, sInit (show x1.length ≤ 1000 by omega), Option.bind_some, k2]
theorem closure_again {m : GMemory} {C : List GWord} (hm : memF m = true) (hg : Good C) (hl : C.length ≤ 1000) (hc : Closed m.words C) : impl_Closure m C = some C := by
  obtain ⟨f1, f2, f3⟩ := mem_facts hm
  simp only [impl_Closure, impl_Closure_K, iMemory, Option.bind_some, hm, Bool.not_true, cond_false, iInit hl, hg.1, closure_fix f1 f3 hg hl hc]
end Go.Eng
/- Plain laws of what words open: cells, seals, and the law. -/
set_option linter.unusedSimpArgs false
set_option linter.unusedVariables false
set_option linter.unusedSectionVars false
namespace Go.Eng
open Go.Proofs
/-- Cells from a on, k of them, marked besides. -/
def setR (l : List Bool) (a k : Nat) : List Bool := (List.range 24).map fun c => (decide (a ≤ c) && decide (c < a + k)) || l.getD c false
theorem setR_len {l : List Bool} {a k : Nat} : (setR l a k).length = 24 := by simp [setR]
theorem map24_get {α : Type} (f : Nat → α) (d : α) {c : Nat} (hc : c < 24) : ((List.range 24).map f).getD c d = f c := by
  rw [getD_lt (by simpa using hc)]; simp
theorem list24 {α : Type} (d : α) {l : List α} (h : l.length = 24) : l = (List.range 24).map fun c => l.getD c d := by
  apply List.ext_getElem (by simp [h])
  intro i h1 h2
  simp [h1]
theorem setR_zero {l : List Bool} (h : l.length = 24) {a : Nat} : setR l a 0 = l := by
  conv => rhs; rw [list24 false h]
  unfold setR
  apply List.map_congr_left
  intro c _
  have : (decide (a ≤ c) && decide (c < a + 0)) = false := by rw [← Bool.not_eq_true]; simp
  rw [this, Bool.false_or]
theorem map24_set {α : Type} (f : Nat → α) {i : Nat} (x : α) : ((List.range 24).map f).set i x = (List.range 24).map fun c => if c = i then x else f c := by
  apply List.ext_getElem (by simp)
  intro j h1 h2
  rw [List.getElem_set]
  simp only [List.getElem_map, List.getElem_range]
  by_cases e : i = j
  · subst e; simp
  · rw [if_neg e, if_neg (fun h => e h.symm)]
theorem setR_succ {l : List Bool} {a k : Nat} : (setR l a k).set (a + k) true = setR l a (k + 1) := by
  unfold setR
  rw [map24_set]
  apply List.map_congr_left
  intro c _
  by_cases e : c = a + k
  · subst e
    have : (decide (a ≤ a + k) && decide (a + k < a + (k + 1))) = true := by simp
    rw [if_pos rfl, this]; rfl
  · rw [if_neg e]
    have : (decide (a ≤ c) && decide (c < a + k)) = (decide (a ≤ c) && decide (c < a + (k + 1))) := by
      rw [Bool.eq_iff_iff]; simp; omega
    rw [this]
theorem setR_get {l : List Bool} {a k c : Nat} (hc : c < 24) : (setR l a k).getD c false = ((decide (a ≤ c) && decide (c < a + k)) || l.getD c false) := by
  unfold setR; rw [map24_get _ _ hc]

theorem runX_find {σ τ : Type} (step : σ → Option (Rnd σ τ Unit)) (st : Nat → σ) (N : Nat) (p : Nat → Bool) (t1 t0 : τ) (hs : ∀ i, i < N → step (st i) = some (cond (p i) (.exit t1) (.again (st (i + 1))))) (he : step (st N) = some (.exit t0)) : runX step (st 0) = some (cond ((List.range N).any p) t1 t0) := by
  have key : ∀ m i, i + m = N → runX step (st i) = some (cond ((List.range' i m).any p) t1 t0) := by
    intro m
    induction m with
    | zero => intro i hi; have : i = N := by omega
              subst this; rw [runX_eq, he]; rfl
    | succ m ih =>
      intro i hi
      rw [runX_eq, hs i (by omega), List.range'_succ, List.any_cons]
      cases hp : p i with
      | true => rfl
      | false => rw [Bool.false_or]; exact ih (i + 1) (by omega)
  have := key N 0 (by omega)
  rwa [← List.range_eq_range'] at this
theorem range_any {α : Type} {l : List α} {p : α → Bool} {d : α} : ((List.range l.length).any fun i => p (l.getD i d)) = l.any p := by
  rw [← all_any (d := d), List.any_eq_not_all_not]
theorem take_succ_get {α : Type} {l : List α} {i : Nat} {d : α} (hi : i < l.length) : l.take (i + 1) = l.take i ++ [l.getD i d] := by
  rw [List.take_add_one, getD_lt hi, List.getElem?_eq_getElem hi]; rfl
/-- What a word with these rights opens. -/
def opens (p : Int) (c : Nat) (w : GWord) : Bool := ((bits .and .i64 w.key.perms p) != 0) && (decide (w.key.base ≤ c) && decide ((c : Int) < w.key.top))
def cellsF (C : List GWord) (p : Int) (n : Nat) : List Int := ((List.range n).filter fun c => C.any (opens p c)).map fun i : Nat => (i : Int)
theorem cells_succ {C : List GWord} {p : Int} {n : Nat} : cellsF C p (n + 1) = cellsF C p n ++ cond (C.any (opens p n)) [(n : Int)] [] := by
  unfold cellsF
  rw [List.range_succ, List.filter_append, List.map_append]
  congr 1
  cases h : C.any (opens p n) <;> simp [h]
theorem cells_len {C : List GWord} {p : Int} {n : Nat} : (cellsF C p n).length ≤ n := by
  unfold cellsF
  rw [List.length_map]
  have := List.length_filter_le (fun c => C.any (opens p c)) (List.range n)
  rwa [List.length_range] at this
theorem has_eq (w : GWord) (p : Int) : impl_has w p = some (cond w.is ((bits .and .i64 w.key.perms p) != 0) false) := by
  simp only [impl_has, impl_has_K]
  cases w.is <;> rfl
section
variable {words : List GWord} {gone : List Bool} {x1 C : List GWord} {p : Int} (hC : ∀ w ∈ C, w.is = true ∧ wordF w = true) (hl : C.length ≤ 1000)
include hC hl
def covC (p : Int) (l : List GWord) : List Bool := (List.range 24).map fun c => l.any (opens p c)
theorem iCells0 : runX (impl_cellsBy_L0_step words gone x1 C p ((C.length : Nat) : Int)) (List.replicate 24 false, 0) = some (covC p C) := by
  have hz : covC p (C.take 0) = List.replicate 24 false := by
    unfold covC
    apply List.ext_getElem (by simp)
    intro i h1 h2
    rw [List.getElem_replicate]; simp
  have hr := runX_for (impl_cellsBy_L0_step words gone x1 C p ((C.length : Nat) : Int)) (fun i : Nat => (covC p (C.take i), (i : Int))) C.length (covC p C)
    (fun i hi => by
      have hw := hC (C.getD i default) (by rw [getD_lt hi]; exact List.getElem_mem hi)
      have hk := word_key hw.1 hw.2
      have hlen : (covC p (C.take i)).length = 24 := by simp [covC]
      simp only [impl_cellsBy_L0_step, impl_cellsBy_L0_K, has_eq, hw.1, cond_true, impl_spanned, impl_spanned_K, mn_eq, Option.bind_some, ite_bool, decide_eq_true_eq, nat_toNat, w64_succ (show i < 1073741824 by omega)]
      rw [take_succ_get (d := default) hi]
      generalize C.getD i default = w at hw hk
      repeat (rw [if_pos (by omega)])
      cases hb : (bits .and .i64 w.key.perms p) != 0
      · rw [if_pos (by rfl)]
        congr 3
        unfold covC
        apply List.map_congr_left
        intro c _
        rw [List.any_append, List.any_cons, List.any_nil]
        unfold opens
        rw [hb]; simp
      · rw [if_neg (by simp)]
        obtain ⟨a, ha⟩ : ∃ a : Nat, w.key.base = a := ⟨w.key.base.toNat, by omega⟩
        obtain ⟨t, ht⟩ : ∃ t : Nat, w.key.top = t := ⟨w.key.top.toNat, by omega⟩
        have inner := runX_for (impl_cellsBy_L2_step words gone x1 C p (min w.key.top 24) ((C.length : Nat) : Int) (i : Int)) (fun k : Nat => (setR (covC p (C.take i)) a k, ((a + k : Nat) : Int))) (min t 24 - a) (setR (covC p (C.take i)) a (min t 24 - a))
          (fun k hk => by
            simp only [impl_cellsBy_L2_step, impl_cellsBy_L2_K, ite_bool, decide_eq_true_eq, nat_toNat, setR_len, w64_succ (show a + k < 1073741824 by omega), setR_succ]
            repeat (rw [if_pos (by omega)])
            rfl)
          (by
            simp only [impl_cellsBy_L2_step, impl_cellsBy_L2_K, ite_bool, decide_eq_true_eq]
            rw [if_neg (by omega)])
        rw [setR_zero hlen, Nat.add_zero, ← ha] at inner
        rw [inner]
        simp only [Option.bind_some]
        congr 3
        unfold setR
        conv => rhs; unfold covC
        apply List.map_congr_left
        intro c hc
        have hc' := List.mem_range.1 hc
        rw [List.any_append, List.any_cons, List.any_nil, Bool.or_false, Bool.or_comm]
        congr 1
        · unfold covC; rw [map24_get _ _ hc']
        · unfold opens
          rw [hb, Bool.true_and, ha, ht, Bool.eq_iff_iff]
          simp only [Bool.and_eq_true, decide_eq_true_eq]
          omega)
    (by
      simp only [impl_cellsBy_L0_step, impl_cellsBy_L0_K, ite_bool, decide_eq_true_eq]
      rw [if_neg (by omega), List.take_length])
  rw [hz, show ((0 : Nat) : Int) = 0 from rfl] at hr
  exact hr
theorem iCells1 : runX (impl_cellsBy_L4_step words gone x1 (covC p C) (((covC p C).length : Nat) : Int)) ([], 0) = some (cellsF C p 24) := by
  have hlen : (covC p C).length = 24 := by simp [covC]
  rw [hlen]
  have hr := runX_for (impl_cellsBy_L4_step words gone x1 (covC p C) ((24 : Nat) : Int)) (fun i : Nat => (cellsF C p i, (i : Int))) 24 (cellsF C p 24)
    (fun i hi => by
      have h1 := cells_len (C := C) (p := p) (n := i)
      have hg : (covC p C).getD i false = C.any (opens p i) := by unfold covC; rw [map24_get _ _ hi]
      simp only [impl_cellsBy_L4_step, impl_cellsBy_L4_K, hlen, hg, nat_toNat, w64_succ (show i < 1073741824 by omega), decide_eq_true (show ((cellsF C p i).length + 1) * 8 ≤ 140737488355328 by omega), decide_eq_true (show (i : Int) < ((24 : Nat) : Int) by omega), decide_eq_true (show (0 : Int) ≤ (i : Int) by omega), cond_true, cells_succ]
      cases C.any (opens p i) <;> simp)
    (by
      simp only [impl_cellsBy_L4_step, impl_cellsBy_L4_K, ite_bool, decide_eq_true_eq]
      rw [if_neg (by omega)])
  exact hr
theorem sCells : runX (spec_l21Cells_L0_step words gone x1 C p) ([], 0) = some (cellsF C p 24) := by
  have hr := runX_for (spec_l21Cells_L0_step words gone x1 C p) (fun i : Nat => (cellsF C p i, (i : Int))) 24 (cellsF C p 24)
    (fun c hc => by
      have h1 := cells_len (C := C) (p := p) (n := c)
      have hf := runX_find (spec_l21Cells_L2_step words gone x1 C (cellsF C p c) p (c : Int)) (fun i : Nat => (i : Int)) C.length (fun i => opens p c (C.getD i default)) (cellsF C p c ++ [(c : Int)]) (cellsF C p c)
        (fun i hi => by
          have hw := hC (C.getD i default) (by rw [getD_lt hi]; exact List.getElem_mem hi)
          have hk := word_key hw.1 hw.2
          have w1 : w64 ((C.getD i default).key.top - 1) = (C.getD i default).key.top - 1 := w64_id (by omega) (by omega)
          simp only [spec_l21Cells_L2_step, spec_l21Cells_L2_K, l1In_eq, Option.bind_some, w1, nat_toNat, w64_succ (show i < 1073741824 by omega), decide_eq_true (show ((cellsF C p c).length + 1) * 8 ≤ 140737488355328 by omega), decide_eq_true (show (i : Int) < (C.length : Int) by omega), decide_eq_true (show (0 : Int) ≤ (i : Int) by omega), cond_true, opens]
          generalize C.getD i default = w
          have e : decide ((c : Int) ≤ w.key.top - 1) = decide ((c : Int) < w.key.top) := by rw [Bool.eq_iff_iff]; simp; omega
          rw [e]
          cases (bits .and .i64 w.key.perms p) != 0 <;> cases decide (w.key.base ≤ (c : Int)) <;> cases decide ((c : Int) < w.key.top) <;> rfl)
        (by
          simp only [spec_l21Cells_L2_step, spec_l21Cells_L2_K, ite_bool, decide_eq_true_eq]
          rw [if_neg (by omega)])
      rw [range_any, show ((0 : Nat) : Int) = 0 from rfl] at hf
      simp only [spec_l21Cells_L0_step, spec_l21Cells_L0_K, hf, Option.bind_some, w64_succ (show c < 1073741824 by omega), decide_eq_true (show (c : Int) < 24 by omega), cond_true, cells_succ]
      cases C.any (opens p c) <;> simp)
    (by
      simp only [spec_l21Cells_L0_step, spec_l21Cells_L0_K, ite_bool, decide_eq_true_eq]
      rw [if_neg (by omega)])
  exact hr
end
end Go.Eng
/- Plain laws of what words open: the law. -/
set_option linter.unusedSimpArgs false
set_option linter.unusedVariables false
set_option linter.unusedSectionVars false
namespace Go.Eng
open Go.Proofs
theorem cells_eq (m : GMemory) (x1 : List GWord) (hx : x1.length ≤ 800) (p : Int) : ∃ r, impl_cellsBy m x1 p = some r ∧ spec_l21Cells m x1 p = some r ∧ r.length ≤ 24 := by
  obtain ⟨C, k1, k2, k3, k4, k5⟩ := closure_eq m x1 hx
  have hC : ∀ w ∈ C, w.is = true ∧ wordF w = true := by
    cases hm : memF m
    · rw [k4 hm]; simp
    · exact (k5 hm).1.2
  refine ⟨cellsF C p 24, ?_, ?_, cells_len⟩
  · simp only [impl_cellsBy, impl_cellsBy_K, k1, Option.bind_some, iCells0 hC (show C.length ≤ 1000 by omega), iCells1 hC (show C.length ≤ 1000 by omega)]
  · simp only [spec_l21Cells, spec_l21Cells_K, k2, Option.bind_some, sCells hC (show C.length ≤ 1000 by omega)]
theorem load_eq (m : GMemory) (x1 : List GWord) (hx : x1.length ≤ 800) : ∃ r, impl_LoadCells m x1 = some r ∧ spec_LoadCells m x1 = some r ∧ r.length ≤ 24 := by
  obtain ⟨r, r1, r2, r3⟩ := cells_eq m x1 hx 1
  exact ⟨r, by simp only [impl_LoadCells, impl_LoadCells_K, r1, Option.bind_some], by simp only [spec_LoadCells, spec_LoadCells_K, r2, Option.bind_some], r3⟩
theorem store_eq (m : GMemory) (x1 : List GWord) (hx : x1.length ≤ 800) : ∃ r, impl_StoreCells m x1 = some r ∧ spec_StoreCells m x1 = some r ∧ r.length ≤ 24 := by
  obtain ⟨r, r1, r2, r3⟩ := cells_eq m x1 hx 2
  exact ⟨r, by simp only [impl_StoreCells, impl_StoreCells_K, r1, Option.bind_some], by simp only [spec_StoreCells, spec_StoreCells_K, r2, Option.bind_some], r3⟩
theorem seal_eq (m : GMemory) (x1 : List GWord) (hx : x1.length ≤ 800) : ∃ r, impl_CanSeal m x1 = some r ∧ spec_CanSeal m x1 = some r := by
  obtain ⟨C, k1, k2, k3, k4, k5⟩ := closure_eq m x1 hx
  have hC : ∀ w ∈ C, w.is = true ∧ wordF w = true := by
    cases hm : memF m
    · rw [k4 hm]; simp
    · exact (k5 hm).1.2
  have e := all_any (l := C) (p := fun w => (bits .and .i64 w.key.perms 32) != 0) (d := default)
  refine ⟨C.any fun w => (bits .and .i64 w.key.perms 32) != 0, ?_, ?_⟩
  · have hr := runL_for (slices_IndexFunc_122_L0_step C ((C.length : Nat) : Int)) (fun i : Nat => (i : Int)) C.length (fun i => if (!((bits .and .i64 (C.getD i default).key.perms 32) != 0)) = true then none else some (i : Int)) ()
      (fun i hi _ => by
        have hw := hC (C.getD i default) (by rw [getD_lt hi]; exact List.getElem_mem hi)
        simp only [slices_IndexFunc_122_L0_step, slices_IndexFunc_122_L0_K, impl_CanSeal_1, impl_CanSeal_1_K, has_eq, hw.1, cond_true, ite_bool, decide_eq_true_eq, nat_toNat, Option.bind_some, w64_succ (show i < 1073741824 by omega)]
        repeat (rw [if_pos (by omega)])
        cases (bits BinOp.and IntKind.i64 (C.getD i default).key.perms 32) != 0 <;> rfl)
      (fun _ => by
        simp only [slices_IndexFunc_122_L0_step, slices_IndexFunc_122_L0_K, ite_bool, decide_eq_true_eq]
        rw [if_neg (by omega)])
    rw [show ((0 : Nat) : Int) = 0 from rfl] at hr
    have hf := findS (N := C.length) (good := fun i => !((bits .and .i64 (C.getD i default).key.perms 32) != 0)) (k := fun i => (i : Int))
    simp only [impl_CanSeal, impl_CanSeal_K, k1, slices_ContainsFunc_122, slices_ContainsFunc_122_K, slices_IndexFunc_122, slices_IndexFunc_122_K, hr, Option.bind_some, ← e]
    cases hA : (List.range C.length).all fun i => !((bits .and .i64 (C.getD i default).key.perms 32) != 0)
    · obtain ⟨i, _, _, h3⟩ := hf.2 hA
      rw [h3]
      simp only [endOf, sumK, Option.bind_some, Bool.not_false, ge_iff_le]
      rw [decide_eq_true (by omega)]
    · rw [hf.1 hA]; rfl
  · have hr := runL_for (spec_CanSeal_L0_step m.words m.gone x1 C) (fun i : Nat => (i : Int)) C.length (fun i => if (!((bits .and .i64 (C.getD i default).key.perms 32) != 0)) = true then none else some ()) ()
      (fun i hi _ => by
        simp only [spec_CanSeal_L0_step, spec_CanSeal_L0_K, ite_bool, decide_eq_true_eq, nat_toNat, w64_succ (show i < 1073741824 by omega)]
        repeat (rw [if_pos (by omega)])
        cases (bits BinOp.and IntKind.i64 (C.getD i default).key.perms 32) != 0 <;> rfl)
      (fun _ => by
        simp only [spec_CanSeal_L0_step, spec_CanSeal_L0_K, ite_bool, decide_eq_true_eq]
        rw [if_neg (by omega)])
    rw [show ((0 : Nat) : Int) = 0 from rfl] at hr
    have hf := findS (N := C.length) (good := fun i => !((bits .and .i64 (C.getD i default).key.perms 32) != 0)) (k := fun _ => ())
    simp only [spec_CanSeal, spec_CanSeal_K, k2, hr, Option.bind_some, ← e]
    cases hA : (List.range C.length).all fun i => !((bits .and .i64 (C.getD i default).key.perms 32) != 0)
    · obtain ⟨i, _, _, h3⟩ := hf.2 hA
      rw [h3]; rfl
    · rw [hf.1 hA]; rfl
theorem sameWords_refl (l : List GWord) (h : l.length ≤ 1048576) : laws_sameWords l l = some true := by
  have hr := runL_thru (laws_sameWords_L0_step l l) (fun i : Nat => (i : Int)) l.length ()
    (fun i hi => by
      simp only [laws_sameWords_L0_step, laws_sameWords_L0_K, beq_self_eq_true, Bool.and_true, Bool.not_true, cond_false, ite_bool, decide_eq_true_eq, nat_toNat, w64_succ (show i < 1073741824 by omega)]
      repeat (rw [if_pos (by omega)])
      rw [if_neg (by simp)])
    (by simp only [laws_sameWords_L0_step, laws_sameWords_L0_K, ite_bool, decide_eq_true_eq]
        rw [if_neg (by omega)])
  rw [show ((0 : Nat) : Int) = 0 from rfl] at hr
  simp [laws_sameWords, laws_sameWords_K, hr, sumK]
theorem sameInts_refl (l : List Int) (h : l.length ≤ 1048576) : laws_sameInts l l = some true := by
  have hr := runL_thru (laws_sameInts_L0_step l l) (fun i : Nat => (i : Int)) l.length ()
    (fun i hi => by
      simp only [laws_sameInts_L0_step, laws_sameInts_L0_K, bne_self_eq_false, cond_false, ite_bool, decide_eq_true_eq, nat_toNat, w64_succ (show i < 1073741824 by omega)]
      repeat (rw [if_pos (by omega)])
      rw [if_neg (by simp)])
    (by simp only [laws_sameInts_L0_step, laws_sameInts_L0_K, ite_bool, decide_eq_true_eq]
        rw [if_neg (by omega)])
  rw [show ((0 : Nat) : Int) = 0 from rfl] at hr
  simp [laws_sameInts, laws_sameInts_K, hr, sumK]
/-! ### what covers what -/
theorem andNot_self (p : Int) : bits .andNot .i64 p p = 0 := by
  unfold bits
  simp only [BitVec.and_not_self]
  rfl
def coversF (a b : GKey) : Bool := keyF a && (keyF b && (decide (a.base ≤ b.base) && (decide (b.top ≤ a.top) && ((bits .andNot .i64 b.perms a.perms) == 0))))
theorem covers_eq (a b : GKey) : impl_Covers a b = some (coversF a b) := by
  simp only [impl_Covers, impl_Covers_K, iKey, Option.bind_some, coversF]
  cases keyF a <;> cases keyF b <;> cases decide (a.base ≤ b.base) <;> cases decide (b.top ≤ a.top) <;> rfl
theorem covers_self {k : GKey} (h : keyF k = true) : coversF k k = true := by
  unfold coversF
  rw [h, andNot_self, decide_eq_true (Int.le_refl _), decide_eq_true (Int.le_refl _)]; rfl
theorem unders_some {C : List GWord} (hl : C.length ≤ 1000) {w : GWord} (hw : wordF w = true) (hk : w.is = true → hasK C w.key = true) (hC : ∀ x ∈ C, x.is = true ∧ wordF x = true) : impl_Unders w C = some true := by
  simp only [impl_Unders, impl_Unders_K]
  cases hi : w.is
  · rfl
  · have hh := hk hi
    have hkey : keyF w.key = true := by
      unfold wordF at hw
      rw [hi, cond_true, Bool.and_eq_true] at hw
      exact hw.2
    have hr := runL_for (slices_IndexFunc_127_L0_step C w.n true w.key.base w.key.top w.key.perms w.key.seal_ ((C.length : Nat) : Int)) (fun i : Nat => (i : Int)) C.length (fun i => if (!coversF (C.getD i default).key w.key) = true then none else some (i : Int)) ()
      (fun i hi' _ => by
        have hx := hC (C.getD i default) (by rw [getD_lt hi']; exact List.getElem_mem hi')
        simp only [slices_IndexFunc_127_L0_step, slices_IndexFunc_127_L0_K, impl_Unders_1, impl_Unders_1_K, hx.1, beq_self_eq_true, cond_true, covers_eq, ite_bool, decide_eq_true_eq, nat_toNat, Option.bind_some, w64_succ (show i < 1073741824 by omega)]
        repeat (rw [if_pos (by omega)])
        cases coversF (C.getD i default).key w.key <;> rfl)
      (fun _ => by
        simp only [slices_IndexFunc_127_L0_step, slices_IndexFunc_127_L0_K, ite_bool, decide_eq_true_eq]
        rw [if_neg (by omega)])
    rw [show ((0 : Nat) : Int) = 0 from rfl] at hr
    have hf := findS (N := C.length) (good := fun i => !coversF (C.getD i default).key w.key) (k := fun i => (i : Int))
    have hA : ((List.range C.length).all fun i => !coversF (C.getD i default).key w.key) = false := by
      rw [← Bool.not_eq_true, all_ok]
      intro h
      unfold hasK at hh
      obtain ⟨x, hx, hxk⟩ := List.any_eq_true.1 hh
      obtain ⟨i, hi', rfl⟩ := List.getElem_of_mem hx
      have := h i hi'
      rw [getD_lt hi', of_decide_eq_true hxk, covers_self hkey] at this
      simp at this
    obtain ⟨i, _, _, h3⟩ := hf.2 hA
    simp only [Bool.not_true, beq_self_eq_true, cond_true, slices_ContainsFunc_127, slices_ContainsFunc_127_K, slices_IndexFunc_127, slices_IndexFunc_127_K, hr, h3, endOf, sumK, Option.bind_some, ge_iff_le]
    rw [decide_eq_true (by omega)]
/-- ████ THE PLAIN LAW ████ -/
theorem laws_FnReached_true (b : List Int) (hb : b.length ≤ reachBytes) : laws_FnReached b = some true := by
  have hbb : reachBytes = 140737488351232 := rfl
  simp only [laws_FnReached, laws_FnReached_K, laws_big, laws_big_K, Option.bind_some]
  by_cases h0 : (b.length : Int) > 1048576
  · rw [decide_eq_true h0]; rfl
  · rw [decide_eq_false h0, cond_false]
    have hl : b.length ≤ 1048576 := by omega
    obtain ⟨m1, w1, d1, _, l1⟩ := drawClosure_some hl
    obtain ⟨m2, w2, d2, _, l2⟩ := drawLoad_some hl
    obtain ⟨m3, w3, d3, _, l3⟩ := drawStore_some hl
    obtain ⟨m4, w4, d4, _, l4⟩ := drawSeal_some hl
    obtain ⟨C, c1, c2, c3, c4, c5⟩ := closure_eq m1 w1 (by omega)
    obtain ⟨r2, i2, s2, n2⟩ := load_eq m2 w2 (by omega)
    obtain ⟨r3, i3, s3, n3⟩ := store_eq m3 w3 (by omega)
    obtain ⟨r4, i4, s4⟩ := seal_eq m4 w4 (by omega)
    simp only [d1, d2, d3, d4, c1, c2, i2, s2, i3, s3, i4, s4, Option.bind_some, sameWords_refl C (by omega), sameInts_refl r2 (by omega), sameInts_refl r3 (by omega), iMemory, Bool.not_true, beq_self_eq_true, cond_true, cond_false]
    cases hm : memF m1
    · rw [c4 hm]; rfl
    · obtain ⟨g1, g2, g3⟩ := c5 hm
      have hr := runL_thru (laws_FnReached_L0_step b w1 C m1.words m1.gone) (fun i : Nat => (i : Int)) w1.length ()
        (fun i hi => by
          simp only [laws_FnReached_L0_step, laws_FnReached_L0_K, iWord, Option.bind_some, ite_bool, decide_eq_true_eq, beq_true, nat_toNat, w64_succ (show i < 1073741824 by omega)]
          repeat (rw [if_pos (by omega)])
          by_cases hw : wordF (w1.getD i default) = true
          · rw [if_pos hw, unders_some (by omega) hw (fun his => hasK_pre g2 (okFold_has w1 [] _ (by rw [getD_lt hi]; exact List.getElem_mem hi) his hw)) g1.2]
            simp [hi]
          · rw [if_neg hw])
        (by
          simp only [laws_FnReached_L0_step, laws_FnReached_L0_K, ite_bool, decide_eq_true_eq]
          rw [if_neg (by omega)])
      rw [show ((0 : Nat) : Int) = 0 from rfl] at hr
      simp only [Bool.not_true, cond_false, hr, Option.bind_some, sumK, closure_again hm g1 (show C.length ≤ 1000 by omega) g3, sameWords_refl C (by omega)]
end Go.Eng
