/- The plain laws: what the functions compute answers as the statement says. -/
import Derived.Test.YtkgeojjgcffebaaExactNextPlacesFS
import Derived.Test.YtkgeojjgcffebaaExactNextPlacesF0
import Derived.Test.YtkgeojjgcffebaaExactNextPlacesF1
import Derived.Test.YtkgeojjgcffebaaExactNextPlacesF2
import Derived.Test.YtkgeojjgcffebaaExactNextPlacesF3
import Derived.Laws.BitsLemmas
set_option linter.unusedVariables false
set_option linter.unusedSimpArgs false
set_option linter.unusedSectionVars false
/- Plain laws: whole numbers that do not go round, loops that count. -/
namespace Go.Eng
theorem w64_id {n : Int} (h0 : -9223372036854775808 ≤ n) (h1 : n < 9223372036854775808) : w64 n = n := by
  show IntKind.wrap .i64 n = n
  rw [IntKind.wrap_i64]; omega
theorem ite_bool {α : Type} (b : Bool) (x y : α) : cond b x y = if b = true then x else y := by cases b <;> rfl
section
variable {σ τ κ : Type}
def rndOf (o : Option κ) (s : σ) : Rnd σ τ κ := match o with | some k => .ret k | none => .again s
def endOf (o : Option κ) (t : τ) : τ ⊕ κ := match o with | some k => .inr k | none => .inl t
/-- A loop that counts, and may return. -/
theorem runL_for (step : σ → Option (Rnd σ τ κ)) (st : Nat → σ) (N : Nat) (stop : Nat → Option κ) (t : τ) (hs : ∀ i, i < N → (∀ j, j < i → stop j = none) → step (st i) = some (rndOf (stop i) (st (i + 1))))
    (he : (∀ j, j < N → stop j = none) → step (st N) = some (.exit t)) : runL step (st 0) = some (endOf ((List.range N).findSome? stop) t) := by
  have key : ∀ m i, i + m = N → (∀ j, j < i → stop j = none) → runL step (st i) = some (endOf ((List.range' i m).findSome? stop) t) := by
    intro m
    induction m with
    | zero =>
      intro i hi hj
      have : i = N := by omega
      subst this
      rw [runL_eq, he hj]
      rfl
    | succ m ih =>
      intro i hi hj
      rw [runL_eq, hs i (by omega) hj, List.range'_succ, List.findSome?_cons]
      cases hk : stop i with
      | some k => rfl
      | none =>
        simp only [Option.bind_some, rndE]
        exact ih (i + 1) (by omega) fun j hlt => by
          by_cases e : j = i
          · subst e; exact hk
          · exact hj j (by omega)
  have := key N 0 (by omega) (fun j h => by omega)
  rw [this, List.range_eq_range']
/-- ... that returns nothing. -/
theorem runX_for (step : σ → Option (Rnd σ τ Unit)) (st : Nat → σ) (N : Nat) (t : τ) (hs : ∀ i, i < N → step (st i) = some (.again (st (i + 1)))) (he : step (st N) = some (.exit t)) : runX step (st 0) = some t := by
  have key : ∀ m i, i + m = N → runX step (st i) = some t := by
    intro m
    induction m with
    | zero => intro i hi; have : i = N := by omega
              subst this; rw [runX_eq, he]; rfl
    | succ m ih =>
      intro i hi
      rw [runX_eq, hs i (by omega)]
      exact ih (i + 1) (by omega)
  exact key N 0 (by omega)
/-- All rounds go on: nothing is returned. -/
theorem runL_thru (step : σ → Option (Rnd σ τ κ)) (st : Nat → σ) (N : Nat) (t : τ) (hs : ∀ i, i < N → step (st i) = some (.again (st (i + 1)))) (he : step (st N) = some (.exit t)) : runL step (st 0) = some (.inl t) := by
  rw [runL_for step st N (fun _ => none) t (fun i h _ => hs i h) (fun _ => he)]
  have : (List.range N).findSome? (fun _ => (none : Option κ)) = none := by simp
  rw [this]; rfl
end
theorem getD_lt {α : Type} {xs : List α} {i : Nat} {d : α} (h : i < xs.length) : xs.getD i d = xs[i] := by
  rw [List.getD_eq_getElem?_getD, List.getElem?_eq_getElem h]; rfl
/-- A row that is filled from the front. -/
theorem fill_step {α : Type} (l r : List α) {i : Nat} (hl : i < l.length) (hr : r.length = l.length) (d : α) : (l.take i ++ r.drop i).set i (l.getD i d) = l.take (i + 1) ++ r.drop (i + 1) := by
  apply List.ext_getElem?
  intro j
  rw [getD_lt hl, List.getElem?_set]
  have e1 : (l.take i).length = i := by simp; omega
  have e2 : (l.take (i + 1)).length = i + 1 := by simp; omega
  by_cases hji : i = j
  · subst hji
    rw [if_pos rfl, if_pos (by simp; omega), List.getElem?_append_left (by omega), List.getElem?_take, if_pos (by omega), List.getElem?_eq_getElem hl]
  · rw [if_neg hji]
    by_cases h : j < i
    · rw [List.getElem?_append_left (by omega), List.getElem?_append_left (by omega), List.getElem?_take, List.getElem?_take, if_pos h, if_pos (by omega)]
    · rw [List.getElem?_append_right (by omega), List.getElem?_append_right (by omega), e1, e2, List.getElem?_drop, List.getElem?_drop]
      congr 1; omega
end Go.Eng
/- Plain laws of instructions and codes: the program's and the reference's are the same. -/
set_option linter.unusedSimpArgs false
namespace Go.Eng
section
variable {σ τ κ : Type}
theorem nat_toNat (i : Nat) : ((i : Int)).toNat = i := by omega
theorem w64_succ {i : Nat} (h : i < 1073741824) : w64 ((i : Int) + 1) = ((i + 1 : Nat) : Int) := by rw [w64_id] <;> omega
theorem all_ok {N : Nat} {good : Nat → Bool} : (List.range N).all good = true ↔ ∀ i, i < N → good i = true := by
  simp [List.all_eq_true]
/-- A search: what the first that stops says. -/
theorem find_all {N : Nat} {good : Nat → Bool} {k : Nat → κ} : ((List.range N).all good = true → (List.range N).findSome? (fun i => if good i = true then none else some (k i)) = none) ∧ ((List.range N).all good = false → ∃ i, i < N ∧ good i = false ∧ (List.range N).findSome? (fun i => if good i = true then none else some (k i)) = some (k i)) := by
  constructor
  · intro h
    rw [List.findSome?_eq_none_iff]
    intro i hi
    rw [if_pos (all_ok.1 h i (List.mem_range.1 hi))]
  · intro h
    cases hf : (List.range N).findSome? (fun i => if good i = true then none else some (k i)) with
    | none =>
      rw [List.findSome?_eq_none_iff] at hf
      rw [← Bool.not_eq_true, all_ok] at h
      refine absurd (fun i hi => ?_) h
      have := hf i (List.mem_range.2 hi)
      split at this
      · rename_i hc; exact hc
      · simp at this
    | some x =>
      obtain ⟨i, hi, hk⟩ := List.exists_of_findSome?_eq_some hf
      split at hk
      · simp at hk
      · rename_i hc
        simp at hk
        exact ⟨i, List.mem_range.1 hi, by simpa using hc, by rw [hk]⟩
end
theorem in_eq (x a b : Int) : impl_in x a b = some (decide (a ≤ x) && decide (x ≤ b)) := by
  simp only [impl_in, impl_in_K, ite_bool, beq_true, decide_eq_true_eq, ge_iff_le]
  by_cases h : a ≤ x <;> simp [h]
theorem l1In_eq (x a b : Int) : spec_l1In x a b = some (decide (a ≤ x) && decide (x ≤ b)) := by
  simp only [spec_l1In, spec_l1In_K, ite_bool, beq_true, decide_eq_true_eq, ge_iff_le]
  by_cases h : a ≤ x <;> simp [h]
/-- Whether a list holds a number. -/
theorem contains_eq (l : List Int) (x : Int) (h : l.length ≤ 1048576) : slices_Contains l x = some (!(List.range l.length).all fun i => !(x == l.getD i 0)) := by
  have hr := runL_for (slices_Index_L0_step l x ((l.length : Nat) : Int)) (fun i : Nat => (i : Int)) l.length (fun i => if (!(x == l.getD i 0)) = true then none else some (i : Int)) ()
    (fun i hi _ => by
      simp only [slices_Index_L0_step, slices_Index_L0_K, ite_bool, decide_eq_true_eq, nat_toNat, w64_succ (show i < 1073741824 by omega)]
      rw [if_pos (by omega), if_pos (by omega)]
      cases x == l.getD i 0 <;> simp [rndOf] <;> omega)
    (fun _ => by
      simp only [slices_Index_L0_step, slices_Index_L0_K, ite_bool, decide_eq_true_eq]
      rw [if_neg (by omega)])
  rw [show ((0 : Nat) : Int) = 0 from rfl] at hr
  have hf := find_all (N := l.length) (good := fun i => !(x == l.getD i 0)) (k := fun i => (i : Int))
  simp only [slices_Contains, slices_Contains_K, slices_Index, slices_Index_K, hr, Option.bind_some]
  cases hA : (List.range l.length).all fun i => !(x == l.getD i 0)
  · obtain ⟨i, _, _, h3⟩ := hf.2 hA
    rw [h3]
    simp only [endOf, sumK, Option.bind_some, Bool.not_false, ge_iff_le]
    rw [decide_eq_true (by omega)]
  · rw [hf.1 hA]; rfl
/-! ### an instruction -/
def hasF (op : Int) : Int := List.getD [0, 9, 7, 3, 7, 7, 15, 7, 7, 3, 11, 14, 3, 10, 2, 0] op.toNat 0
def fldF (x : Int) (has : Bool) : Bool := (decide (0 ≤ x) && decide (x ≤ 7)) && (has || x == 0)
def hasB (op b : Int) : Bool := (bits .and .i64 (hasF op) b) != 0
def insF (x : GIns) : Bool := (decide (1 ≤ x.op) && decide (x.op ≤ 15)) && (fldF x.r (hasB x.op 1) && (fldF x.a (hasB x.op 2) && (fldF x.b (hasB x.op 4) && ((decide (-128 ≤ x.n) && decide (x.n ≤ 127)) && (hasB x.op 8 || x.n == 0)))))
theorem sField (x : Int) (b : Bool) : spec_l6Field x b = some (fldF x b) := by
  simp only [spec_l6Field, spec_l6Field_K, l1In_eq, Option.bind_some, fldF]
  cases (decide (0 ≤ x) && decide (x ≤ 7)) <;> cases b <;> simp
theorem sIns (x : GIns) : spec_InsOk x = some (insF x) := by
  simp only [spec_InsOk, spec_InsOk_K, spec_l6Has, spec_l6Has_K, l1In_eq, sField, Option.bind_some, insF]
  by_cases h : 1 ≤ x.op ∧ x.op ≤ 15
  · have hb : (decide (1 ≤ x.op) && decide (x.op ≤ 15)) = true := by simpa using h
    rw [hb]
    simp only [Bool.not_true, cond_false, ite_bool, decide_eq_true_eq]
    rw [if_neg (by simp), if_pos (by omega), if_pos (by omega)]
    simp only [Option.bind_some, beq_self_eq_true, if_true, Bool.true_and, hasB, hasF]
    split
    · rename_i h1
      rw [beq_true] at h1; rw [h1]
      split
      · rename_i h2
        rw [beq_true] at h2; rw [h2]
        split
        · rename_i h3
          rw [beq_true] at h3; rw [h3]
          cases (decide (-128 ≤ x.n) && decide (x.n ≤ 127)) <;> cases ((bits BinOp.and IntKind.i64 (List.getD [0, 9, 7, 3, 7, 7, 15, 7, 7, 3, 11, 14, 3, 10, 2, 0] x.op.toNat 0) 8) != 0) <;> simp
        · rename_i h3
          rw [beq_true, Bool.not_eq_true] at h3; rw [h3]; rfl
      · rename_i h2
        rw [beq_true, Bool.not_eq_true] at h2; rw [h2]; rfl
    · rename_i h1
      rw [beq_true, Bool.not_eq_true] at h1; rw [h1]; rfl
  · have hb : (decide (1 ≤ x.op) && decide (x.op ≤ 15)) = false := by rw [← Bool.not_eq_true]; simpa using h
    rw [hb]
    rfl
end Go.Eng
/- Plain laws of instructions, the program's side. -/
set_option linter.unusedSimpArgs false
namespace Go.Eng
theorem cond_some' {α : Type} (b : Bool) (x y : α) : cond b (some x) (some y) = some (cond b x y) := by cases b <;> rfl
def formF (op : Int) : ByteArray × Bool := (impl_formOf op).getD (⟨#[]⟩, false)
theorem form_eq (op : Int) : impl_formOf op = some (formF op) := by
  simp only [formF, impl_formOf, impl_formOf_K, cond_some', Option.getD_some]
def hp (op p : Int) : Bool := !(List.range (ofStrR (formF op).1).length).all fun i => !(p == (ofStrR (formF op).1).getD i 0)
theorem form_len (op : Int) : (ofStrR (formF op).1).length ≤ 4 := by
  have : ∀ b : Bool, ∀ x y : ByteArray × Bool, (ofStrR x.1).length ≤ 4 → (ofStrR y.1).length ≤ 4 → (ofStrR (cond b x y).1).length ≤ 4 := fun b x y hx hy => by cases b <;> assumption
  simp only [formF, impl_formOf, impl_formOf_K, cond_some', Option.getD_some]
  repeat (refine this _ _ _ (by decide) ?_)
  decide
theorem part_has (x : GIns) (p : Int) : impl_hasPart x p = some (hp x.op p) := by
  simp only [impl_hasPart, impl_hasPart_K, form_eq, Option.bind_some]
  rw [contains_eq _ _ (by have := form_len x.op; omega)]
  rfl
theorem hp_has (c : Int) (h1 : 1 ≤ c) (h2 : c ≤ 15) : (formF c).2 = true ∧ hp c 82 = hasB c 1 ∧ hp c 65 = hasB c 2 ∧ hp c 66 = hasB c 4 ∧ hp c 78 = hasB c 8 := by
  have : c = 1 ∨ c = 2 ∨ c = 3 ∨ c = 4 ∨ c = 5 ∨ c = 6 ∨ c = 7 ∨ c = 8 ∨ c = 9 ∨ c = 10 ∨ c = 11 ∨ c = 12 ∨ c = 13 ∨ c = 14 ∨ c = 15 := by omega
  rcases this with rfl | rfl | rfl | rfl | rfl | rfl | rfl | rfl | rfl | rfl | rfl | rfl | rfl | rfl | rfl <;> exact ⟨rfl, rfl, rfl, rfl, rfl⟩
theorem form_out (c : Int) (h : ¬ (1 ≤ c ∧ c ≤ 15)) : (formF c).2 = false := by
  have e : ∀ k : Int, 1 ≤ k → k ≤ 15 → (c == k) = false := fun k h1 h2 => by rw [beq_eq_false_iff_ne]; omega
  simp only [formF, impl_formOf, impl_formOf_K, cond_some', Option.getD_some]
  simp only [e 1 (by omega) (by omega), e 2 (by omega) (by omega), e 3 (by omega) (by omega), e 4 (by omega) (by omega), e 5 (by omega) (by omega), e 6 (by omega) (by omega), e 7 (by omega) (by omega), e 8 (by omega) (by omega), e 9 (by omega) (by omega), e 10 (by omega) (by omega), e 11 (by omega) (by omega), e 12 (by omega) (by omega), e 13 (by omega) (by omega), e 14 (by omega) (by omega), e 15 (by omega) (by omega), cond_false]
def partF (x : GIns) (i : Nat) : Bool := match i with
  | 0 => if hp x.op 82 = true then decide (0 ≤ x.r) && decide (x.r ≤ 7) else x.r == 0
  | 1 => if hp x.op 65 = true then decide (0 ≤ x.a) && decide (x.a ≤ 7) else x.a == 0
  | 2 => if hp x.op 66 = true then decide (0 ≤ x.b) && decide (x.b ≤ 7) else x.b == 0
  | _ => if hp x.op 78 = true then decide (-128 ≤ x.n) && decide (x.n ≤ 127) else x.n == 0
def accF (x : GIns) : Nat → Bool
  | 0 => (formF x.op).2
  | i + 1 => accF x i && partF x i
theorem iIns (x : GIns) : impl_InsOk x = some (insF x) := by
  have step : ∀ i : Nat, i < 4 → ∀ b : Bool, impl_InsOk_L0_step x.op x.r x.a x.b x.n [82, 65, 66, 78] (b, (i : Int)) = some (.again (b && partF x i, ((i + 1 : Nat) : Int))) := fun i hi b => by
    have hc : i = 0 ∨ i = 1 ∨ i = 2 ∨ i = 3 := by omega
    rcases hc with rfl | rfl | rfl | rfl
    all_goals
      simp only [impl_InsOk_L0_step, impl_InsOk_L0_K, ite_bool, decide_eq_true_eq, nat_toNat, part_has, in_eq, Option.bind_some, impl_partOf, impl_partOf_K]
      rw [if_pos (by decide), if_pos (by decide), if_pos (by decide)]
      simp only [partF]
    · show (if (!hp x.op 82) = true then _ else _) = _
      cases b <;> cases hp x.op 82 <;> rfl
    · show (if (!hp x.op 65) = true then _ else _) = _
      cases b <;> cases hp x.op 65 <;> rfl
    · show (if (!hp x.op 66) = true then _ else _) = _
      cases b <;> cases hp x.op 66 <;> rfl
    · show (if (!hp x.op 78) = true then _ else _) = _
      cases b <;> cases hp x.op 78 <;> rfl
  have hr := runX_for (impl_InsOk_L0_step x.op x.r x.a x.b x.n [82, 65, 66, 78]) (fun i : Nat => (accF x i, (i : Int))) 4 (accF x 4)
    (fun i hi => step i hi (accF x i))
    (by
      simp only [impl_InsOk_L0_step, impl_InsOk_L0_K, ite_bool, decide_eq_true_eq]
      rw [if_neg (by omega)])
  simp only [impl_InsOk, impl_InsOk_K, form_eq, Option.bind_some]
  have e0 : accF x 0 = (formF x.op).2 := rfl
  rw [show ((0 : Nat) : Int) = 0 from rfl, e0] at hr
  rw [hr]
  simp only [Option.bind_some, accF, partF, insF]
  by_cases h : 1 ≤ x.op ∧ x.op ≤ 15
  · obtain ⟨f0, f1, f2, f3, f4⟩ := hp_has x.op h.1 h.2
    have hb : (decide (1 ≤ x.op) && decide (x.op ≤ 15)) = true := by simpa using h
    rw [f0, f1, f2, f3, f4, hb]
    congr 1
    have fld : ∀ (y : Int) (b : Bool), (if b = true then decide (0 ≤ y) && decide (y ≤ 7) else y == 0) = fldF y b := fun y b => by
      unfold fldF
      cases b
      · rw [Bool.eq_iff_iff]; simp; omega
      · simp
    have fln : ∀ (y : Int) (b : Bool), (if b = true then decide (-128 ≤ y) && decide (y ≤ 127) else y == 0) = ((decide (-128 ≤ y) && decide (y ≤ 127)) && (b || y == 0)) := fun y b => by
      cases b
      · rw [Bool.eq_iff_iff]; simp; omega
      · simp
    rw [fld, fld, fld, fln]
    simp [Bool.and_assoc]
  · have hb : (decide (1 ≤ x.op) && decide (x.op ≤ 15)) = false := by rw [← Bool.not_eq_true]; simpa using h
    rw [form_out x.op h, hb]; rfl
/-! ### a code -/
def codeF (l : List GIns) : Bool := (decide (1 ≤ l.length) && decide (l.length ≤ 48)) && (List.range l.length).all fun i => insF (l.getD i default)
theorem sCode {l : List GIns} (hl : l.length ≤ 1048576) : spec_CodeOk l = some (codeF l) := by
  have hr := runL_for (spec_CodeOk_L0_step l) (fun i : Nat => (i : Int)) l.length (fun i => if insF (l.getD i default) = true then none else some ()) ()
    (fun i hi _ => by
      simp only [spec_CodeOk_L0_step, spec_CodeOk_L0_K, ite_bool, decide_eq_true_eq, nat_toNat, sIns, Option.bind_some, w64_succ (show i < 1073741824 by omega)]
      rw [if_pos (by omega), if_pos (by omega)]
      cases insF (l.getD i default) <;> simp [rndOf] <;> omega)
    (fun _ => by
      simp only [spec_CodeOk_L0_step, spec_CodeOk_L0_K, ite_bool, decide_eq_true_eq]
      rw [if_neg (by omega)])
  rw [show ((0 : Nat) : Int) = 0 from rfl] at hr
  have hf := find_all (N := l.length) (good := fun i => insF (l.getD i default)) (k := fun _ => ())
  simp only [spec_CodeOk, spec_CodeOk_K, hr, Option.bind_some, codeF, l1In_eq]
  have e : (decide ((1 : Int) ≤ (l.length : Int)) && decide ((l.length : Int) ≤ 48)) = (decide (1 ≤ l.length) && decide (l.length ≤ 48)) := by rw [Bool.eq_iff_iff]; simp; omega
  cases hA : (List.range l.length).all fun i => insF (l.getD i default)
  · obtain ⟨i, _, _, h3⟩ := hf.2 hA
    rw [h3, Bool.and_false]; rfl
  · rw [hf.1 hA, Bool.and_true]
    simp only [endOf, sumK, Option.bind_some, e]
theorem iCode {l : List GIns} (hl : l.length ≤ 1048576) : impl_CodeOk l = some (codeF l) := by
  have hr := runL_for (slices_IndexFunc_151_L0_step l ((l.length : Nat) : Int)) (fun i : Nat => (i : Int)) l.length (fun i => if insF (l.getD i default) = true then none else some (i : Int)) ()
    (fun i hi _ => by
      simp only [slices_IndexFunc_151_L0_step, slices_IndexFunc_151_L0_K, impl_CodeOk_1, impl_CodeOk_1_K, ite_bool, decide_eq_true_eq, nat_toNat, iIns, Option.bind_some, w64_succ (show i < 1073741824 by omega)]
      rw [if_pos (by omega), if_pos (by omega)]
      cases insF (l.getD i default) <;> simp [rndOf] <;> omega)
    (fun _ => by
      simp only [slices_IndexFunc_151_L0_step, slices_IndexFunc_151_L0_K, ite_bool, decide_eq_true_eq]
      rw [if_neg (by omega)])
  rw [show ((0 : Nat) : Int) = 0 from rfl] at hr
  have hf := find_all (N := l.length) (good := fun i => insF (l.getD i default)) (k := fun i => (i : Int))
  have e : (decide ((1 : Int) ≤ (l.length : Int)) && decide ((l.length : Int) ≤ 48)) = (decide (1 ≤ l.length) && decide (l.length ≤ 48)) := by rw [Bool.eq_iff_iff]; simp; omega
  simp only [impl_CodeOk, impl_CodeOk_K, in_eq, Option.bind_some, e, codeF, slices_ContainsFunc_151, slices_ContainsFunc_151_K, slices_IndexFunc_151, slices_IndexFunc_151_K, hr]
  cases hA : (List.range l.length).all fun i => insF (l.getD i default)
  · obtain ⟨i, _, _, h3⟩ := hf.2 hA
    rw [h3, Bool.and_false]
    simp only [endOf, sumK, Option.bind_some, ge_iff_le]
    rw [decide_eq_true (show (0 : Int) ≤ (i : Int) by omega)]
    cases (decide (1 ≤ l.length) && decide (l.length ≤ 48)) <;> rfl
  · rw [hf.1 hA, Bool.and_true]
    cases (decide (1 ≤ l.length) && decide (l.length ≤ 48)) <;> rfl
end Go.Eng
/- Plain laws: sorting one or two numbers. -/
set_option linter.unusedSimpArgs false
namespace Go.Eng
theorem less_eq (a b : Int) : cmp_Less a b = some (decide (a < b)) := by
  have e1 : (a != a) = false := by simp
  simp only [cmp_Less, cmp_Less_K, cmp_isNaN, cmp_isNaN_K, Option.bind_some, e1]
  rfl
theorem ins1 (a : Int) : slices_insertionSortOrdered [a] 0 1 = some [a] := by
  have w1 : w64 (0 + 1) = 1 := rfl
  simp only [slices_insertionSortOrdered, slices_insertionSortOrdered_K, w1]
  rw [runX_eq]
  simp only [slices_insertionSortOrdered_L0_step, slices_insertionSortOrdered_L0_K]
  rfl
theorem ins2 (a b : Int) : slices_insertionSortOrdered [a, b] 0 2 = some (if b < a then [b, a] else [a, b]) := by
  have w1 : w64 (0 + 1) = 1 := rfl
  have inner : runX (slices_insertionSortOrdered_L2_step 0 2 1) ([a, b], 1) = some (if b < a then [b, a] else [a, b]) := by
    rw [runX_eq]
    have s1 : slices_insertionSortOrdered_L2_step 0 2 1 ([a, b], 1) = some (if b < a then .again ([b, a], 0) else .exit [a, b]) := by
      simp only [slices_insertionSortOrdered_L2_step, slices_insertionSortOrdered_L2_K, less_eq, Option.bind_some]
      have e1 : List.getD [a, b] ((1 : Int).toNat) 0 = b := rfl
      have e0 : List.getD [a, b] ((w64 (1 - 1)).toNat) 0 = a := rfl
      rw [e1, e0]
      by_cases h : b < a
      · rw [decide_eq_true h, if_pos h]; rfl
      · rw [decide_eq_false h, if_neg h]; rfl
    rw [s1]
    by_cases h : b < a
    · rw [if_pos h, if_pos h]
      show runX _ ([b, a], 0) = _
      rw [runX_eq]
      rfl
    · rw [if_neg h, if_neg h]; rfl
  simp only [slices_insertionSortOrdered, slices_insertionSortOrdered_K, w1]
  rw [runX_eq]
  have s1 : slices_insertionSortOrdered_L0_step 0 2 ([a, b], 1) = some (.again (if b < a then [b, a] else [a, b], 2)) := by
    simp only [slices_insertionSortOrdered_L0_step, slices_insertionSortOrdered_L0_K, inner, Option.bind_some]
    rfl
  rw [s1]
  show (runX (slices_insertionSortOrdered_L0_step 0 2) (if b < a then [b, a] else [a, b], 2)).bind _ = _
  rw [runX_eq]
  rfl
theorem len_1 : math_bits_Len 1 = some 1 := rfl
theorem len_2 : math_bits_Len 2 = some 2 := rfl
theorem sort1 (a : Int) : slices_Sort [a] = some [a] := by
  simp only [slices_Sort, slices_Sort_K]
  have e : IntKind.wrap .u64 ((([a] : List Int).length : Nat) : Int) = 1 := rfl
  rw [e, len_1]
  simp only [Option.bind_some, slices_pdqsortOrdered, slices_pdqsortOrdered_K]
  have e1 : ((([a] : List Int).length : Nat) : Int) = 1 := rfl
  rw [e1, runL_eq]
  have s1 : slices_pdqsortOrdered_L0_step 1 1 ([a], 0) = some (.ret [a]) := by
    simp only [slices_pdqsortOrdered_L0_step, slices_pdqsortOrdered_L0_K, ins1, Option.bind_some]
    rfl
  rw [s1]; rfl
theorem sort2 (a b : Int) : slices_Sort [a, b] = some (if b < a then [b, a] else [a, b]) := by
  simp only [slices_Sort, slices_Sort_K]
  have e : IntKind.wrap .u64 ((([a, b] : List Int).length : Nat) : Int) = 2 := rfl
  rw [e, len_2]
  simp only [Option.bind_some, slices_pdqsortOrdered, slices_pdqsortOrdered_K]
  have e1 : ((([a, b] : List Int).length : Nat) : Int) = 2 := rfl
  rw [e1, runL_eq]
  have s1 : slices_pdqsortOrdered_L0_step 2 2 ([a, b], 0) = some (.ret (if b < a then [b, a] else [a, b])) := by
    simp only [slices_pdqsortOrdered_L0_step, slices_pdqsortOrdered_L0_K, ins2, Option.bind_some]
    rfl
  rw [s1]; rfl
theorem compact1 (a : Int) : slices_Compact [a] = some ([a], [a], true) := rfl
theorem compact2 (a b : Int) (h : a ≠ b) : slices_Compact [a, b] = some ([a, b], [a, b], true) := by
  have hr := runL_eq (slices_Compact_L0_step [a, b]) 1
  have s1 : slices_Compact_L0_step [a, b] 1 = some (.again 2) := by
    simp only [slices_Compact_L0_step, slices_Compact_L0_K]
    have e1 : List.getD [a, b] ((1 : Int).toNat) 0 = b := rfl
    have e0 : List.getD [a, b] ((w64 (1 - 1)).toNat) 0 = a := rfl
    have hb : (b == a) = false := by rw [beq_eq_false_iff_ne]; exact fun e => h e.symm
    rw [e1, e0, hb]; rfl
  rw [s1] at hr
  have hr2 := runL_eq (slices_Compact_L0_step [a, b]) 2
  have s2 : slices_Compact_L0_step [a, b] 2 = some (.exit ()) := rfl
  rw [s2] at hr2
  have hr3 : runL (slices_Compact_L0_step [a, b]) 1 = some (.inl ()) := hr.trans hr2
  simp only [slices_Compact, slices_Compact_K, hr3]
  rfl
theorem compact2e (a : Int) : slices_Compact [a, a] = some ([a], [a], false) := by
  have s1 : slices_Compact_L0_step [a, a] 1 = some (.ret [a]) := by
    simp only [slices_Compact_L0_step, slices_Compact_L0_K]
    have e1 : List.getD [a, a] ((1 : Int).toNat) 0 = a := rfl
    have e0 : List.getD [a, a] ((w64 (1 - 1)).toNat) 0 = a := rfl
    have hb : (a == a) = true := by simp
    rw [e1, e0, hb]
    have hr : runX (slices_Compact_L2_step ((1 : Int).toNat) ((((([a, a] : List Int).length : Nat) : Int) - 1).toNat)) ([a, a], 1, 1) = some ([a, a], 1) := by
      rw [runX_eq]; rfl
    rw [hr]; rfl
  have hr : runL (slices_Compact_L0_step [a, a]) 1 = some (.inr [a]) := by rw [runL_eq, s1]; rfl
  simp only [slices_Compact, slices_Compact_K, hr]
  rfl
end Go.Eng
/- Plain laws: the places that come next: the program's answer is the reference's. -/
set_option linter.unusedSimpArgs false
namespace Go.Eng
def outB (l : List GIns) (p : Int) : Bool := !(decide (0 ≤ p) && decide (p ≤ (l.length : Int) - 1))
theorem np_eq {l : List GIns} (h : l.length ≤ 1048576) (p : Int) : impl_nextPlaces_1 p l = some (outB l p) := by
  have w1 : w64 ((l.length : Int) - 1) = (l.length : Int) - 1 := w64_id (by omega) (by omega)
  simp only [impl_nextPlaces_1, impl_nextPlaces_1_K, in_eq, Option.bind_some, w1, outB]
section
variable {l : List GIns} {a b : Int} {oa ob : Bool}
theorem del1 (ha : impl_nextPlaces_1 a l = some oa) : ∃ z c, slices_DeleteFunc_227 [a] l = some (z, (if oa = true then [] else [a]), c) := by
  have i1 : slices_IndexFunc_227_L0_step [a] l 1 0 = some (if oa = true then .ret 0 else .again 1) := by
    simp only [slices_IndexFunc_227_L0_step, slices_IndexFunc_227_L0_K]
    rw [show List.getD [a] ((0 : Int).toNat) 0 = a from rfl, ha]
    cases oa <;> rfl
  cases oa with
  | true =>
    have hi : slices_IndexFunc_227 [a] l = some 0 := by
      simp only [slices_IndexFunc_227, slices_IndexFunc_227_K]
      rw [show ((([a] : List Int).length : Nat) : Int) = 1 from rfl, runL_eq, i1]; rfl
    have hd : runX (slices_DeleteFunc_227_L0_step l) ([a], 0, 1) = some ([a], 0) := by rw [runX_eq]; rfl
    simp only [slices_DeleteFunc_227, slices_DeleteFunc_227_K, hi, Option.bind_some]
    rw [show w64 (0 + 1) = 1 from rfl, hd]
    exact ⟨_, _, rfl⟩
  | false =>
    have hi : slices_IndexFunc_227 [a] l = some (-1) := by
      simp only [slices_IndexFunc_227, slices_IndexFunc_227_K]
      rw [show ((([a] : List Int).length : Nat) : Int) = 1 from rfl, runL_eq, i1]
      show (runL (slices_IndexFunc_227_L0_step [a] l 1) 1).bind _ = _
      rw [runL_eq]; rfl
    simp only [slices_DeleteFunc_227, slices_DeleteFunc_227_K, hi, Option.bind_some]
    exact ⟨_, _, rfl⟩
theorem del2 (ha : impl_nextPlaces_1 a l = some oa) (hb : impl_nextPlaces_1 b l = some ob) : ∃ z c, slices_DeleteFunc_227 [a, b] l = some (z, (if oa = true then [] else [a]) ++ (if ob = true then [] else [b]), c) := by
  have i1 : slices_IndexFunc_227_L0_step [a, b] l 2 0 = some (if oa = true then .ret 0 else .again 1) := by
    simp only [slices_IndexFunc_227_L0_step, slices_IndexFunc_227_L0_K]
    rw [show List.getD [a, b] ((0 : Int).toNat) 0 = a from rfl, ha]
    cases oa <;> rfl
  have i2 : slices_IndexFunc_227_L0_step [a, b] l 2 1 = some (if ob = true then .ret 1 else .again 2) := by
    simp only [slices_IndexFunc_227_L0_step, slices_IndexFunc_227_L0_K]
    rw [show List.getD [a, b] ((1 : Int).toNat) 0 = b from rfl, hb]
    cases ob <;> rfl
  cases oa with
  | true =>
    have hi : slices_IndexFunc_227 [a, b] l = some 0 := by
      simp only [slices_IndexFunc_227, slices_IndexFunc_227_K]
      rw [show ((([a, b] : List Int).length : Nat) : Int) = 2 from rfl, runL_eq, i1]; rfl
    have s1 : slices_DeleteFunc_227_L0_step l ([a, b], 0, 1) = some (.again (if ob = true then ([a, b], 0, 2) else ([b, b], 1, 2))) := by
      simp only [slices_DeleteFunc_227_L0_step, slices_DeleteFunc_227_L0_K]
      rw [show List.getD [a, b] ((1 : Int).toNat) 0 = b from rfl, hb]
      cases ob <;> rfl
    simp only [slices_DeleteFunc_227, slices_DeleteFunc_227_K, hi, Option.bind_some]
    rw [show w64 (0 + 1) = 1 from rfl, runX_eq, s1]
    cases ob with
    | true =>
      have s2 : runX (slices_DeleteFunc_227_L0_step l) ([a, b], 0, 2) = some ([a, b], 0) := by rw [runX_eq]; rfl
      simp only [Option.bind_some, rndE, if_true, s2]
      exact ⟨_, _, rfl⟩
    | false =>
      have s2 : runX (slices_DeleteFunc_227_L0_step l) ([b, b], 1, 2) = some ([b, b], 1) := by rw [runX_eq]; rfl
      simp only [Option.bind_some, rndE, if_false, s2, Bool.false_eq_true]
      exact ⟨_, _, rfl⟩
  | false =>
    cases ob with
    | true =>
      have hi : slices_IndexFunc_227 [a, b] l = some 1 := by
        simp only [slices_IndexFunc_227, slices_IndexFunc_227_K]
        rw [show ((([a, b] : List Int).length : Nat) : Int) = 2 from rfl, runL_eq, i1]
        show (runL (slices_IndexFunc_227_L0_step [a, b] l 2) 1).bind _ = _
        rw [runL_eq, i2]; rfl
      have s2 : runX (slices_DeleteFunc_227_L0_step l) ([a, b], 1, 2) = some ([a, b], 1) := by rw [runX_eq]; rfl
      simp only [slices_DeleteFunc_227, slices_DeleteFunc_227_K, hi, Option.bind_some]
      rw [show w64 (1 + 1) = 2 from rfl, s2]
      exact ⟨_, _, rfl⟩
    | false =>
      have hi : slices_IndexFunc_227 [a, b] l = some (-1) := by
        simp only [slices_IndexFunc_227, slices_IndexFunc_227_K]
        rw [show ((([a, b] : List Int).length : Nat) : Int) = 2 from rfl, runL_eq, i1]
        show (runL (slices_IndexFunc_227_L0_step [a, b] l 2) 1).bind _ = _
        rw [runL_eq, i2]
        show (runL (slices_IndexFunc_227_L0_step [a, b] l 2) 2).bind _ = _
        rw [runL_eq]; rfl
      simp only [slices_DeleteFunc_227, slices_DeleteFunc_227_K, hi, Option.bind_some]
      exact ⟨_, _, rfl⟩
end
/-! ### the places -/
def nextB (op n pc : Int) (i : Nat) : Bool := ((i : Int) == pc + 1 && op != 15) || ((op == 13 && (i : Int) == pc + n) || op == 12)
def placesF (op n pc : Int) (len : Nat) : List Int := ((List.range len).filter (nextB op n pc)).map fun i : Nat => (i : Int)
theorem places_succ {op n pc : Int} {len : Nat} : placesF op n pc (len + 1) = placesF op n pc len ++ cond (nextB op n pc len) [(len : Int)] [] := by
  unfold placesF
  rw [List.range_succ, List.filter_append, List.map_append]
  congr 1
  cases h : nextB op n pc len <;> simp [h]
theorem places_len {op n pc : Int} {len : Nat} : (placesF op n pc len).length ≤ len := by
  unfold placesF
  rw [List.length_map]
  have := List.length_filter_le (nextB op n pc) (List.range len)
  rwa [List.length_range] at this
section
variable {l : List GIns} {pc : Int} (hc : codeF l = true) (h0 : 0 ≤ pc) (h1 : pc ≤ (l.length : Int) - 1)
include hc h0 h1
theorem code_facts : 1 ≤ l.length ∧ l.length ≤ 48 ∧ -128 ≤ (l.getD pc.toNat default).n ∧ (l.getD pc.toNat default).n ≤ 127 := by
  unfold codeF at hc
  simp only [Bool.and_eq_true, decide_eq_true_eq, all_ok] at hc
  have := hc.2 pc.toNat (by omega)
  unfold insF at this
  simp only [Bool.and_eq_true, decide_eq_true_eq] at this
  exact ⟨hc.1.1, hc.1.2, this.2.2.2.2.1.1, this.2.2.2.2.1.2⟩
theorem sNext : runX (spec_NextPlaces_L0_step l (l.getD pc.toNat default).op (l.getD pc.toNat default).r (l.getD pc.toNat default).a (l.getD pc.toNat default).b (l.getD pc.toNat default).n pc) ([], 0) = some (placesF (l.getD pc.toNat default).op (l.getD pc.toNat default).n pc l.length) := by
  obtain ⟨c1, c2, c3, c4⟩ := code_facts hc h0 h1
  generalize l.getD pc.toNat default = x at c3 c4
  have w1 : w64 (pc + 1) = pc + 1 := w64_id (by omega) (by omega)
  have w2 : w64 (pc + x.n) = pc + x.n := w64_id (by omega) (by omega)
  have hr := runX_for (spec_NextPlaces_L0_step l x.op x.r x.a x.b x.n pc) (fun i : Nat => (placesF x.op x.n pc i, (i : Int))) l.length (placesF x.op x.n pc l.length)
    (fun i hi => by
      have hl := places_len (op := x.op) (n := x.n) (pc := pc) (len := i)
      have hs : ((placesF x.op x.n pc i).length + 1) * 8 ≤ 140737488355328 := by omega
      simp only [spec_NextPlaces_L0_step, spec_NextPlaces_L0_K, w1, w2, w64_succ (show i < 1073741824 by omega), decide_eq_true hs, decide_eq_true (show (i : Int) < (l.length : Int) by omega), cond_true, places_succ, nextB]
      by_cases e13 : x.op = 13
      · rw [e13]
        cases (i : Int) == pc + 1 <;> cases (i : Int) == pc + x.n <;> simp
      · have q13 : (x.op == 13) = false := by rw [beq_eq_false_iff_ne]; exact e13
        rw [q13]
        by_cases e12 : x.op = 12
        · rw [e12]
          cases (i : Int) == pc + 1 <;> simp
        · have q12 : (x.op == 12) = false := by rw [beq_eq_false_iff_ne]; exact e12
          rw [q12]
          cases (i : Int) == pc + 1 <;> cases x.op != 15 <;> simp)
    (by
      simp only [spec_NextPlaces_L0_step, spec_NextPlaces_L0_K, ite_bool, decide_eq_true_eq]
      rw [if_neg (by omega)])
  have e0 : placesF x.op x.n pc 0 = [] := rfl
  rw [show ((0 : Nat) : Int) = 0 from rfl, e0] at hr
  exact hr
end
theorem filter_one {a : Int} {op n pc : Int} (h : ∀ i : Nat, nextB op n pc i = ((i : Int) == a)) : ∀ len : Nat, placesF op n pc len = if 0 ≤ a ∧ a ≤ (len : Int) - 1 then [a] else []
  | 0 => by rw [if_neg (by omega)]; rfl
  | len + 1 => by
    rw [places_succ, filter_one h len, h]
    by_cases e : (len : Int) = a
    · have q : ((len : Int) == a) = true := by rw [beq_iff_eq]; exact e
      rw [q, if_neg (by omega), cond_true, if_pos (by omega), e]; rfl
    · have q : ((len : Int) == a) = false := by rw [beq_eq_false_iff_ne]; exact e
      rw [q, cond_false, List.append_nil]
      by_cases h1 : 0 ≤ a ∧ a ≤ (len : Int) - 1
      · rw [if_pos h1, if_pos (by omega)]
      · rw [if_neg h1, if_neg (by omega)]
theorem filter_two {a b : Int} {op n pc : Int} (hab : a < b) (h : ∀ i : Nat, nextB op n pc i = ((i : Int) == a || (i : Int) == b)) : ∀ len : Nat, placesF op n pc len = (if 0 ≤ a ∧ a ≤ (len : Int) - 1 then [a] else []) ++ (if 0 ≤ b ∧ b ≤ (len : Int) - 1 then [b] else [])
  | 0 => by rw [if_neg (by omega), if_neg (by omega)]; rfl
  | len + 1 => by
    rw [places_succ, filter_two hab h len, h]
    by_cases e : (len : Int) = a
    · have q : ((len : Int) == a) = true := by rw [beq_iff_eq]; exact e
      rw [q, Bool.true_or, cond_true, if_neg (by omega), if_neg (by omega), if_pos (by omega), if_neg (by omega), e]; rfl
    · have q : ((len : Int) == a) = false := by rw [beq_eq_false_iff_ne]; exact e
      rw [q, Bool.false_or]
      by_cases e2 : (len : Int) = b
      · have q2 : ((len : Int) == b) = true := by rw [beq_iff_eq]; exact e2
        rw [q2, cond_true, e2]
        rw [if_neg (show ¬ (0 ≤ b ∧ b ≤ b - 1) by omega), if_pos (show 0 ≤ b ∧ b ≤ ((len + 1 : Nat) : Int) - 1 by omega), List.append_nil]
        by_cases h1 : 0 ≤ a
        · rw [if_pos (by omega), if_pos (by omega)]
        · rw [if_neg (by omega), if_neg (by omega)]
      · have q2 : ((len : Int) == b) = false := by rw [beq_eq_false_iff_ne]; exact e2
        rw [q2, cond_false, List.append_nil]
        congr 1
        · by_cases h1 : 0 ≤ a ∧ a ≤ (len : Int) - 1
          · rw [if_pos h1, if_pos (by omega)]
          · rw [if_neg h1, if_neg (by omega)]
        · by_cases h1 : 0 ≤ b ∧ b ≤ (len : Int) - 1
          · rw [if_pos h1, if_pos (by omega)]
          · rw [if_neg h1, if_neg (by omega)]
end Go.Eng
/- Plain laws: the places that come next, and what the law asks besides. -/
set_option linter.unusedSimpArgs false
set_option linter.unusedSectionVars false
namespace Go.Eng
open Go.Proofs
section
variable {l : List GIns} {pc : Int} (hc : codeF l = true) (h0 : 0 ≤ pc) (h1 : pc ≤ (l.length : Int) - 1)
include hc h0 h1
theorem iNext : impl_nextPlaces l pc = some (placesF (l.getD pc.toNat default).op (l.getD pc.toNat default).n pc l.length) := by
  obtain ⟨c1, c2, c3, c4⟩ := code_facts hc h0 h1
  have hnp := np_eq (l := l) (by omega)
  simp only [impl_nextPlaces, impl_nextPlaces_K]
  generalize l.getD pc.toNat default = x at c3 c4
  have w1 : w64 (pc + 1) = pc + 1 := w64_id (by omega) (by omega)
  have w2 : w64 (pc + x.n) = pc + x.n := w64_id (by omega) (by omega)
  simp only [w1, w2, decide_eq_true h0, decide_eq_true (show pc < (l.length : Int) by omega), cond_true]
  have oe : ∀ (p : Int) (q : List Int), (if outB l p = true then [] else q) = if 0 ≤ p ∧ p ≤ (l.length : Int) - 1 then q else [] := fun p q => by
    unfold outB
    by_cases h : 0 ≤ p ∧ p ≤ (l.length : Int) - 1
    · rw [if_pos h, decide_eq_true h.1, decide_eq_true h.2]; rfl
    · rw [if_neg h]
      have : (decide (0 ≤ p) && decide (p ≤ (l.length : Int) - 1)) = false := by rw [← Bool.not_eq_true]; simpa using h
      rw [this]; rfl
  by_cases e15 : x.op = 15
  · rw [e15]
    have hb : ∀ i, nextB 15 x.n pc i = false := fun i => by unfold nextB; simp
    have hp : ∀ len, placesF 15 x.n pc len = [] := fun len => by
      induction len with
      | zero => rfl
      | succ n ih => rw [places_succ, ih, hb]; rfl
    rw [hp]; rfl
  · have q15 : (x.op == 15) = false := by rw [beq_eq_false_iff_ne]; exact e15
    rw [q15, cond_false]
    by_cases e12 : x.op = 12
    · rw [e12]
      have hb : ∀ i, nextB 12 x.n pc i = true := fun i => by unfold nextB; simp
      have hr := runX_for (impl_nextPlaces_L1_step l ((l.length : Nat) : Int)) (fun i : Nat => (placesF 12 x.n pc i, (i : Int))) l.length (placesF 12 x.n pc l.length)
        (fun i hi => by
          have hl := places_len (op := 12) (n := x.n) (pc := pc) (len := i)
          have hs : ((placesF 12 x.n pc i).length + 1) * 8 ≤ 140737488355328 := by omega
          simp only [impl_nextPlaces_L1_step, impl_nextPlaces_L1_K, w64_succ (show i < 1073741824 by omega), decide_eq_true hs, decide_eq_true (show (i : Int) < (l.length : Int) by omega), cond_true, places_succ, hb])
        (by
          simp only [impl_nextPlaces_L1_step, impl_nextPlaces_L1_K, ite_bool, decide_eq_true_eq]
          rw [if_neg (by omega)])
      have e0 : placesF 12 x.n pc 0 = [] := rfl
      rw [show ((0 : Nat) : Int) = 0 from rfl, e0] at hr
      rw [hr]; rfl
    · have q12 : (x.op == 12) = false := by rw [beq_eq_false_iff_ne]; exact e12
      rw [q12, cond_false]
      have q15' : (x.op != 15) = true := by simp [bne, q15]
      by_cases e13 : x.op = 13
      · rw [e13]
        have hb : ∀ i : Nat, nextB 13 x.n pc i = ((i : Int) == pc + 1 || (i : Int) == pc + x.n) := fun i => by unfold nextB; simp
        simp only [beq_self_eq_true, cond_true, List.nil_append, List.cons_append, sort2, Option.bind_some]
        rw [show (decide (1 * 8 ≤ 140737488355328)) = true from rfl, show (decide ((([pc + x.n] : List Int).length + 1) * 8 ≤ 140737488355328)) = true from rfl]
        simp only [cond_true]
        rcases Int.lt_trichotomy (pc + 1) (pc + x.n) with h | h | h
        · rw [if_pos h, compact2 _ _ (by omega)]
          obtain ⟨z, c, hd⟩ := del2 (hnp (pc + 1)) (hnp (pc + x.n))
          rw [filter_two h hb]
          simp only [Option.bind_some, cond_true, hd, oe]
          cases c <;> rfl
        · rw [if_neg (by omega), ← h, compact2e]
          obtain ⟨z, c, hd⟩ := del1 (hnp (pc + 1))
          rw [filter_one (a := pc + 1) (fun i => by rw [hb, ← h, Bool.or_self])]
          simp only [Option.bind_some, cond_false, hd, oe]
          cases c <;> rfl
        · rw [if_neg (by omega), compact2 _ _ (by omega)]
          obtain ⟨z, c, hd⟩ := del2 (hnp (pc + x.n)) (hnp (pc + 1))
          rw [filter_two h (fun i => by rw [hb, Bool.or_comm])]
          simp only [Option.bind_some, cond_true, hd, oe]
          cases c <;> rfl
      · have q13 : (x.op == 13) = false := by rw [beq_eq_false_iff_ne]; exact e13
        have hb : ∀ i : Nat, nextB x.op x.n pc i = ((i : Int) == pc + 1) := fun i => by unfold nextB; rw [q13, q12, q15']; simp
        simp only [q13, cond_false, List.nil_append, sort1, compact1, Option.bind_some, cond_true]
        rw [show (decide (1 * 8 ≤ 140737488355328)) = true from rfl]
        obtain ⟨z, c, hd⟩ := del1 (hnp (pc + 1))
        rw [filter_one hb]
        simp only [Option.bind_some, cond_true, hd, oe]
        cases c <;> rfl
end
def nextF (l : List GIns) (pc : Int) : List Int := if codeF l = true then if 0 ≤ pc ∧ pc ≤ (l.length : Int) - 1 then placesF (l.getD pc.toNat default).op (l.getD pc.toNat default).n pc l.length else [] else []
section
variable {l : List GIns} {pc : Int} (hl : l.length ≤ 1048576)
include hl
theorem next_len : (nextF l pc).length ≤ 1048576 := by
  unfold nextF
  split
  · split
    · have := places_len (op := (l.getD pc.toNat default).op) (n := (l.getD pc.toNat default).n) (pc := pc) (len := l.length); omega
    · simp
  · simp
theorem sPlaces : spec_NextPlaces l pc = some (nextF l pc) := by
  have w1 : w64 ((l.length : Int) - 1) = (l.length : Int) - 1 := w64_id (by omega) (by omega)
  simp only [spec_NextPlaces, spec_NextPlaces_K, sCode hl, l1In_eq, Option.bind_some, w1, nextF]
  cases hc : codeF l
  · rfl
  · by_cases h : 0 ≤ pc ∧ pc ≤ (l.length : Int) - 1
    · rw [if_pos rfl, if_pos h, decide_eq_true h.1, decide_eq_true h.2, decide_eq_true (show pc < (l.length : Int) by omega), sNext hc h.1 h.2]
      rfl
    · have : (decide (0 ≤ pc) && decide (pc ≤ (l.length : Int) - 1)) = false := by rw [← Bool.not_eq_true]; simpa using h
      rw [if_pos rfl, if_neg h, this]; rfl
theorem iPlaces : impl_NextPlaces l pc = some (nextF l pc) := by
  have w1 : w64 ((l.length : Int) - 1) = (l.length : Int) - 1 := w64_id (by omega) (by omega)
  simp only [impl_NextPlaces, impl_NextPlaces_K, iCode hl, in_eq, Option.bind_some, w1, nextF]
  cases hc : codeF l
  · rfl
  · by_cases h : 0 ≤ pc ∧ pc ≤ (l.length : Int) - 1
    · rw [if_pos rfl, if_pos h, decide_eq_true h.1, decide_eq_true h.2, iNext hc h.1 h.2]
      rfl
    · have : (decide (0 ≤ pc) && decide (pc ≤ (l.length : Int) - 1)) = false := by rw [← Bool.not_eq_true]; simpa using h
      rw [if_pos rfl, if_neg h, this]; rfl
end
/-! ### copies, what is equal, what is marked -/
theorem toIns_eq (x : GIns) : laws_toIns x = some x := rfl
theorem toInsS_eq (l : List GIns) (h : l.length ≤ 1048576) : laws_toInsS l = some l := by
  have hr := runX_for (laws_toInsS_L0_step l) (fun i : Nat => (l.take i ++ (List.replicate l.length (⟨0, 0, 0, 0, 0⟩ : GIns)).drop i, (i : Int))) l.length l
    (fun i hi => by
      have e2 : (l.take i ++ (List.replicate l.length (⟨0, 0, 0, 0, 0⟩ : GIns)).drop i).length = l.length := by simp; omega
      simp only [laws_toInsS_L0_step, laws_toInsS_L0_K, ite_bool, decide_eq_true_eq, nat_toNat, e2, w64_succ (show i < 1073741824 by omega), toIns_eq, Option.bind_some]
      repeat (rw [if_pos (by omega)])
      rw [fill_step l _ hi (by simp)])
    (by
      simp only [laws_toInsS_L0_step, laws_toInsS_L0_K, ite_bool, decide_eq_true_eq]
      rw [if_neg (by omega)]; simp)
  simp only [laws_toInsS, laws_toInsS_K, ite_bool, decide_eq_true_eq]
  rw [if_pos (by omega), if_pos (by omega), nat_toNat]
  simp only [List.take_zero, List.drop_zero, List.nil_append] at hr
  rw [show ((0 : Nat) : Int) = 0 from rfl] at hr
  rw [hr]; rfl
theorem eqIns_refl (x : GIns) : laws_eqIns x x = some true := by simp [laws_eqIns, laws_eqIns_K]
theorem eqInsS_refl (l : List GIns) (h : l.length ≤ 1048576) : laws_eqInsS l l = some true := by
  have hr := runL_thru (laws_eqInsS_L0_step l l) (fun i : Nat => (i : Int)) l.length ()
    (fun i hi => by
      simp only [laws_eqInsS_L0_step, laws_eqInsS_L0_K, ite_bool, decide_eq_true_eq, nat_toNat, eqIns_refl, Option.bind_some, w64_succ (show i < 1073741824 by omega)]
      repeat (rw [if_pos (by omega)])
      rfl)
    (by simp only [laws_eqInsS_L0_step, laws_eqInsS_L0_K, ite_bool, decide_eq_true_eq]
        rw [if_neg (by omega)])
  rw [show ((0 : Nat) : Int) = 0 from rfl] at hr
  simp [laws_eqInsS, laws_eqInsS_K, hr, sumK]
theorem eqIntS_refl (l : List Int) (h : l.length ≤ 1048576) : laws_eqIntS l l = some true := by
  have hr := runL_thru (laws_eqIntS_L0_step l l) (fun i : Nat => (i : Int)) l.length ()
    (fun i hi => by
      simp only [laws_eqIntS_L0_step, laws_eqIntS_L0_K, ite_bool, decide_eq_true_eq, nat_toNat, w64_succ (show i < 1073741824 by omega)]
      repeat (rw [if_pos (by omega)])
      rw [if_neg (by simp)])
    (by simp only [laws_eqIntS_L0_step, laws_eqIntS_L0_K, ite_bool, decide_eq_true_eq]
        rw [if_neg (by omega)])
  rw [show ((0 : Nat) : Int) = 0 from rfl] at hr
  simp [laws_eqIntS, laws_eqIntS_K, hr, sumK]
def marksT (n : Nat) : List Int := (List.range n).map fun i : Nat => ((i + 1 : Nat) : Int)
theorem marksT_len {n : Nat} : (marksT n).length = n := by simp [marksT]
theorem marksT_get {n i : Nat} (h : i < n) : (marksT n).getD i 0 = ((i + 1 : Nat) : Int) := by
  rw [getD_lt (by rw [marksT_len]; exact h)]; simp [marksT]
theorem markIntS_eq (l : List Int) (h : l.length ≤ 1048576) : laws_markIntS l 1 = some (((l.length + 1 : Nat) : Int), marksT l.length) := by
  have hr := runX_for laws_markIntS_L0_step (fun i : Nat => ((marksT l.length).take i ++ l.drop i, ((i + 1 : Nat) : Int), (i : Int))) l.length (marksT l.length, ((l.length + 1 : Nat) : Int))
    (fun i hi => by
      have e2 : ((marksT l.length).take i ++ l.drop i).length = l.length := by simp [marksT_len]; omega
      have e3 := fill_step (marksT l.length) l (i := i) (by rw [marksT_len]; exact hi) (by rw [marksT_len]) (0 : Int)
      rw [marksT_get hi] at e3
      simp only [laws_markIntS_L0_step, laws_markIntS_L0_K, ite_bool, decide_eq_true_eq, nat_toNat, e2, e3, w64_succ (show i < 1073741824 by omega), w64_succ (show i + 1 < 1073741824 by omega)]
      rw [if_pos (by omega), if_pos (by omega), if_pos (by omega)])
    (by
      have e2 : ((marksT l.length).take l.length ++ l.drop l.length) = marksT l.length := by
        rw [List.drop_length, List.append_nil]; exact List.take_of_length_le (by rw [marksT_len]; exact Nat.le_refl _)
      simp only [laws_markIntS_L0_step, laws_markIntS_L0_K, ite_bool, decide_eq_true_eq, e2, marksT_len]
      rw [if_neg (by omega)])
  simp only [List.take_zero, List.drop_zero, List.nil_append] at hr
  rw [show ((0 : Nat) : Int) = 0 from rfl, show ((0 + 1 : Nat) : Int) = 1 from rfl] at hr
  simp only [laws_markIntS, laws_markIntS_K, hr, Option.bind_some]
theorem heldIntS_eq (n : Nat) (h : n ≤ 1048576) : laws_heldIntS (marksT n) 1 = some ((n + 1 : Nat) : Int) := by
  have hr := runL_thru (laws_heldIntS_L0_step (marksT n)) (fun i : Nat => (((i + 1 : Nat) : Int), (i : Int))) n ((n + 1 : Nat) : Int)
    (fun i hi => by
      simp only [laws_heldIntS_L0_step, laws_heldIntS_L0_K, ite_bool, decide_eq_true_eq, nat_toNat, marksT_len, marksT_get hi, w64_succ (show i < 1073741824 by omega), w64_succ (show i + 1 < 1073741824 by omega)]
      repeat (rw [if_pos (by omega)])
      rw [if_neg (by simp)])
    (by simp only [laws_heldIntS_L0_step, laws_heldIntS_L0_K, ite_bool, decide_eq_true_eq, marksT_len]
        rw [if_neg (by omega)])
  rw [show ((0 : Nat) : Int) = 0 from rfl, show ((0 + 1 : Nat) : Int) = 1 from rfl] at hr
  simp only [laws_heldIntS, laws_heldIntS_K, hr]; rfl
theorem modL_len {α : Type} {l : List α} {i : Nat} {f : α → α} {d : α} : (modL l i f d).length = l.length := by unfold modL; simp
theorem markInsS_some (l : List GIns) (h : l.length ≤ 1048576) : ∃ r : Int × List GIns, laws_markInsS l 1 = some r ∧ 0 ≤ r.1 := by
  have key : ∀ m i : Nat, i + m = l.length → ∀ l' : List GIns, l'.length = l.length → ∃ t : List GIns × Int, runX laws_markInsS_L0_step (l', ((5 * i + 1 : Nat) : Int), (i : Int)) = some t ∧ 0 ≤ t.2 := by
    intro m
    induction m with
    | zero =>
      intro i hi l' hl'
      have : laws_markInsS_L0_step (l', ((5 * i + 1 : Nat) : Int), (i : Int)) = some (.exit (l', ((5 * i + 1 : Nat) : Int))) := by
        simp only [laws_markInsS_L0_step, laws_markInsS_L0_K, ite_bool, decide_eq_true_eq]
        rw [if_neg (by omega)]
      refine ⟨(l', ((5 * i + 1 : Nat) : Int)), ?_, by simp only; omega⟩
      rw [runX_eq, this]; rfl
    | succ m ih =>
      intro i hi l' hl'
      have e1 : w64 (((5 * i + 1 : Nat) : Int) + 1) = ((5 * i + 2 : Nat) : Int) := by rw [w64_id] <;> omega
      have e2 : w64 (((5 * i + 2 : Nat) : Int) + 1) = ((5 * i + 3 : Nat) : Int) := by rw [w64_id] <;> omega
      have e3 : w64 (((5 * i + 3 : Nat) : Int) + 1) = ((5 * i + 4 : Nat) : Int) := by rw [w64_id] <;> omega
      have e4 : w64 (((5 * i + 4 : Nat) : Int) + 1) = ((5 * i + 5 : Nat) : Int) := by rw [w64_id] <;> omega
      have e5 : w64 (((5 * i + 5 : Nat) : Int) + 1) = ((5 * (i + 1) + 1 : Nat) : Int) := by rw [w64_id] <;> omega
      have : ∃ l'' : List GIns, l''.length = l.length ∧ laws_markInsS_L0_step (l', ((5 * i + 1 : Nat) : Int), (i : Int)) = some (.again (l'', ((5 * (i + 1) + 1 : Nat) : Int), ((i + 1 : Nat) : Int))) := by
        simp only [laws_markInsS_L0_step, laws_markInsS_L0_K, ite_bool, decide_eq_true_eq, modL_len, e1, e2, e3, e4, e5, w64_succ (show i < 1073741824 by omega)]
        rw [if_pos (by omega), if_pos (by omega)]
        refine ⟨_, ?_, by repeat (first | rfl | rw [if_pos (by omega)])⟩
        simp only [modL_len]; exact hl'
      obtain ⟨l'', k1, k2⟩ := this
      obtain ⟨t, t1, t2⟩ := ih (i + 1) (by omega) l'' k1
      refine ⟨t, ?_, t2⟩
      rw [runX_eq, k2]; exact t1
  obtain ⟨t, t1, t2⟩ := key l.length 0 (by omega) l rfl
  rw [show ((0 : Nat) : Int) = 0 from rfl, show ((5 * 0 + 1 : Nat) : Int) = 1 from rfl] at t1
  refine ⟨(t.2, t.1), ?_, t2⟩
  simp only [laws_markInsS, laws_markInsS_K, t1, Option.bind_some]
/-- ████ THE PLAIN LAW ████ -/
theorem laws_FnExactNextPlaces_true (l : List GIns) (pc : Int) (hb : l.length ≤ reachBytes) : laws_FnExactNextPlaces l pc = some true := by
  have hbb : reachBytes = 140737488351232 := rfl
  have w0 : w64 (1048576 - (l.length : Int)) = 1048576 - (l.length : Int) := w64_id (by omega) (by omega)
  simp only [laws_FnExactNextPlaces, laws_FnExactNextPlaces_K, laws_szInsS, laws_szInsS_K, w0, ite_bool, decide_eq_true_eq]
  by_cases h0 : (1048576 : Int) - (l.length : Int) < 0
  · rw [if_pos h0]; rfl
  · have hl : l.length ≤ 1048576 := by omega
    have hn := next_len (pc := pc) hl
    obtain ⟨r, r1, r2⟩ := markInsS_some l hl
    rw [if_neg h0]
    simp only [Option.bind_some, if_neg h0, toInsS_eq l hl, sPlaces (pc := pc) hl, iPlaces (pc := pc) hl, eqIntS_refl _ hn, eqInsS_refl l hl, r1, markIntS_eq _ hn, heldIntS_eq _ hn]
    have n1 : ¬ (((nextF l pc).length + 1 : Nat) : Int) < 0 := by omega
    have n2 : ¬ r.1 < 0 := by omega
    simp only [Bool.not_true, Bool.false_eq_true, if_false, bne_self_eq_false, if_neg n1, decide_eq_false n2, beq_self_eq_true, if_true]
end Go.Eng
