/- Functions of the program, as the evaluator tells them: printed by a program of ours. -/
import Derived.Test.YtkgeojjgcffebaaExactNextPlacesFS
import Derived.Test.YtkgeojjgcffebaaExactNextPlacesF0
import Derived.Test.YtkgeojjgcffebaaExactNextPlacesF1
set_option linter.unusedVariables false
set_option linter.unusedSimpArgs false
set_option maxRecDepth 20000
namespace Go.Eng
open Go.Proofs
/-! slices.partitionOrdered[int] -/
noncomputable def slices_partitionOrdered_L6_K (l0 : List Int) (n1 : Int) (n3 : Int) (n2 : Int) {ρ : Type} (A : Int → Option ρ) (X : Int → Option ρ) (R : Unit → Option ρ) : Option ρ :=
  cond ((decide (n2 ≤ n3)) == true)
    (cond (decide (0 ≤ n2)) (cond (decide (n2 < (((l0.length : Nat) : Int)))) (cond (decide (0 ≤ n1)) (cond (decide (n1 < (((l0.length : Nat) : Int)))) (Option.bind (cmp_Less (List.getD l0 (n2.toNat) 0) (List.getD l0 (n1.toNat) 0)) fun r5 =>
    cond r5
      (A (w64 (n2 + 1)))
      (X n2)) none) none) none) none)
    (X n2)
noncomputable def slices_partitionOrdered_L6_step (l0 : List Int) (n1 : Int) (n3 : Int) (s : Int) : Option (Rnd (Int) (Int) (Unit)) := slices_partitionOrdered_L6_K l0 n1 n3 s (fun s => some (.again s)) (fun t => some (.exit t)) (fun k => some (.ret k))
theorem slices_partitionOrdered_L6_bind (l0 : List Int) (n1 : Int) (n3 : Int) (s : Int) {ρ : Type} (A : Int → Option ρ) (X : Int → Option ρ) (R : Unit → Option ρ) : slices_partitionOrdered_L6_K l0 n1 n3 s A X R = (slices_partitionOrdered_L6_step l0 n1 n3 s).bind (rndE A X R) := by
  simp only [slices_partitionOrdered_L6_step, slices_partitionOrdered_L6_K, Option.bind_assoc, Option.bind_some, Option.bind_none, cond_bind, sumK_bind, rndE_again, rndE_exit, rndE_ret]
def slices_partitionOrdered_L6_st (p : List Int × Int × Int) (s : Int) : List V × Heap Row := ([.c (.sl 0 0), .c (.int .i64 (p.2.1)), .c (.int .i64 (s)), .c (.int .i64 (p.2.2))], [⟨.row ⟨.int, p.1⟩, 0, 2⟩])
def slices_partitionOrdered_L6_so (p : List Int × Int × Int) (t : Int) : List V × Heap Row := ([.c (.sl 0 0), .c (.int .i64 (p.2.1)), .c (.int .i64 (t)), .c (.int .i64 (p.2.2))], [⟨.row ⟨.int, p.1⟩, 0, 2⟩])
def slices_partitionOrdered_L6_D : List V → Heap Row → Option ((List Int × Int × Int) × (Int))
  | [.c (.sl 0 0), .c (.int .i64 v1), .c (.int .i64 v2), .c (.int .i64 v3)], [⟨.row ⟨.int, v4⟩, 0, 2⟩] => some ((v4, v1, v3), (v2))
  | _, _ => none
theorem slices_partitionOrdered_L6_D_ok (vs : List V) (L : Heap Row) (p : List Int × Int × Int) (s : Int) (h : slices_partitionOrdered_L6_D vs L = some (p, s)) : slices_partitionOrdered_L6_st p s = (vs, L) := by
  unfold slices_partitionOrdered_L6_D at h
  split at h
  · simp at h; obtain ⟨rfl, rfl⟩ := h; rfl
  · simp at h
noncomputable def slices_partitionOrdered_L6_H : LoopH Row := loopX [0, 1, 10, 11] [0, 1, 10, 11] slices_partitionOrdered_L6_D (fun p => slices_partitionOrdered_L6_step (p.1) (p.2.1) (p.2.2)) slices_partitionOrdered_L6_so
noncomputable def slices_partitionOrdered_L8_K (l0 : List Int) (n1 : Int) (n2 : Int) (n3 : Int) {ρ : Type} (A : Int → Option ρ) (X : Int → Option ρ) (R : Unit → Option ρ) : Option ρ :=
  cond ((decide (n2 ≤ n3)) == true)
    (cond (decide (0 ≤ n3)) (cond (decide (n3 < (((l0.length : Nat) : Int)))) (cond (decide (0 ≤ n1)) (cond (decide (n1 < (((l0.length : Nat) : Int)))) (Option.bind (cmp_Less (List.getD l0 (n3.toNat) 0) (List.getD l0 (n1.toNat) 0)) fun r7 =>
    cond (!r7)
      (A (w64 (n3 - 1)))
      (X n3)) none) none) none) none)
    (X n3)
noncomputable def slices_partitionOrdered_L8_step (l0 : List Int) (n1 : Int) (n2 : Int) (s : Int) : Option (Rnd (Int) (Int) (Unit)) := slices_partitionOrdered_L8_K l0 n1 n2 s (fun s => some (.again s)) (fun t => some (.exit t)) (fun k => some (.ret k))
theorem slices_partitionOrdered_L8_bind (l0 : List Int) (n1 : Int) (n2 : Int) (s : Int) {ρ : Type} (A : Int → Option ρ) (X : Int → Option ρ) (R : Unit → Option ρ) : slices_partitionOrdered_L8_K l0 n1 n2 s A X R = (slices_partitionOrdered_L8_step l0 n1 n2 s).bind (rndE A X R) := by
  simp only [slices_partitionOrdered_L8_step, slices_partitionOrdered_L8_K, Option.bind_assoc, Option.bind_some, Option.bind_none, cond_bind, sumK_bind, rndE_again, rndE_exit, rndE_ret]
def slices_partitionOrdered_L8_st (p : List Int × Int × Int) (s : Int) : List V × Heap Row := ([.c (.sl 0 0), .c (.int .i64 (p.2.1)), .c (.int .i64 (p.2.2)), .c (.int .i64 (s))], [⟨.row ⟨.int, p.1⟩, 0, 2⟩])
def slices_partitionOrdered_L8_so (p : List Int × Int × Int) (t : Int) : List V × Heap Row := ([.c (.sl 0 0), .c (.int .i64 (p.2.1)), .c (.int .i64 (p.2.2)), .c (.int .i64 (t))], [⟨.row ⟨.int, p.1⟩, 0, 2⟩])
def slices_partitionOrdered_L8_D : List V → Heap Row → Option ((List Int × Int × Int) × (Int))
  | [.c (.sl 0 0), .c (.int .i64 v1), .c (.int .i64 v2), .c (.int .i64 v3)], [⟨.row ⟨.int, v4⟩, 0, 2⟩] => some ((v4, v1, v2), (v3))
  | _, _ => none
theorem slices_partitionOrdered_L8_D_ok (vs : List V) (L : Heap Row) (p : List Int × Int × Int) (s : Int) (h : slices_partitionOrdered_L8_D vs L = some (p, s)) : slices_partitionOrdered_L8_st p s = (vs, L) := by
  unfold slices_partitionOrdered_L8_D at h
  split at h
  · simp at h; obtain ⟨rfl, rfl⟩ := h; rfl
  · simp at h
noncomputable def slices_partitionOrdered_L8_H : LoopH Row := loopX [0, 1, 10, 11] [0, 1, 10, 11] slices_partitionOrdered_L8_D (fun p => slices_partitionOrdered_L8_step (p.1) (p.2.1) (p.2.2)) slices_partitionOrdered_L8_so
noncomputable def slices_partitionOrdered_L0_K (l0 : List Int) (n1 : Int) (n3 : Int) (n2 : Int) {ρ : Type} (A : Int → Option ρ) (X : Int → Option ρ) (R : Unit → Option ρ) : Option ρ :=
  cond ((decide (n2 ≤ n3)) == true)
    (cond (decide (0 ≤ n2)) (cond (decide (n2 < (((l0.length : Nat) : Int)))) (cond (decide (0 ≤ n1)) (cond (decide (n1 < (((l0.length : Nat) : Int)))) (Option.bind (cmp_Less (List.getD l0 (n2.toNat) 0) (List.getD l0 (n1.toNat) 0)) fun r1 =>
    cond r1
      (A (w64 (n2 + 1)))
      (X n2)) none) none) none) none)
    (X n2)
noncomputable def slices_partitionOrdered_L0_step (l0 : List Int) (n1 : Int) (n3 : Int) (s : Int) : Option (Rnd (Int) (Int) (Unit)) := slices_partitionOrdered_L0_K l0 n1 n3 s (fun s => some (.again s)) (fun t => some (.exit t)) (fun k => some (.ret k))
theorem slices_partitionOrdered_L0_bind (l0 : List Int) (n1 : Int) (n3 : Int) (s : Int) {ρ : Type} (A : Int → Option ρ) (X : Int → Option ρ) (R : Unit → Option ρ) : slices_partitionOrdered_L0_K l0 n1 n3 s A X R = (slices_partitionOrdered_L0_step l0 n1 n3 s).bind (rndE A X R) := by
  simp only [slices_partitionOrdered_L0_step, slices_partitionOrdered_L0_K, Option.bind_assoc, Option.bind_some, Option.bind_none, cond_bind, sumK_bind, rndE_again, rndE_exit, rndE_ret]
def slices_partitionOrdered_L0_st (p : List Int × Int × Int) (s : Int) : List V × Heap Row := ([.c (.sl 0 0), .c (.int .i64 (p.2.1)), .c (.int .i64 (s)), .c (.int .i64 (p.2.2))], [⟨.row ⟨.int, p.1⟩, 0, 2⟩])
def slices_partitionOrdered_L0_so (p : List Int × Int × Int) (t : Int) : List V × Heap Row := ([.c (.sl 0 0), .c (.int .i64 (p.2.1)), .c (.int .i64 (t)), .c (.int .i64 (p.2.2))], [⟨.row ⟨.int, p.1⟩, 0, 2⟩])
def slices_partitionOrdered_L0_D : List V → Heap Row → Option ((List Int × Int × Int) × (Int))
  | [.c (.sl 0 0), .c (.int .i64 v1), .c (.int .i64 v2), .c (.int .i64 v3)], [⟨.row ⟨.int, v4⟩, 0, 2⟩] => some ((v4, v1, v3), (v2))
  | _, _ => none
theorem slices_partitionOrdered_L0_D_ok (vs : List V) (L : Heap Row) (p : List Int × Int × Int) (s : Int) (h : slices_partitionOrdered_L0_D vs L = some (p, s)) : slices_partitionOrdered_L0_st p s = (vs, L) := by
  unfold slices_partitionOrdered_L0_D at h
  split at h
  · simp at h; obtain ⟨rfl, rfl⟩ := h; rfl
  · simp at h
noncomputable def slices_partitionOrdered_L0_H : LoopH Row := loopX [0, 1, 10, 11] [0, 1, 10, 11] slices_partitionOrdered_L0_D (fun p => slices_partitionOrdered_L0_step (p.1) (p.2.1) (p.2.2)) slices_partitionOrdered_L0_so
noncomputable def slices_partitionOrdered_L2_K (l0 : List Int) (n1 : Int) (n2 : Int) (n3 : Int) {ρ : Type} (A : Int → Option ρ) (X : Int → Option ρ) (R : Unit → Option ρ) : Option ρ :=
  cond ((decide (n2 ≤ n3)) == true)
    (cond (decide (0 ≤ n3)) (cond (decide (n3 < (((l0.length : Nat) : Int)))) (cond (decide (0 ≤ n1)) (cond (decide (n1 < (((l0.length : Nat) : Int)))) (Option.bind (cmp_Less (List.getD l0 (n3.toNat) 0) (List.getD l0 (n1.toNat) 0)) fun r3 =>
    cond (!r3)
      (A (w64 (n3 - 1)))
      (X n3)) none) none) none) none)
    (X n3)
noncomputable def slices_partitionOrdered_L2_step (l0 : List Int) (n1 : Int) (n2 : Int) (s : Int) : Option (Rnd (Int) (Int) (Unit)) := slices_partitionOrdered_L2_K l0 n1 n2 s (fun s => some (.again s)) (fun t => some (.exit t)) (fun k => some (.ret k))
theorem slices_partitionOrdered_L2_bind (l0 : List Int) (n1 : Int) (n2 : Int) (s : Int) {ρ : Type} (A : Int → Option ρ) (X : Int → Option ρ) (R : Unit → Option ρ) : slices_partitionOrdered_L2_K l0 n1 n2 s A X R = (slices_partitionOrdered_L2_step l0 n1 n2 s).bind (rndE A X R) := by
  simp only [slices_partitionOrdered_L2_step, slices_partitionOrdered_L2_K, Option.bind_assoc, Option.bind_some, Option.bind_none, cond_bind, sumK_bind, rndE_again, rndE_exit, rndE_ret]
def slices_partitionOrdered_L2_st (p : List Int × Int × Int) (s : Int) : List V × Heap Row := ([.c (.sl 0 0), .c (.int .i64 (p.2.1)), .c (.int .i64 (p.2.2)), .c (.int .i64 (s))], [⟨.row ⟨.int, p.1⟩, 0, 2⟩])
def slices_partitionOrdered_L2_so (p : List Int × Int × Int) (t : Int) : List V × Heap Row := ([.c (.sl 0 0), .c (.int .i64 (p.2.1)), .c (.int .i64 (p.2.2)), .c (.int .i64 (t))], [⟨.row ⟨.int, p.1⟩, 0, 2⟩])
def slices_partitionOrdered_L2_D : List V → Heap Row → Option ((List Int × Int × Int) × (Int))
  | [.c (.sl 0 0), .c (.int .i64 v1), .c (.int .i64 v2), .c (.int .i64 v3)], [⟨.row ⟨.int, v4⟩, 0, 2⟩] => some ((v4, v1, v2), (v3))
  | _, _ => none
theorem slices_partitionOrdered_L2_D_ok (vs : List V) (L : Heap Row) (p : List Int × Int × Int) (s : Int) (h : slices_partitionOrdered_L2_D vs L = some (p, s)) : slices_partitionOrdered_L2_st p s = (vs, L) := by
  unfold slices_partitionOrdered_L2_D at h
  split at h
  · simp at h; obtain ⟨rfl, rfl⟩ := h; rfl
  · simp at h
noncomputable def slices_partitionOrdered_L2_H : LoopH Row := loopX [0, 1, 10, 11] [0, 1, 10, 11] slices_partitionOrdered_L2_D (fun p => slices_partitionOrdered_L2_step (p.1) (p.2.1) (p.2.2)) slices_partitionOrdered_L2_so
noncomputable def slices_partitionOrdered_L4_K (n1 : Int) (l0 : List Int) (n2 : Int) (n3 : Int) {ρ : Type} (A : List Int × Int × Int → Option ρ) (X : List Int × Int → Option ρ) (R : Unit → Option ρ) : Option ρ :=
  Option.bind (runX (slices_partitionOrdered_L6_step l0 n1 n3) n2) fun t6 =>
  Option.bind (runX (slices_partitionOrdered_L8_step l0 n1 t6) n3) fun t8 =>
  cond (decide (t6 > t8))
    (X (l0, t8))
    (cond (decide (0 ≤ t8)) (cond (decide (t8 < (((l0.length : Nat) : Int)))) (cond (decide (0 ≤ t6)) (cond (decide (t6 < (((l0.length : Nat) : Int)))) (cond (decide (0 ≤ t6)) (cond (decide (t6 < (((l0.length : Nat) : Int)))) (cond (decide (0 ≤ t8)) (cond (decide (t8 < ((((List.set l0 (t6.toNat) (List.getD l0 (t8.toNat) 0)).length : Nat) : Int)))) (A (List.set (List.set l0 (t6.toNat) (List.getD l0 (t8.toNat) 0)) (t8.toNat) (List.getD l0 (t6.toNat) 0), w64 (t6 + 1), w64 (t8 - 1))) none) none) none) none) none) none) none) none)
noncomputable def slices_partitionOrdered_L4_step (n1 : Int) (s : List Int × Int × Int) : Option (Rnd (List Int × Int × Int) (List Int × Int) (Unit)) := slices_partitionOrdered_L4_K n1 (s.1) (s.2.1) (s.2.2) (fun s => some (.again s)) (fun t => some (.exit t)) (fun k => some (.ret k))
theorem slices_partitionOrdered_L4_bind (n1 : Int) (s : List Int × Int × Int) {ρ : Type} (A : List Int × Int × Int → Option ρ) (X : List Int × Int → Option ρ) (R : Unit → Option ρ) : slices_partitionOrdered_L4_K n1 (s.1) (s.2.1) (s.2.2) A X R = (slices_partitionOrdered_L4_step n1 s).bind (rndE A X R) := by
  simp only [slices_partitionOrdered_L4_step, slices_partitionOrdered_L4_K, Option.bind_assoc, Option.bind_some, Option.bind_none, cond_bind, sumK_bind, rndE_again, rndE_exit, rndE_ret]
def slices_partitionOrdered_L4_st (p : Int) (s : List Int × Int × Int) : List V × Heap Row := ([.c (.sl 0 0), .c (.int .i64 (p)), .c (.int .i64 (s.2.1)), .c (.int .i64 (s.2.2))], [⟨.row ⟨.int, s.1⟩, 0, 2⟩])
def slices_partitionOrdered_L4_so (p : Int) (t : List Int × Int) : List V × Heap Row := ([.c (.sl 0 0), .c (.int .i64 (p)), .c (.int .i64 (t).2)], [⟨.row ⟨.int, (t).1⟩, 0, 2⟩])
def slices_partitionOrdered_L4_D : List V → Heap Row → Option ((Int) × (List Int × Int × Int))
  | [.c (.sl 0 0), .c (.int .i64 v1), .c (.int .i64 v2), .c (.int .i64 v3)], [⟨.row ⟨.int, v4⟩, 0, 2⟩] => some ((v1), (v4, v2, v3))
  | _, _ => none
theorem slices_partitionOrdered_L4_D_ok (vs : List V) (L : Heap Row) (p : Int) (s : List Int × Int × Int) (h : slices_partitionOrdered_L4_D vs L = some (p, s)) : slices_partitionOrdered_L4_st p s = (vs, L) := by
  unfold slices_partitionOrdered_L4_D at h
  split at h
  · simp at h; obtain ⟨rfl, rfl⟩ := h; rfl
  · simp at h
noncomputable def slices_partitionOrdered_L4_H : LoopH Row := loopX [0, 1, 10, 11] [0, 1, 11] slices_partitionOrdered_L4_D (fun p => slices_partitionOrdered_L4_step p) slices_partitionOrdered_L4_so
theorem slices_partitionOrdered_L6_nf (p : List Int × Int × Int) (s : Int) (ρ : Type) (again Kx Kr : List V → Heap Row → Option ρ) : evRound rowU (envOf 268 1 [(266, cmp_Less_C)] [(6, slices_partitionOrdered_L6_H), (8, slices_partitionOrdered_L8_H), (0, slices_partitionOrdered_L0_H), (2, slices_partitionOrdered_L2_H), (4, slices_partitionOrdered_L4_H)]) 6 slices_partitionOrdered_L6_H (loopC 268 6) again (slices_partitionOrdered_L6_st p s).1 (slices_partitionOrdered_L6_st p s).2 Kx Kr = slices_partitionOrdered_L6_K (p.1) (p.2.1) (p.2.2) s (fun s => again (slices_partitionOrdered_L6_st p s).1 (slices_partitionOrdered_L6_st p s).2) (fun t => Kx (slices_partitionOrdered_L6_so p t).1 (slices_partitionOrdered_L6_so p t).2) (fun _ => none) := by kernel_rfl
theorem slices_partitionOrdered_L6_ok (hb : LoopsOk Try.prog rowU (envOf 268 1 [(266, cmp_Less_C)] [(6, slices_partitionOrdered_L6_H), (8, slices_partitionOrdered_L8_H), (0, slices_partitionOrdered_L0_H), (2, slices_partitionOrdered_L2_H), (4, slices_partitionOrdered_L4_H)]) (loopAt (codeP 268) 6)) : LoopOk Try.prog rowU (envOf 268 1 [(266, cmp_Less_C)] [(6, slices_partitionOrdered_L6_H), (8, slices_partitionOrdered_L8_H), (0, slices_partitionOrdered_L0_H), (2, slices_partitionOrdered_L2_H), (4, slices_partitionOrdered_L4_H)]) 6 (loopAt (codeP 268) 6) slices_partitionOrdered_L6_H :=
  loopX_ok tagOk mixed envNl (envT (TabOk.cons cmp_Less_ok TabOk.nil)) hb slices_partitionOrdered_L6_st slices_partitionOrdered_L6_D_ok fun p s ρ A Kx Kr => (slices_partitionOrdered_L6_nf p s ρ A Kx Kr).trans (slices_partitionOrdered_L6_bind (p.1) (p.2.1) (p.2.2) s _ _ _)
theorem slices_partitionOrdered_L8_nf (p : List Int × Int × Int) (s : Int) (ρ : Type) (again Kx Kr : List V → Heap Row → Option ρ) : evRound rowU (envOf 268 1 [(266, cmp_Less_C)] [(6, slices_partitionOrdered_L6_H), (8, slices_partitionOrdered_L8_H), (0, slices_partitionOrdered_L0_H), (2, slices_partitionOrdered_L2_H), (4, slices_partitionOrdered_L4_H)]) 8 slices_partitionOrdered_L8_H (loopC 268 8) again (slices_partitionOrdered_L8_st p s).1 (slices_partitionOrdered_L8_st p s).2 Kx Kr = slices_partitionOrdered_L8_K (p.1) (p.2.1) (p.2.2) s (fun s => again (slices_partitionOrdered_L8_st p s).1 (slices_partitionOrdered_L8_st p s).2) (fun t => Kx (slices_partitionOrdered_L8_so p t).1 (slices_partitionOrdered_L8_so p t).2) (fun _ => none) := by kernel_rfl
theorem slices_partitionOrdered_L8_ok (hb : LoopsOk Try.prog rowU (envOf 268 1 [(266, cmp_Less_C)] [(6, slices_partitionOrdered_L6_H), (8, slices_partitionOrdered_L8_H), (0, slices_partitionOrdered_L0_H), (2, slices_partitionOrdered_L2_H), (4, slices_partitionOrdered_L4_H)]) (loopAt (codeP 268) 8)) : LoopOk Try.prog rowU (envOf 268 1 [(266, cmp_Less_C)] [(6, slices_partitionOrdered_L6_H), (8, slices_partitionOrdered_L8_H), (0, slices_partitionOrdered_L0_H), (2, slices_partitionOrdered_L2_H), (4, slices_partitionOrdered_L4_H)]) 8 (loopAt (codeP 268) 8) slices_partitionOrdered_L8_H :=
  loopX_ok tagOk mixed envNl (envT (TabOk.cons cmp_Less_ok TabOk.nil)) hb slices_partitionOrdered_L8_st slices_partitionOrdered_L8_D_ok fun p s ρ A Kx Kr => (slices_partitionOrdered_L8_nf p s ρ A Kx Kr).trans (slices_partitionOrdered_L8_bind (p.1) (p.2.1) (p.2.2) s _ _ _)
theorem slices_partitionOrdered_L0_nf (p : List Int × Int × Int) (s : Int) (ρ : Type) (again Kx Kr : List V → Heap Row → Option ρ) : evRound rowU (envOf 268 1 [(266, cmp_Less_C)] [(6, slices_partitionOrdered_L6_H), (8, slices_partitionOrdered_L8_H), (0, slices_partitionOrdered_L0_H), (2, slices_partitionOrdered_L2_H), (4, slices_partitionOrdered_L4_H)]) 0 slices_partitionOrdered_L0_H (loopC 268 0) again (slices_partitionOrdered_L0_st p s).1 (slices_partitionOrdered_L0_st p s).2 Kx Kr = slices_partitionOrdered_L0_K (p.1) (p.2.1) (p.2.2) s (fun s => again (slices_partitionOrdered_L0_st p s).1 (slices_partitionOrdered_L0_st p s).2) (fun t => Kx (slices_partitionOrdered_L0_so p t).1 (slices_partitionOrdered_L0_so p t).2) (fun _ => none) := by kernel_rfl
theorem slices_partitionOrdered_L0_ok (hb : LoopsOk Try.prog rowU (envOf 268 1 [(266, cmp_Less_C)] [(6, slices_partitionOrdered_L6_H), (8, slices_partitionOrdered_L8_H), (0, slices_partitionOrdered_L0_H), (2, slices_partitionOrdered_L2_H), (4, slices_partitionOrdered_L4_H)]) (loopAt (codeP 268) 0)) : LoopOk Try.prog rowU (envOf 268 1 [(266, cmp_Less_C)] [(6, slices_partitionOrdered_L6_H), (8, slices_partitionOrdered_L8_H), (0, slices_partitionOrdered_L0_H), (2, slices_partitionOrdered_L2_H), (4, slices_partitionOrdered_L4_H)]) 0 (loopAt (codeP 268) 0) slices_partitionOrdered_L0_H :=
  loopX_ok tagOk mixed envNl (envT (TabOk.cons cmp_Less_ok TabOk.nil)) hb slices_partitionOrdered_L0_st slices_partitionOrdered_L0_D_ok fun p s ρ A Kx Kr => (slices_partitionOrdered_L0_nf p s ρ A Kx Kr).trans (slices_partitionOrdered_L0_bind (p.1) (p.2.1) (p.2.2) s _ _ _)
theorem slices_partitionOrdered_L2_nf (p : List Int × Int × Int) (s : Int) (ρ : Type) (again Kx Kr : List V → Heap Row → Option ρ) : evRound rowU (envOf 268 1 [(266, cmp_Less_C)] [(6, slices_partitionOrdered_L6_H), (8, slices_partitionOrdered_L8_H), (0, slices_partitionOrdered_L0_H), (2, slices_partitionOrdered_L2_H), (4, slices_partitionOrdered_L4_H)]) 2 slices_partitionOrdered_L2_H (loopC 268 2) again (slices_partitionOrdered_L2_st p s).1 (slices_partitionOrdered_L2_st p s).2 Kx Kr = slices_partitionOrdered_L2_K (p.1) (p.2.1) (p.2.2) s (fun s => again (slices_partitionOrdered_L2_st p s).1 (slices_partitionOrdered_L2_st p s).2) (fun t => Kx (slices_partitionOrdered_L2_so p t).1 (slices_partitionOrdered_L2_so p t).2) (fun _ => none) := by kernel_rfl
theorem slices_partitionOrdered_L2_ok (hb : LoopsOk Try.prog rowU (envOf 268 1 [(266, cmp_Less_C)] [(6, slices_partitionOrdered_L6_H), (8, slices_partitionOrdered_L8_H), (0, slices_partitionOrdered_L0_H), (2, slices_partitionOrdered_L2_H), (4, slices_partitionOrdered_L4_H)]) (loopAt (codeP 268) 2)) : LoopOk Try.prog rowU (envOf 268 1 [(266, cmp_Less_C)] [(6, slices_partitionOrdered_L6_H), (8, slices_partitionOrdered_L8_H), (0, slices_partitionOrdered_L0_H), (2, slices_partitionOrdered_L2_H), (4, slices_partitionOrdered_L4_H)]) 2 (loopAt (codeP 268) 2) slices_partitionOrdered_L2_H :=
  loopX_ok tagOk mixed envNl (envT (TabOk.cons cmp_Less_ok TabOk.nil)) hb slices_partitionOrdered_L2_st slices_partitionOrdered_L2_D_ok fun p s ρ A Kx Kr => (slices_partitionOrdered_L2_nf p s ρ A Kx Kr).trans (slices_partitionOrdered_L2_bind (p.1) (p.2.1) (p.2.2) s _ _ _)
theorem slices_partitionOrdered_L4_nf (p : Int) (s : List Int × Int × Int) (ρ : Type) (again Kx Kr : List V → Heap Row → Option ρ) : evRound rowU (envOf 268 1 [(266, cmp_Less_C)] [(6, slices_partitionOrdered_L6_H), (8, slices_partitionOrdered_L8_H), (0, slices_partitionOrdered_L0_H), (2, slices_partitionOrdered_L2_H), (4, slices_partitionOrdered_L4_H)]) 4 slices_partitionOrdered_L4_H (loopC 268 4) again (slices_partitionOrdered_L4_st p s).1 (slices_partitionOrdered_L4_st p s).2 Kx Kr = slices_partitionOrdered_L4_K p (s.1) (s.2.1) (s.2.2) (fun s => again (slices_partitionOrdered_L4_st p s).1 (slices_partitionOrdered_L4_st p s).2) (fun t => Kx (slices_partitionOrdered_L4_so p t).1 (slices_partitionOrdered_L4_so p t).2) (fun _ => none) := by kernel_rfl
theorem slices_partitionOrdered_L4_ok (hb : LoopsOk Try.prog rowU (envOf 268 1 [(266, cmp_Less_C)] [(6, slices_partitionOrdered_L6_H), (8, slices_partitionOrdered_L8_H), (0, slices_partitionOrdered_L0_H), (2, slices_partitionOrdered_L2_H), (4, slices_partitionOrdered_L4_H)]) (loopAt (codeP 268) 4)) : LoopOk Try.prog rowU (envOf 268 1 [(266, cmp_Less_C)] [(6, slices_partitionOrdered_L6_H), (8, slices_partitionOrdered_L8_H), (0, slices_partitionOrdered_L0_H), (2, slices_partitionOrdered_L2_H), (4, slices_partitionOrdered_L4_H)]) 4 (loopAt (codeP 268) 4) slices_partitionOrdered_L4_H :=
  loopX_ok tagOk mixed envNl (envT (TabOk.cons cmp_Less_ok TabOk.nil)) hb slices_partitionOrdered_L4_st slices_partitionOrdered_L4_D_ok fun p s ρ A Kx Kr => (slices_partitionOrdered_L4_nf p s ρ A Kx Kr).trans (slices_partitionOrdered_L4_bind p s _ _ _)
noncomputable def slices_partitionOrdered_K (x0 : List Int) (x1 : Int) (x2 : Int) (x3 : Int) {ρ : Type} (K : Int × Bool × List Int → Option ρ) : Option ρ :=
  cond (decide (0 ≤ x3)) (cond (decide (x3 < (((x0.length : Nat) : Int)))) (cond (decide (0 ≤ x1)) (cond (decide (x1 < (((x0.length : Nat) : Int)))) (cond (decide (0 ≤ x1)) (cond (decide (x1 < (((x0.length : Nat) : Int)))) (cond (decide (0 ≤ x3)) (cond (decide (x3 < ((((List.set x0 (x1.toNat) (List.getD x0 (x3.toNat) 0)).length : Nat) : Int)))) (Option.bind (runX (slices_partitionOrdered_L0_step (List.set (List.set x0 (x1.toNat) (List.getD x0 (x3.toNat) 0)) (x3.toNat) (List.getD x0 (x1.toNat) 0)) x1 (w64 (x2 - 1))) (w64 (x1 + 1))) fun t2 =>
  Option.bind (runX (slices_partitionOrdered_L2_step (List.set (List.set x0 (x1.toNat) (List.getD x0 (x3.toNat) 0)) (x3.toNat) (List.getD x0 (x1.toNat) 0)) x1 t2) (w64 (x2 - 1))) fun t4 =>
  cond (decide (t2 > t4))
    (cond (decide (0 ≤ x1)) (cond (decide (x1 < ((((List.set (List.set x0 (x1.toNat) (List.getD x0 (x3.toNat) 0)) (x3.toNat) (List.getD x0 (x1.toNat) 0)).length : Nat) : Int)))) (cond (decide (0 ≤ t4)) (cond (decide (t4 < ((((List.set (List.set x0 (x1.toNat) (List.getD x0 (x3.toNat) 0)) (x3.toNat) (List.getD x0 (x1.toNat) 0)).length : Nat) : Int)))) (cond (decide (0 ≤ t4)) (cond (decide (t4 < ((((List.set (List.set x0 (x1.toNat) (List.getD x0 (x3.toNat) 0)) (x3.toNat) (List.getD x0 (x1.toNat) 0)).length : Nat) : Int)))) (cond (decide (0 ≤ x1)) (cond (decide (x1 < ((((List.set (List.set (List.set x0 (x1.toNat) (List.getD x0 (x3.toNat) 0)) (x3.toNat) (List.getD x0 (x1.toNat) 0)) (t4.toNat) (List.getD (List.set (List.set x0 (x1.toNat) (List.getD x0 (x3.toNat) 0)) (x3.toNat) (List.getD x0 (x1.toNat) 0)) (x1.toNat) 0)).length : Nat) : Int)))) (K (t4, true, List.set (List.set (List.set (List.set x0 (x1.toNat) (List.getD x0 (x3.toNat) 0)) (x3.toNat) (List.getD x0 (x1.toNat) 0)) (t4.toNat) (List.getD (List.set (List.set x0 (x1.toNat) (List.getD x0 (x3.toNat) 0)) (x3.toNat) (List.getD x0 (x1.toNat) 0)) (x1.toNat) 0)) (x1.toNat) (List.getD (List.set (List.set x0 (x1.toNat) (List.getD x0 (x3.toNat) 0)) (x3.toNat) (List.getD x0 (x1.toNat) 0)) (t4.toNat) 0))) none) none) none) none) none) none) none) none)
    (cond (decide (0 ≤ t4)) (cond (decide (t4 < ((((List.set (List.set x0 (x1.toNat) (List.getD x0 (x3.toNat) 0)) (x3.toNat) (List.getD x0 (x1.toNat) 0)).length : Nat) : Int)))) (cond (decide (0 ≤ t2)) (cond (decide (t2 < ((((List.set (List.set x0 (x1.toNat) (List.getD x0 (x3.toNat) 0)) (x3.toNat) (List.getD x0 (x1.toNat) 0)).length : Nat) : Int)))) (cond (decide (0 ≤ t2)) (cond (decide (t2 < ((((List.set (List.set x0 (x1.toNat) (List.getD x0 (x3.toNat) 0)) (x3.toNat) (List.getD x0 (x1.toNat) 0)).length : Nat) : Int)))) (cond (decide (0 ≤ t4)) (cond (decide (t4 < ((((List.set (List.set (List.set x0 (x1.toNat) (List.getD x0 (x3.toNat) 0)) (x3.toNat) (List.getD x0 (x1.toNat) 0)) (t2.toNat) (List.getD (List.set (List.set x0 (x1.toNat) (List.getD x0 (x3.toNat) 0)) (x3.toNat) (List.getD x0 (x1.toNat) 0)) (t4.toNat) 0)).length : Nat) : Int)))) (Option.bind (runX (slices_partitionOrdered_L4_step x1) (List.set (List.set (List.set (List.set x0 (x1.toNat) (List.getD x0 (x3.toNat) 0)) (x3.toNat) (List.getD x0 (x1.toNat) 0)) (t2.toNat) (List.getD (List.set (List.set x0 (x1.toNat) (List.getD x0 (x3.toNat) 0)) (x3.toNat) (List.getD x0 (x1.toNat) 0)) (t4.toNat) 0)) (t4.toNat) (List.getD (List.set (List.set x0 (x1.toNat) (List.getD x0 (x3.toNat) 0)) (x3.toNat) (List.getD x0 (x1.toNat) 0)) (t2.toNat) 0), w64 (t2 + 1), w64 (t4 - 1))) fun t9 =>
    cond (decide (0 ≤ x1)) (cond (decide (x1 < (((t9.1.length : Nat) : Int)))) (cond (decide (0 ≤ t9.2)) (cond (decide (t9.2 < (((t9.1.length : Nat) : Int)))) (cond (decide (0 ≤ t9.2)) (cond (decide (t9.2 < (((t9.1.length : Nat) : Int)))) (cond (decide (0 ≤ x1)) (cond (decide (x1 < ((((List.set t9.1 (t9.2.toNat) (List.getD t9.1 (x1.toNat) 0)).length : Nat) : Int)))) (K (t9.2, false, List.set (List.set t9.1 (t9.2.toNat) (List.getD t9.1 (x1.toNat) 0)) (x1.toNat) (List.getD t9.1 (t9.2.toNat) 0))) none) none) none) none) none) none) none) none) none) none) none) none) none) none) none) none)) none) none) none) none) none) none) none) none
noncomputable def slices_partitionOrdered (x0 : List Int) (x1 : Int) (x2 : Int) (x3 : Int) : Option (Int × Bool × List Int) := slices_partitionOrdered_K x0 x1 x2 x3 some
theorem slices_partitionOrdered_bind (x0 : List Int) (x1 : Int) (x2 : Int) (x3 : Int) {ρ : Type} (K : Int × Bool × List Int → Option ρ) : slices_partitionOrdered_K x0 x1 x2 x3 K = (slices_partitionOrdered x0 x1 x2 x3).bind K := by
  simp only [slices_partitionOrdered, slices_partitionOrdered_K, Option.bind_assoc, Option.bind_some, Option.bind_none, cond_bind, sumK_bind]
noncomputable def slices_partitionOrdered_E : Env Row := envN false 268 1 [(266, cmp_Less_C)] [(6, slices_partitionOrdered_L6_H), (8, slices_partitionOrdered_L8_H), (0, slices_partitionOrdered_L0_H), (2, slices_partitionOrdered_L2_H), (4, slices_partitionOrdered_L4_H)]
theorem slices_partitionOrdered_nf (x0 : List Int) (x1 : Int) (x2 : Int) (x3 : Int) (ρ : Type) (K : V → Heap Row → Option ρ) : evBody rowU slices_partitionOrdered_E (bodyC 268) [.c (.sl 0 0), .c (.int .i64 x1), .c (.int .i64 x2), .c (.int .i64 x3)] [⟨.row ⟨.int, x0⟩, 0, 2⟩] K = slices_partitionOrdered_K x0 x1 x2 x3 (fun r => K (.t [(false, [.int .i64 r.1]), (false, [.bool r.2.1])]) [⟨.row ⟨.int, r.2.2⟩, 0, 2⟩]) := by kernel_rfl
def slices_partitionOrdered_D : List V → Heap Row → Option (List Int × Int × Int × Int)
  | [.c (.sl 0 0), .c (.int .i64 v1), .c (.int .i64 v2), .c (.int .i64 v3)], [⟨.row ⟨.int, v4⟩, 0, 2⟩] => some (v4, v1, v2, v3)
  | _, _ => none
theorem slices_partitionOrdered_D_ok {vs : List V} {W : Heap Row} {a : List Int × Int × Int × Int} (h : slices_partitionOrdered_D vs W = some a) : vs = [.c (.sl 0 0), .c (.int .i64 (a.2.1)), .c (.int .i64 (a.2.2.1)), .c (.int .i64 (a.2.2.2))] ∧ W = [⟨.row ⟨.int, a.1⟩, 0, 2⟩] := by
  unfold slices_partitionOrdered_D at h
  split at h
  · simp at h; subst h; exact ⟨rfl, rfl⟩
  · simp at h
noncomputable def slices_partitionOrdered_C : Callee Row := ⟨[(true, 0)], fun _ vs W K => (slices_partitionOrdered_D vs W).bind fun a => (slices_partitionOrdered a.1 a.2.1 a.2.2.1 a.2.2.2).bind fun r => K (.t [(false, [.int .i64 r.1]), (false, [.bool r.2.1])]) [⟨.row ⟨.int, r.2.2⟩, 0, 2⟩]⟩
theorem slices_partitionOrdered_ok : CalleeOk Try.prog rowU 268 slices_partitionOrdered_C := by
  refine calleeP (nl := false) (m0 := 1) (T := [(266, cmp_Less_C)]) (H := [(6, slices_partitionOrdered_L6_H), (8, slices_partitionOrdered_L8_H), (0, slices_partitionOrdered_L0_H), (2, slices_partitionOrdered_L2_H), (4, slices_partitionOrdered_L4_H)]) (TabOk.cons cmp_Less_ok TabOk.nil) (by kernel_rfl) (by kernel_rfl) (fun p hp hb => by
    simp only [List.mem_cons, List.not_mem_nil, or_false] at hp
    rcases hp with rfl | rfl | rfl | rfl | rfl
    · exact slices_partitionOrdered_L6_ok hb
    · exact slices_partitionOrdered_L8_ok hb
    · exact slices_partitionOrdered_L0_ok hb
    · exact slices_partitionOrdered_L2_ok hb
    · exact slices_partitionOrdered_L4_ok hb) fun ρ vs W K r h => ?_
  obtain ⟨a, ha, h1⟩ := Option.bind_eq_some_iff.1 h
  clear h
  obtain ⟨rfl, rfl⟩ := slices_partitionOrdered_D_ok ha
  obtain ⟨q, hq, h2⟩ := Option.bind_eq_some_iff.1 h1
  exact ⟨_, _, h2, (slices_partitionOrdered_nf (a.1) (a.2.1) (a.2.2.1) (a.2.2.2) _ _).trans ((slices_partitionOrdered_bind (a.1) (a.2.1) (a.2.2.1) (a.2.2.2) _).trans (by rw [hq]; rfl))⟩
/-! slices.pdqsortOrdered[int] -/
noncomputable def slices_pdqsortOrdered_L0_K (n2 : Int) (n3 : Int) (l0 : List Int) (n1 : Int) {ρ : Type} (A : List Int × Int → Option ρ) (X : Unit → Option ρ) (R : List Int → Option ρ) : Option ρ :=
  cond (decide ((w64 (n2 - n1)) ≤ 12))
    (Option.bind (slices_insertionSortOrdered l0 n1 n2) fun r1 =>
    R r1)
    (cond (n3 == 0)
      (Option.bind (slices_heapSortOrdered l0 n1 n2) fun r2 =>
      R r2)
      (Option.bind (slices_choosePivotOrdered l0 n1 n2) fun r3 =>
      cond (r3.2 == 2)
        (Option.bind (slices_reverseRangeOrdered l0 n1 n2) fun r4 =>
        Option.bind (slices_partialInsertionSortOrdered r4 n1 n2) fun r5 =>
        cond r5.1
          (R r5.2)
          (cond ((decide (n1 > 0)) == true)
            (cond (decide (0 ≤ (w64 (n1 - 1)))) (cond (decide ((w64 (n1 - 1)) < (((r5.2.length : Nat) : Int)))) (cond (decide (0 ≤ (w64 ((w64 (n2 - 1)) - (w64 (r3.1 - n1)))))) (cond (decide ((w64 ((w64 (n2 - 1)) - (w64 (r3.1 - n1)))) < (((r5.2.length : Nat) : Int)))) (Option.bind (cmp_Less (List.getD r5.2 ((w64 (n1 - 1)).toNat) 0) (List.getD r5.2 ((w64 ((w64 (n2 - 1)) - (w64 (r3.1 - n1)))).toNat) 0)) fun r6 =>
            cond (!r6)
              (Option.bind (slices_partitionEqualOrdered r5.2 n1 n2 (w64 ((w64 (n2 - 1)) - (w64 (r3.1 - n1))))) fun r7 =>
              A (r7.2, r7.1))
              (Option.bind (slices_partitionOrdered r5.2 n1 n2 (w64 ((w64 (n2 - 1)) - (w64 (r3.1 - n1))))) fun r8 =>
              cond (decide ((w64 (r8.1 - n1)) < (w64 (n2 - r8.1)))) (none) none)) none) none) none) none)
            (Option.bind (slices_partitionOrdered r5.2 n1 n2 (w64 ((w64 (n2 - 1)) - (w64 (r3.1 - n1))))) fun r9 =>
            cond (decide ((w64 (r9.1 - n1)) < (w64 (n2 - r9.1)))) (none) none)))
        (cond (r3.2 == 1)
          (Option.bind (slices_partialInsertionSortOrdered l0 n1 n2) fun r10 =>
          cond r10.1
            (R r10.2)
            (cond ((decide (n1 > 0)) == true)
              (cond (decide (0 ≤ (w64 (n1 - 1)))) (cond (decide ((w64 (n1 - 1)) < (((r10.2.length : Nat) : Int)))) (cond (decide (0 ≤ r3.1)) (cond (decide (r3.1 < (((r10.2.length : Nat) : Int)))) (Option.bind (cmp_Less (List.getD r10.2 ((w64 (n1 - 1)).toNat) 0) (List.getD r10.2 (r3.1.toNat) 0)) fun r11 =>
              cond (!r11)
                (Option.bind (slices_partitionEqualOrdered r10.2 n1 n2 r3.1) fun r12 =>
                A (r12.2, r12.1))
                (Option.bind (slices_partitionOrdered r10.2 n1 n2 r3.1) fun r13 =>
                cond (decide ((w64 (r13.1 - n1)) < (w64 (n2 - r13.1)))) (none) none)) none) none) none) none)
              (Option.bind (slices_partitionOrdered r10.2 n1 n2 r3.1) fun r14 =>
              cond (decide ((w64 (r14.1 - n1)) < (w64 (n2 - r14.1)))) (none) none)))
          (cond ((decide (n1 > 0)) == true)
            (cond (decide (0 ≤ (w64 (n1 - 1)))) (cond (decide ((w64 (n1 - 1)) < (((l0.length : Nat) : Int)))) (cond (decide (0 ≤ r3.1)) (cond (decide (r3.1 < (((l0.length : Nat) : Int)))) (Option.bind (cmp_Less (List.getD l0 ((w64 (n1 - 1)).toNat) 0) (List.getD l0 (r3.1.toNat) 0)) fun r15 =>
            cond (!r15)
              (Option.bind (slices_partitionEqualOrdered l0 n1 n2 r3.1) fun r16 =>
              A (r16.2, r16.1))
              (Option.bind (slices_partitionOrdered l0 n1 n2 r3.1) fun r17 =>
              cond (decide ((w64 (r17.1 - n1)) < (w64 (n2 - r17.1)))) (none) none)) none) none) none) none)
            (Option.bind (slices_partitionOrdered l0 n1 n2 r3.1) fun r18 =>
            cond (decide ((w64 (r18.1 - n1)) < (w64 (n2 - r18.1)))) (none) none)))))
noncomputable def slices_pdqsortOrdered_L0_step (n2 : Int) (n3 : Int) (s : List Int × Int) : Option (Rnd (List Int × Int) (Unit) (List Int)) := slices_pdqsortOrdered_L0_K n2 n3 (s.1) (s.2) (fun s => some (.again s)) (fun t => some (.exit t)) (fun k => some (.ret k))
theorem slices_pdqsortOrdered_L0_bind (n2 : Int) (n3 : Int) (s : List Int × Int) {ρ : Type} (A : List Int × Int → Option ρ) (X : Unit → Option ρ) (R : List Int → Option ρ) : slices_pdqsortOrdered_L0_K n2 n3 (s.1) (s.2) A X R = (slices_pdqsortOrdered_L0_step n2 n3 s).bind (rndE A X R) := by
  simp only [slices_pdqsortOrdered_L0_step, slices_pdqsortOrdered_L0_K, Option.bind_assoc, Option.bind_some, Option.bind_none, cond_bind, sumK_bind, rndE_again, rndE_exit, rndE_ret]
def slices_pdqsortOrdered_L0_st (p : Int × Int) (s : List Int × Int) : List V × Heap Row := ([.c (.sl 0 0), .c (.int .i64 (s.2)), .c (.int .i64 (p.1)), .c (.int .i64 (p.2)), .c (.bool true), .c (.bool true)], [⟨.row ⟨.int, s.1⟩, 0, 2⟩])
def slices_pdqsortOrdered_L0_so (p : Int × Int) (t : Unit) : List V × Heap Row := ([], [])
def slices_pdqsortOrdered_L0_sr (p : Int × Int) (k : List Int) : List V × Heap Row := ([], [⟨.row ⟨.int, k⟩, 0, 2⟩])
def slices_pdqsortOrdered_L0_D : List V → Heap Row → Option ((Int × Int) × (List Int × Int))
  | [.c (.sl 0 0), .c (.int .i64 v1), .c (.int .i64 v2), .c (.int .i64 v3), .c (.bool true), .c (.bool true)], [⟨.row ⟨.int, v4⟩, 0, 2⟩] => some ((v2, v3), (v4, v1))
  | _, _ => none
theorem slices_pdqsortOrdered_L0_D_ok (vs : List V) (L : Heap Row) (p : Int × Int) (s : List Int × Int) (h : slices_pdqsortOrdered_L0_D vs L = some (p, s)) : slices_pdqsortOrdered_L0_st p s = (vs, L) := by
  unfold slices_pdqsortOrdered_L0_D at h
  split at h
  · simp at h; obtain ⟨rfl, rfl⟩ := h; rfl
  · simp at h
noncomputable def slices_pdqsortOrdered_L0_H : LoopH Row := loopR [0, 1, 2, 3, 8, 9] [] slices_pdqsortOrdered_L0_D (fun p => slices_pdqsortOrdered_L0_step (p.1) (p.2)) slices_pdqsortOrdered_L0_so slices_pdqsortOrdered_L0_sr
theorem slices_pdqsortOrdered_L0_nf (p : Int × Int) (s : List Int × Int) (ρ : Type) (again Kx Kr : List V → Heap Row → Option ρ) : evRound rowU (envOf 217 1 [(266, cmp_Less_C), (260, slices_insertionSortOrdered_C), (261, slices_heapSortOrdered_C), (263, slices_choosePivotOrdered_C), (264, slices_reverseRangeOrdered_C), (265, slices_partialInsertionSortOrdered_C), (267, slices_partitionEqualOrdered_C), (268, slices_partitionOrdered_C)] [(0, slices_pdqsortOrdered_L0_H)]) 0 slices_pdqsortOrdered_L0_H (loopC 217 0) again (slices_pdqsortOrdered_L0_st p s).1 (slices_pdqsortOrdered_L0_st p s).2 Kx Kr = slices_pdqsortOrdered_L0_K (p.1) (p.2) (s.1) (s.2) (fun s => again (slices_pdqsortOrdered_L0_st p s).1 (slices_pdqsortOrdered_L0_st p s).2) (fun t => Kx (slices_pdqsortOrdered_L0_so p t).1 (slices_pdqsortOrdered_L0_so p t).2) (fun k => Kr (slices_pdqsortOrdered_L0_sr p k).1 (slices_pdqsortOrdered_L0_sr p k).2) := by kernel_rfl
theorem slices_pdqsortOrdered_L0_ok (hb : LoopsOk Try.prog rowU (envOf 217 1 [(266, cmp_Less_C), (260, slices_insertionSortOrdered_C), (261, slices_heapSortOrdered_C), (263, slices_choosePivotOrdered_C), (264, slices_reverseRangeOrdered_C), (265, slices_partialInsertionSortOrdered_C), (267, slices_partitionEqualOrdered_C), (268, slices_partitionOrdered_C)] [(0, slices_pdqsortOrdered_L0_H)]) (loopAt (codeP 217) 0)) : LoopOk Try.prog rowU (envOf 217 1 [(266, cmp_Less_C), (260, slices_insertionSortOrdered_C), (261, slices_heapSortOrdered_C), (263, slices_choosePivotOrdered_C), (264, slices_reverseRangeOrdered_C), (265, slices_partialInsertionSortOrdered_C), (267, slices_partitionEqualOrdered_C), (268, slices_partitionOrdered_C)] [(0, slices_pdqsortOrdered_L0_H)]) 0 (loopAt (codeP 217) 0) slices_pdqsortOrdered_L0_H :=
  loopR_ok tagOk mixed envNl (envT (TabOk.cons cmp_Less_ok (TabOk.cons slices_insertionSortOrdered_ok (TabOk.cons slices_heapSortOrdered_ok (TabOk.cons slices_choosePivotOrdered_ok (TabOk.cons slices_reverseRangeOrdered_ok (TabOk.cons slices_partialInsertionSortOrdered_ok (TabOk.cons slices_partitionEqualOrdered_ok (TabOk.cons slices_partitionOrdered_ok TabOk.nil))))))))) hb slices_pdqsortOrdered_L0_st slices_pdqsortOrdered_L0_D_ok fun p s ρ A Kx Kr => (slices_pdqsortOrdered_L0_nf p s ρ A Kx Kr).trans (slices_pdqsortOrdered_L0_bind (p.1) (p.2) s _ _ _)
noncomputable def slices_pdqsortOrdered_K (x0 : List Int) (x1 : Int) (x2 : Int) (x3 : Int) {ρ : Type} (K : List Int → Option ρ) : Option ρ :=
  Option.bind (runL (slices_pdqsortOrdered_L0_step x2 x3) (x0, x1)) fun ot19 => sumK ot19
    (fun t19 => none)
    (fun k20 => K k20)
noncomputable def slices_pdqsortOrdered (x0 : List Int) (x1 : Int) (x2 : Int) (x3 : Int) : Option (List Int) := slices_pdqsortOrdered_K x0 x1 x2 x3 some
theorem slices_pdqsortOrdered_bind (x0 : List Int) (x1 : Int) (x2 : Int) (x3 : Int) {ρ : Type} (K : List Int → Option ρ) : slices_pdqsortOrdered_K x0 x1 x2 x3 K = (slices_pdqsortOrdered x0 x1 x2 x3).bind K := by
  simp only [slices_pdqsortOrdered, slices_pdqsortOrdered_K, Option.bind_assoc, Option.bind_some, Option.bind_none, cond_bind, sumK_bind]
noncomputable def slices_pdqsortOrdered_E : Env Row := envN false 217 1 [(266, cmp_Less_C), (260, slices_insertionSortOrdered_C), (261, slices_heapSortOrdered_C), (263, slices_choosePivotOrdered_C), (264, slices_reverseRangeOrdered_C), (265, slices_partialInsertionSortOrdered_C), (267, slices_partitionEqualOrdered_C), (268, slices_partitionOrdered_C)] [(0, slices_pdqsortOrdered_L0_H)]
theorem slices_pdqsortOrdered_nf (x0 : List Int) (x1 : Int) (x2 : Int) (x3 : Int) (ρ : Type) (K : V → Heap Row → Option ρ) : evBody rowU slices_pdqsortOrdered_E (bodyC 217) [.c (.sl 0 0), .c (.int .i64 x1), .c (.int .i64 x2), .c (.int .i64 x3)] [⟨.row ⟨.int, x0⟩, 0, 2⟩] K = slices_pdqsortOrdered_K x0 x1 x2 x3 (fun r => K (.t []) [⟨.row ⟨.int, r⟩, 0, 2⟩]) := by kernel_rfl
def slices_pdqsortOrdered_D : List V → Heap Row → Option (List Int × Int × Int × Int)
  | [.c (.sl 0 0), .c (.int .i64 v1), .c (.int .i64 v2), .c (.int .i64 v3)], [⟨.row ⟨.int, v4⟩, 0, 2⟩] => some (v4, v1, v2, v3)
  | _, _ => none
theorem slices_pdqsortOrdered_D_ok {vs : List V} {W : Heap Row} {a : List Int × Int × Int × Int} (h : slices_pdqsortOrdered_D vs W = some a) : vs = [.c (.sl 0 0), .c (.int .i64 (a.2.1)), .c (.int .i64 (a.2.2.1)), .c (.int .i64 (a.2.2.2))] ∧ W = [⟨.row ⟨.int, a.1⟩, 0, 2⟩] := by
  unfold slices_pdqsortOrdered_D at h
  split at h
  · simp at h; subst h; exact ⟨rfl, rfl⟩
  · simp at h
noncomputable def slices_pdqsortOrdered_C : Callee Row := ⟨[(true, 0)], fun _ vs W K => (slices_pdqsortOrdered_D vs W).bind fun a => (slices_pdqsortOrdered a.1 a.2.1 a.2.2.1 a.2.2.2).bind fun r => K (.t []) [⟨.row ⟨.int, r⟩, 0, 2⟩]⟩
theorem slices_pdqsortOrdered_ok : CalleeOk Try.prog rowU 217 slices_pdqsortOrdered_C := by
  refine calleeP (nl := false) (m0 := 1) (T := [(266, cmp_Less_C), (260, slices_insertionSortOrdered_C), (261, slices_heapSortOrdered_C), (263, slices_choosePivotOrdered_C), (264, slices_reverseRangeOrdered_C), (265, slices_partialInsertionSortOrdered_C), (267, slices_partitionEqualOrdered_C), (268, slices_partitionOrdered_C)]) (H := [(0, slices_pdqsortOrdered_L0_H)]) (TabOk.cons cmp_Less_ok (TabOk.cons slices_insertionSortOrdered_ok (TabOk.cons slices_heapSortOrdered_ok (TabOk.cons slices_choosePivotOrdered_ok (TabOk.cons slices_reverseRangeOrdered_ok (TabOk.cons slices_partialInsertionSortOrdered_ok (TabOk.cons slices_partitionEqualOrdered_ok (TabOk.cons slices_partitionOrdered_ok TabOk.nil)))))))) (by kernel_rfl) (by kernel_rfl) (fun p hp hb => by
    simp only [List.mem_cons, List.not_mem_nil, or_false] at hp
    subst hp
    exact slices_pdqsortOrdered_L0_ok hb) fun ρ vs W K r h => ?_
  obtain ⟨a, ha, h1⟩ := Option.bind_eq_some_iff.1 h
  clear h
  obtain ⟨rfl, rfl⟩ := slices_pdqsortOrdered_D_ok ha
  obtain ⟨q, hq, h2⟩ := Option.bind_eq_some_iff.1 h1
  exact ⟨_, _, h2, (slices_pdqsortOrdered_nf (a.1) (a.2.1) (a.2.2.1) (a.2.2.2) _ _).trans ((slices_pdqsortOrdered_bind (a.1) (a.2.1) (a.2.2.1) (a.2.2.2) _).trans (by rw [hq]; rfl))⟩
/-! slices.Sort[[]int,int] -/
noncomputable def slices_Sort_K (x0 : List Int) {ρ : Type} (K : List Int → Option ρ) : Option ρ :=
  Option.bind (math_bits_Len (IntKind.wrap .u64 (((x0.length : Nat) : Int)))) fun r1 =>
  Option.bind (slices_pdqsortOrdered x0 0 (((x0.length : Nat) : Int)) r1) fun r2 =>
  K r2
noncomputable def slices_Sort (x0 : List Int) : Option (List Int) := slices_Sort_K x0 some
theorem slices_Sort_bind (x0 : List Int) {ρ : Type} (K : List Int → Option ρ) : slices_Sort_K x0 K = (slices_Sort x0).bind K := by
  simp only [slices_Sort, slices_Sort_K, Option.bind_assoc, Option.bind_some, Option.bind_none, cond_bind, sumK_bind]
noncomputable def slices_Sort_E : Env Row := envN false 143 1 [(218, math_bits_Len_C), (217, slices_pdqsortOrdered_C)] []
theorem slices_Sort_nf (x0 : List Int) (ρ : Type) (K : V → Heap Row → Option ρ) : evBody rowU slices_Sort_E (bodyC 143) [.c (.sl 0 0)] [⟨.row ⟨.int, x0⟩, 0, 2⟩] K = slices_Sort_K x0 (fun r => K (.t []) [⟨.row ⟨.int, r⟩, 0, 2⟩]) := by kernel_rfl
def slices_Sort_D : List V → Heap Row → Option (List Int)
  | [.c (.sl 0 0)], [⟨.row ⟨.int, v1⟩, 0, 2⟩] => some (v1)
  | _, _ => none
theorem slices_Sort_D_ok {vs : List V} {W : Heap Row} {a : List Int} (h : slices_Sort_D vs W = some a) : vs = [.c (.sl 0 0)] ∧ W = [⟨.row ⟨.int, a⟩, 0, 2⟩] := by
  unfold slices_Sort_D at h
  split at h
  · simp at h; subst h; exact ⟨rfl, rfl⟩
  · simp at h
noncomputable def slices_Sort_C : Callee Row := ⟨[(true, 0)], fun _ vs W K => (slices_Sort_D vs W).bind fun a => (slices_Sort a).bind fun r => K (.t []) [⟨.row ⟨.int, r⟩, 0, 2⟩]⟩
theorem slices_Sort_ok : CalleeOk Try.prog rowU 143 slices_Sort_C := by
  refine calleeP (nl := false) (m0 := 1) (T := [(218, math_bits_Len_C), (217, slices_pdqsortOrdered_C)]) (H := []) (TabOk.cons math_bits_Len_ok (TabOk.cons slices_pdqsortOrdered_ok TabOk.nil)) (by kernel_rfl) (by kernel_rfl) (fun p hp => nomatch hp) fun ρ vs W K r h => ?_
  obtain ⟨a, ha, h1⟩ := Option.bind_eq_some_iff.1 h
  clear h
  obtain ⟨rfl, rfl⟩ := slices_Sort_D_ok ha
  obtain ⟨q, hq, h2⟩ := Option.bind_eq_some_iff.1 h1
  exact ⟨_, _, h2, (slices_Sort_nf a _ _).trans ((slices_Sort_bind a _).trans (by rw [hq]; rfl))⟩
/-! slices.Compact[[]int,int] -/
noncomputable def slices_Compact_L2_K (m2 : Nat) (m3 : Nat) (l0 : List Int) (n1 : Int) (n4 : Int) {ρ : Type} (A : List Int × Int × Int → Option ρ) (X : List Int × Int → Option ρ) (R : Unit → Option ρ) : Option ρ :=
  cond (decide (n4 < (((m3 : Nat) : Int))))
    (cond (decide (0 ≤ n4)) (cond (decide (n4 < (((m3 : Nat) : Int)))) (cond (decide (0 ≤ (w64 (n4 - 1)))) (cond (decide ((w64 (n4 - 1)) < (((m3 : Nat) : Int)))) (cond ((List.getD l0 (m2 + (n4.toNat)) 0) != (List.getD l0 (m2 + ((w64 (n4 - 1)).toNat)) 0))
      (cond (decide (0 ≤ n4)) (cond (decide (n4 < (((m3 : Nat) : Int)))) (cond (decide (0 ≤ n1)) (cond (decide (n1 < (((l0.length : Nat) : Int)))) (A (List.set l0 (n1.toNat) (List.getD l0 (m2 + (n4.toNat)) 0), w64 (n1 + 1), w64 (n4 + 1))) none) none) none) none)
      (A (l0, n1, w64 (n4 + 1)))) none) none) none) none)
    (X (l0, n1))
noncomputable def slices_Compact_L2_step (m2 : Nat) (m3 : Nat) (s : List Int × Int × Int) : Option (Rnd (List Int × Int × Int) (List Int × Int) (Unit)) := slices_Compact_L2_K m2 m3 (s.1) (s.2.1) (s.2.2) (fun s => some (.again s)) (fun t => some (.exit t)) (fun k => some (.ret k))
theorem slices_Compact_L2_bind (m2 : Nat) (m3 : Nat) (s : List Int × Int × Int) {ρ : Type} (A : List Int × Int × Int → Option ρ) (X : List Int × Int → Option ρ) (R : Unit → Option ρ) : slices_Compact_L2_K m2 m3 (s.1) (s.2.1) (s.2.2) A X R = (slices_Compact_L2_step m2 m3 s).bind (rndE A X R) := by
  simp only [slices_Compact_L2_step, slices_Compact_L2_K, Option.bind_assoc, Option.bind_some, Option.bind_none, cond_bind, sumK_bind, rndE_again, rndE_exit, rndE_ret]
def slices_Compact_L2_st (p : Nat × Nat) (s : List Int × Int × Int) : List V × Heap Row := ([.c (.sl 0 0), .c (.int .i64 (s.2.1)), .c (.sc 0 0 (p.1) (p.2)), .c (.int .i64 (s.2.2))], [⟨.row ⟨.int, s.1⟩, 0, 2⟩])
def slices_Compact_L2_so (p : Nat × Nat) (t : List Int × Int) : List V × Heap Row := ([.c (.sl 0 0), .c (.int .i64 (t).2)], [⟨.row ⟨.int, (t).1⟩, 0, 2⟩])
def slices_Compact_L2_D : List V → Heap Row → Option ((Nat × Nat) × (List Int × Int × Int))
  | [.c (.sl 0 0), .c (.int .i64 v1), .c (.sc 0 0 v2 v3), .c (.int .i64 v4)], [⟨.row ⟨.int, v5⟩, 0, 2⟩] => some ((v2, v3), (v5, v1, v4))
  | _, _ => none
theorem slices_Compact_L2_D_ok (vs : List V) (L : Heap Row) (p : Nat × Nat) (s : List Int × Int × Int) (h : slices_Compact_L2_D vs L = some (p, s)) : slices_Compact_L2_st p s = (vs, L) := by
  unfold slices_Compact_L2_D at h
  split at h
  · simp at h; obtain ⟨rfl, rfl⟩ := h; rfl
  · simp at h
noncomputable def slices_Compact_L2_H : LoopH Row := loopX [0, 3, 4, 5] [0, 3] slices_Compact_L2_D (fun p => slices_Compact_L2_step (p.1) (p.2)) slices_Compact_L2_so
noncomputable def slices_Compact_L0_K (l0 : List Int) (n1 : Int) {ρ : Type} (A : Int → Option ρ) (X : Unit → Option ρ) (R : List Int → Option ρ) : Option ρ :=
  cond (decide (n1 < (((l0.length : Nat) : Int))))
    (cond (decide (0 ≤ n1)) (cond (decide (n1 < (((l0.length : Nat) : Int)))) (cond (decide (0 ≤ (w64 (n1 - 1)))) (cond (decide ((w64 (n1 - 1)) < (((l0.length : Nat) : Int)))) (cond ((List.getD l0 (n1.toNat) 0) == (List.getD l0 ((w64 (n1 - 1)).toNat) 0))
      (cond (decide (0 ≤ n1)) (cond (decide (n1 ≤ (((l0.length : Nat) : Int)))) (cond (decide ((((l0.length : Nat) : Int)) ≤ (((l0.length : Nat) : Int)))) (Option.bind (runX (slices_Compact_L2_step (n1.toNat) (((((l0.length : Nat) : Int)) - n1).toNat)) (l0, n1, 1)) fun t1 =>
      cond (decide (0 ≤ t1.2)) (cond (decide (t1.2 ≤ (((t1.1.length : Nat) : Int)))) (cond (decide ((((t1.1.length : Nat) : Int)) ≤ (((t1.1.length : Nat) : Int)))) (cond (decide (((t1.2.toNat) + (((((t1.1.length : Nat) : Int)) - t1.2).toNat)) ≤ (t1.1.length))) (cond (decide (0 ≤ t1.2)) (cond (decide (t1.2 ≤ ((((ovwL t1.1 (t1.2.toNat) (List.replicate (((((t1.1.length : Nat) : Int)) - t1.2).toNat) 0)).length : Nat) : Int)))) (R (cutL (ovwL t1.1 (t1.2.toNat) (List.replicate (((((t1.1.length : Nat) : Int)) - t1.2).toNat) 0)) 0 ((t1.2 - 0).toNat))) none) none) none) none) none) none) none) none) none)
      (A (w64 (n1 + 1)))) none) none) none) none)
    (X ())
noncomputable def slices_Compact_L0_step (l0 : List Int) (s : Int) : Option (Rnd (Int) (Unit) (List Int)) := slices_Compact_L0_K l0 s (fun s => some (.again s)) (fun t => some (.exit t)) (fun k => some (.ret k))
theorem slices_Compact_L0_bind (l0 : List Int) (s : Int) {ρ : Type} (A : Int → Option ρ) (X : Unit → Option ρ) (R : List Int → Option ρ) : slices_Compact_L0_K l0 s A X R = (slices_Compact_L0_step l0 s).bind (rndE A X R) := by
  simp only [slices_Compact_L0_step, slices_Compact_L0_K, Option.bind_assoc, Option.bind_some, Option.bind_none, cond_bind, sumK_bind, rndE_again, rndE_exit, rndE_ret]
def slices_Compact_L0_st (p : List Int) (s : Int) : List V × Heap Row := ([.c (.sl 0 0), .c (.int .i64 (s))], [⟨.row ⟨.int, p⟩, 0, 2⟩])
def slices_Compact_L0_so (p : List Int) (t : Unit) : List V × Heap Row := ([.c (.sl 0 0)], [⟨.row ⟨.int, p⟩, 0, 2⟩])
def slices_Compact_L0_sr (p : List Int) (k : List Int) : List V × Heap Row := ([.c (.sl 0 1)], [⟨.row ⟨.int, k⟩, 1, 2⟩])
def slices_Compact_L0_D : List V → Heap Row → Option ((List Int) × (Int))
  | [.c (.sl 0 0), .c (.int .i64 v1)], [⟨.row ⟨.int, v2⟩, 0, 2⟩] => some ((v2), (v1))
  | _, _ => none
theorem slices_Compact_L0_D_ok (vs : List V) (L : Heap Row) (p : List Int) (s : Int) (h : slices_Compact_L0_D vs L = some (p, s)) : slices_Compact_L0_st p s = (vs, L) := by
  unfold slices_Compact_L0_D at h
  split at h
  · simp at h; obtain ⟨rfl, rfl⟩ := h; rfl
  · simp at h
noncomputable def slices_Compact_L0_H : LoopH Row := loopR [0, 3] [0] slices_Compact_L0_D (fun p => slices_Compact_L0_step p) slices_Compact_L0_so slices_Compact_L0_sr
theorem slices_Compact_L2_nf (p : Nat × Nat) (s : List Int × Int × Int) (ρ : Type) (again Kx Kr : List V → Heap Row → Option ρ) : evRound rowU (envOf 144 1 [] [(2, slices_Compact_L2_H), (0, slices_Compact_L0_H)]) 2 slices_Compact_L2_H (loopC 144 2) again (slices_Compact_L2_st p s).1 (slices_Compact_L2_st p s).2 Kx Kr = slices_Compact_L2_K (p.1) (p.2) (s.1) (s.2.1) (s.2.2) (fun s => again (slices_Compact_L2_st p s).1 (slices_Compact_L2_st p s).2) (fun t => Kx (slices_Compact_L2_so p t).1 (slices_Compact_L2_so p t).2) (fun _ => none) := by kernel_rfl
theorem slices_Compact_L2_ok (hb : LoopsOk Try.prog rowU (envOf 144 1 [] [(2, slices_Compact_L2_H), (0, slices_Compact_L0_H)]) (loopAt (codeP 144) 2)) : LoopOk Try.prog rowU (envOf 144 1 [] [(2, slices_Compact_L2_H), (0, slices_Compact_L0_H)]) 2 (loopAt (codeP 144) 2) slices_Compact_L2_H :=
  loopX_ok tagOk mixed envNl (envT TabOk.nil) hb slices_Compact_L2_st slices_Compact_L2_D_ok fun p s ρ A Kx Kr => (slices_Compact_L2_nf p s ρ A Kx Kr).trans (slices_Compact_L2_bind (p.1) (p.2) s _ _ _)
theorem slices_Compact_L0_nf (p : List Int) (s : Int) (ρ : Type) (again Kx Kr : List V → Heap Row → Option ρ) : evRound rowU (envOf 144 1 [] [(2, slices_Compact_L2_H), (0, slices_Compact_L0_H)]) 0 slices_Compact_L0_H (loopC 144 0) again (slices_Compact_L0_st p s).1 (slices_Compact_L0_st p s).2 Kx Kr = slices_Compact_L0_K p s (fun s => again (slices_Compact_L0_st p s).1 (slices_Compact_L0_st p s).2) (fun t => Kx (slices_Compact_L0_so p t).1 (slices_Compact_L0_so p t).2) (fun k => Kr (slices_Compact_L0_sr p k).1 (slices_Compact_L0_sr p k).2) := by kernel_rfl
theorem slices_Compact_L0_ok (hb : LoopsOk Try.prog rowU (envOf 144 1 [] [(2, slices_Compact_L2_H), (0, slices_Compact_L0_H)]) (loopAt (codeP 144) 0)) : LoopOk Try.prog rowU (envOf 144 1 [] [(2, slices_Compact_L2_H), (0, slices_Compact_L0_H)]) 0 (loopAt (codeP 144) 0) slices_Compact_L0_H :=
  loopR_ok tagOk mixed envNl (envT TabOk.nil) hb slices_Compact_L0_st slices_Compact_L0_D_ok fun p s ρ A Kx Kr => (slices_Compact_L0_nf p s ρ A Kx Kr).trans (slices_Compact_L0_bind p s _ _ _)
noncomputable def slices_Compact_K (x0 : List Int) {ρ : Type} (K : List Int × List Int × Bool → Option ρ) : Option ρ :=
  cond (decide ((((x0.length : Nat) : Int)) < 2))
    (K (x0, x0, true))
    (Option.bind (runL (slices_Compact_L0_step x0) 1) fun ot2 => sumK ot2
      (fun t2 => K (x0, x0, true))
      (fun k3 => K (k3, k3, false)))
noncomputable def slices_Compact (x0 : List Int) : Option (List Int × List Int × Bool) := slices_Compact_K x0 some
theorem slices_Compact_bind (x0 : List Int) {ρ : Type} (K : List Int × List Int × Bool → Option ρ) : slices_Compact_K x0 K = (slices_Compact x0).bind K := by
  simp only [slices_Compact, slices_Compact_K, Option.bind_assoc, Option.bind_some, Option.bind_none, cond_bind, sumK_bind]
noncomputable def slices_Compact_E : Env Row := envN false 144 1 [] [(2, slices_Compact_L2_H), (0, slices_Compact_L0_H)]
theorem slices_Compact_nf (x0 : List Int) (ρ : Type) (K : V → Heap Row → Option ρ) : evBody rowU slices_Compact_E (bodyC 144) [.c (.sl 0 0)] [⟨.row ⟨.int, x0⟩, 0, 2⟩] K = slices_Compact_K x0 (fun r => cond r.2.2 (K (.c (.sl 0 0)) [⟨.row ⟨.int, r.2.1⟩, 0, 2⟩]) (K (.c (.sl 0 1)) [⟨.row ⟨.int, r.2.1⟩, 1, 2⟩])) := by kernel_rfl
def slices_Compact_D : List V → Heap Row → Option (List Int)
  | [.c (.sl 0 0)], [⟨.row ⟨.int, v1⟩, 0, 2⟩] => some (v1)
  | _, _ => none
theorem slices_Compact_D_ok {vs : List V} {W : Heap Row} {a : List Int} (h : slices_Compact_D vs W = some a) : vs = [.c (.sl 0 0)] ∧ W = [⟨.row ⟨.int, a⟩, 0, 2⟩] := by
  unfold slices_Compact_D at h
  split at h
  · simp at h; subst h; exact ⟨rfl, rfl⟩
  · simp at h
noncomputable def slices_Compact_C : Callee Row := ⟨[(true, 0)], fun _ vs W K => (slices_Compact_D vs W).bind fun a => (slices_Compact a).bind fun r => cond r.2.2 (K (.c (.sl 0 0)) [⟨.row ⟨.int, r.2.1⟩, 0, 2⟩]) (K (.c (.sl 0 1)) [⟨.row ⟨.int, r.2.1⟩, 1, 2⟩])⟩
theorem slices_Compact_ok : CalleeOk Try.prog rowU 144 slices_Compact_C := by
  refine calleeP (nl := false) (m0 := 1) (T := []) (H := [(2, slices_Compact_L2_H), (0, slices_Compact_L0_H)]) TabOk.nil (by kernel_rfl) (by kernel_rfl) (fun p hp hb => by
    simp only [List.mem_cons, List.not_mem_nil, or_false] at hp
    rcases hp with rfl | rfl
    · exact slices_Compact_L2_ok hb
    · exact slices_Compact_L0_ok hb) fun ρ vs W K r h => ?_
  obtain ⟨a, ha, h1⟩ := Option.bind_eq_some_iff.1 h
  clear h
  obtain ⟨rfl, rfl⟩ := slices_Compact_D_ok ha
  obtain ⟨q, hq, h2⟩ := Option.bind_eq_some_iff.1 h1
  have key : evBody rowU slices_Compact_E (bodyC 144) _ _ (fun v H => some (v, H)) = (cond (q).2.2 (some (.c (.sl 0 0), [⟨.row ⟨.int, q.2.1⟩, 0, 2⟩])) (some (.c (.sl 0 1), [⟨.row ⟨.int, q.2.1⟩, 1, 2⟩])) : Option (V × Heap Row)) := (slices_Compact_nf a _ _).trans ((slices_Compact_bind a _).trans (by rw [hq]; rfl))
  cases hb : (q).2.2
  · rw [hb] at h2 key; exact ⟨_, _, h2, key⟩
  · rw [hb] at h2 key; exact ⟨_, _, h2, key⟩
/-! loop.example/g00249/impl.nextPlaces$1 -/
def impl_nextPlaces_1_K (x0 : Int) (f0_0 : List GIns) {ρ : Type} (K : Bool → Option ρ) : Option ρ :=
  Option.bind (impl_in x0 0 (w64 ((((f0_0.length : Nat) : Int)) - 1))) fun r1 =>
  K (!r1)
def impl_nextPlaces_1 (x0 : Int) (f0_0 : List GIns) : Option (Bool) := impl_nextPlaces_1_K x0 f0_0 some
theorem impl_nextPlaces_1_bind (x0 : Int) (f0_0 : List GIns) {ρ : Type} (K : Bool → Option ρ) : impl_nextPlaces_1_K x0 f0_0 K = (impl_nextPlaces_1 x0 f0_0).bind K := by
  simp only [impl_nextPlaces_1, impl_nextPlaces_1_K, Option.bind_assoc, Option.bind_some, Option.bind_none, cond_bind, sumK_bind]
noncomputable def impl_nextPlaces_1_E : Env Row := envN false 227 2 [(125, impl_in_C)] []
theorem impl_nextPlaces_1_nf (x0 : Int) (f0_0 : List GIns) (ρ : Type) (K : V → Heap Row → Option ρ) : evBody rowU impl_nextPlaces_1_E (bodyC 227) [.c (.int .i64 x0), .c (.ptr 0 0)] [⟨.box [.sl 1 0], 0, 1⟩, ⟨.row ⟨.ins, f0_0⟩, 0, 1⟩] K = impl_nextPlaces_1_K x0 f0_0 (fun r => K (.c (.bool r)) [⟨.box [.sl 1 0], 0, 1⟩, ⟨.row ⟨.ins, f0_0⟩, 0, 1⟩]) := by kernel_rfl
def impl_nextPlaces_1_D : List V → Heap Row → Option (Int × List GIns)
  | [.c (.int .i64 v1), .c (.ptr 0 0)], [⟨.box [.sl 1 0], 0, 1⟩, ⟨.row ⟨.ins, v2⟩, 0, 1⟩] => some (v1, v2)
  | _, _ => none
theorem impl_nextPlaces_1_D_ok {vs : List V} {W : Heap Row} {a : Int × List GIns} (h : impl_nextPlaces_1_D vs W = some a) : vs = [.c (.int .i64 (a.1)), .c (.ptr 0 0)] ∧ W = [⟨.box [.sl 1 0], 0, 1⟩, ⟨.row ⟨.ins, a.2⟩, 0, 1⟩] := by
  unfold impl_nextPlaces_1_D at h
  split at h
  · simp at h; subst h; exact ⟨rfl, rfl⟩
  · simp at h
def impl_nextPlaces_1_C : Callee Row := ⟨[(false, 1), (false, 0)], fun _ vs W K => (impl_nextPlaces_1_D vs W).bind fun a => (impl_nextPlaces_1 a.1 a.2).bind fun r => K (.c (.bool r)) [⟨.box [.sl 1 0], 0, 1⟩, ⟨.row ⟨.ins, a.2⟩, 0, 1⟩]⟩
theorem impl_nextPlaces_1_ok : CalleeOk Try.prog rowU 227 impl_nextPlaces_1_C := by
  refine calleeP (nl := false) (m0 := 2) (T := [(125, impl_in_C)]) (H := []) (TabOk.cons impl_in_ok TabOk.nil) (by kernel_rfl) (by kernel_rfl) (fun p hp => nomatch hp) fun ρ vs W K r h => ?_
  obtain ⟨a, ha, h1⟩ := Option.bind_eq_some_iff.1 h
  clear h
  obtain ⟨rfl, rfl⟩ := impl_nextPlaces_1_D_ok ha
  obtain ⟨q, hq, h2⟩ := Option.bind_eq_some_iff.1 h1
  exact ⟨_, _, h2, (impl_nextPlaces_1_nf (a.1) (a.2) _ _).trans ((impl_nextPlaces_1_bind (a.1) (a.2) _).trans (by rw [hq]; rfl))⟩
/-! slices.IndexFunc[[]int,int] -/
noncomputable def slices_IndexFunc_227_L0_K (l0 : List Int) (l1 : List GIns) (n2 : Int) (n3 : Int) {ρ : Type} (A : Int → Option ρ) (X : Unit → Option ρ) (R : Int → Option ρ) : Option ρ :=
  cond (decide (n3 < n2))
    (cond (decide (0 ≤ n3)) (cond (decide (n3 < (((l0.length : Nat) : Int)))) (Option.bind (impl_nextPlaces_1 (List.getD l0 (n3.toNat) 0) l1) fun r1 =>
    cond r1
      (R n3)
      (A (w64 (n3 + 1)))) none) none)
    (X ())
noncomputable def slices_IndexFunc_227_L0_step (l0 : List Int) (l1 : List GIns) (n2 : Int) (s : Int) : Option (Rnd (Int) (Unit) (Int)) := slices_IndexFunc_227_L0_K l0 l1 n2 s (fun s => some (.again s)) (fun t => some (.exit t)) (fun k => some (.ret k))
theorem slices_IndexFunc_227_L0_bind (l0 : List Int) (l1 : List GIns) (n2 : Int) (s : Int) {ρ : Type} (A : Int → Option ρ) (X : Unit → Option ρ) (R : Int → Option ρ) : slices_IndexFunc_227_L0_K l0 l1 n2 s A X R = (slices_IndexFunc_227_L0_step l0 l1 n2 s).bind (rndE A X R) := by
  simp only [slices_IndexFunc_227_L0_step, slices_IndexFunc_227_L0_K, Option.bind_assoc, Option.bind_some, Option.bind_none, cond_bind, sumK_bind, rndE_again, rndE_exit, rndE_ret]
def slices_IndexFunc_227_L0_st (p : List Int × List GIns × Int) (s : Int) : List V × Heap Row := ([.c (.sl 0 0), .c (.fn 227 [1]), .c (.int .i64 (p.2.2)), .c (.int .i64 (s))], [⟨.row ⟨.int, p.1⟩, 0, 1⟩, ⟨.box [.sl 2 0], 0, 1⟩, ⟨.row ⟨.ins, p.2.1⟩, 0, 1⟩])
def slices_IndexFunc_227_L0_so (p : List Int × List GIns × Int) (t : Unit) : List V × Heap Row := ([], [⟨.row ⟨.int, p.1⟩, 0, 1⟩, ⟨.box [.sl 2 0], 0, 1⟩, ⟨.row ⟨.ins, p.2.1⟩, 0, 1⟩])
def slices_IndexFunc_227_L0_sr (p : List Int × List GIns × Int) (k : Int) : List V × Heap Row := ([.c (.int .i64 (k))], [⟨.row ⟨.int, p.1⟩, 0, 1⟩, ⟨.box [.sl 2 0], 0, 1⟩, ⟨.row ⟨.ins, p.2.1⟩, 0, 1⟩])
def slices_IndexFunc_227_L0_D : List V → Heap Row → Option ((List Int × List GIns × Int) × (Int))
  | [.c (.sl 0 0), .c (.fn 227 [1]), .c (.int .i64 v1), .c (.int .i64 v2)], [⟨.row ⟨.int, v3⟩, 0, 1⟩, ⟨.box [.sl 2 0], 0, 1⟩, ⟨.row ⟨.ins, v4⟩, 0, 1⟩] => some ((v3, v4, v1), (v2))
  | _, _ => none
theorem slices_IndexFunc_227_L0_D_ok (vs : List V) (L : Heap Row) (p : List Int × List GIns × Int) (s : Int) (h : slices_IndexFunc_227_L0_D vs L = some (p, s)) : slices_IndexFunc_227_L0_st p s = (vs, L) := by
  unfold slices_IndexFunc_227_L0_D at h
  split at h
  · simp at h; obtain ⟨rfl, rfl⟩ := h; rfl
  · simp at h
noncomputable def slices_IndexFunc_227_L0_H : LoopH Row := loopR [0, 1, 7, 8] [] slices_IndexFunc_227_L0_D (fun p => slices_IndexFunc_227_L0_step (p.1) (p.2.1) (p.2.2)) slices_IndexFunc_227_L0_so slices_IndexFunc_227_L0_sr
theorem slices_IndexFunc_227_L0_nf (p : List Int × List GIns × Int) (s : Int) (ρ : Type) (again Kx Kr : List V → Heap Row → Option ρ) : evRound rowU (envOf 279 3 [(227, impl_nextPlaces_1_C)] [(0, slices_IndexFunc_227_L0_H)]) 0 slices_IndexFunc_227_L0_H (loopC 279 0) again (slices_IndexFunc_227_L0_st p s).1 (slices_IndexFunc_227_L0_st p s).2 Kx Kr = slices_IndexFunc_227_L0_K (p.1) (p.2.1) (p.2.2) s (fun s => again (slices_IndexFunc_227_L0_st p s).1 (slices_IndexFunc_227_L0_st p s).2) (fun t => Kx (slices_IndexFunc_227_L0_so p t).1 (slices_IndexFunc_227_L0_so p t).2) (fun k => Kr (slices_IndexFunc_227_L0_sr p k).1 (slices_IndexFunc_227_L0_sr p k).2) := by kernel_rfl
theorem slices_IndexFunc_227_L0_ok (hb : LoopsOk Try.prog rowU (envOf 279 3 [(227, impl_nextPlaces_1_C)] [(0, slices_IndexFunc_227_L0_H)]) (loopAt (codeP 279) 0)) : LoopOk Try.prog rowU (envOf 279 3 [(227, impl_nextPlaces_1_C)] [(0, slices_IndexFunc_227_L0_H)]) 0 (loopAt (codeP 279) 0) slices_IndexFunc_227_L0_H :=
  loopR_ok tagOk mixed envNl (envT (TabOk.cons impl_nextPlaces_1_ok TabOk.nil)) hb slices_IndexFunc_227_L0_st slices_IndexFunc_227_L0_D_ok fun p s ρ A Kx Kr => (slices_IndexFunc_227_L0_nf p s ρ A Kx Kr).trans (slices_IndexFunc_227_L0_bind (p.1) (p.2.1) (p.2.2) s _ _ _)
noncomputable def slices_IndexFunc_227_K (x0 : List Int) (c1_0_0 : List GIns) {ρ : Type} (K : Int → Option ρ) : Option ρ :=
  Option.bind (runL (slices_IndexFunc_227_L0_step x0 c1_0_0 (((x0.length : Nat) : Int))) 0) fun ot2 => sumK ot2
    (fun t2 => K (-1))
    (fun k3 => K k3)
noncomputable def slices_IndexFunc_227 (x0 : List Int) (c1_0_0 : List GIns) : Option (Int) := slices_IndexFunc_227_K x0 c1_0_0 some
theorem slices_IndexFunc_227_bind (x0 : List Int) (c1_0_0 : List GIns) {ρ : Type} (K : Int → Option ρ) : slices_IndexFunc_227_K x0 c1_0_0 K = (slices_IndexFunc_227 x0 c1_0_0).bind K := by
  simp only [slices_IndexFunc_227, slices_IndexFunc_227_K, Option.bind_assoc, Option.bind_some, Option.bind_none, cond_bind, sumK_bind]
noncomputable def slices_IndexFunc_227_E : Env Row := envN false 279 3 [(227, impl_nextPlaces_1_C)] [(0, slices_IndexFunc_227_L0_H)]
theorem slices_IndexFunc_227_nf (x0 : List Int) (c1_0_0 : List GIns) (ρ : Type) (K : V → Heap Row → Option ρ) : evBody rowU slices_IndexFunc_227_E (bodyC 279) [.c (.sl 0 0), .c (.fn 227 [1])] [⟨.row ⟨.int, x0⟩, 0, 1⟩, ⟨.box [.sl 2 0], 0, 1⟩, ⟨.row ⟨.ins, c1_0_0⟩, 0, 1⟩] K = slices_IndexFunc_227_K x0 c1_0_0 (fun r => K (.c (.int .i64 r)) [⟨.row ⟨.int, x0⟩, 0, 1⟩, ⟨.box [.sl 2 0], 0, 1⟩, ⟨.row ⟨.ins, c1_0_0⟩, 0, 1⟩]) := by kernel_rfl
def slices_IndexFunc_227_D : List V → Heap Row → Option (List Int × List GIns)
  | [.c (.sl 0 0), .c (.fn 227 [1])], [⟨.row ⟨.int, v1⟩, 0, 1⟩, ⟨.box [.sl 2 0], 0, 1⟩, ⟨.row ⟨.ins, v2⟩, 0, 1⟩] => some (v1, v2)
  | _, _ => none
theorem slices_IndexFunc_227_D_ok {vs : List V} {W : Heap Row} {a : List Int × List GIns} (h : slices_IndexFunc_227_D vs W = some a) : vs = [.c (.sl 0 0), .c (.fn 227 [1])] ∧ W = [⟨.row ⟨.int, a.1⟩, 0, 1⟩, ⟨.box [.sl 2 0], 0, 1⟩, ⟨.row ⟨.ins, a.2⟩, 0, 1⟩] := by
  unfold slices_IndexFunc_227_D at h
  split at h
  · simp at h; subst h; exact ⟨rfl, rfl⟩
  · simp at h
noncomputable def slices_IndexFunc_227_C : Callee Row := ⟨[(false, 0), (false, 1), (false, 0)], fun _ vs W K => (slices_IndexFunc_227_D vs W).bind fun a => (slices_IndexFunc_227 a.1 a.2).bind fun r => K (.c (.int .i64 r)) [⟨.row ⟨.int, a.1⟩, 0, 1⟩, ⟨.box [.sl 2 0], 0, 1⟩, ⟨.row ⟨.ins, a.2⟩, 0, 1⟩]⟩
theorem slices_IndexFunc_227_ok : CalleeOk Try.prog rowU 279 slices_IndexFunc_227_C := by
  refine calleeP (nl := false) (m0 := 3) (T := [(227, impl_nextPlaces_1_C)]) (H := [(0, slices_IndexFunc_227_L0_H)]) (TabOk.cons impl_nextPlaces_1_ok TabOk.nil) (by kernel_rfl) (by kernel_rfl) (fun p hp hb => by
    simp only [List.mem_cons, List.not_mem_nil, or_false] at hp
    subst hp
    exact slices_IndexFunc_227_L0_ok hb) fun ρ vs W K r h => ?_
  obtain ⟨a, ha, h1⟩ := Option.bind_eq_some_iff.1 h
  clear h
  obtain ⟨rfl, rfl⟩ := slices_IndexFunc_227_D_ok ha
  obtain ⟨q, hq, h2⟩ := Option.bind_eq_some_iff.1 h1
  exact ⟨_, _, h2, (slices_IndexFunc_227_nf (a.1) (a.2) _ _).trans ((slices_IndexFunc_227_bind (a.1) (a.2) _).trans (by rw [hq]; rfl))⟩
/-! slices.DeleteFunc[[]int,int] -/
noncomputable def slices_DeleteFunc_227_L0_K (l1 : List GIns) (l0 : List Int) (n2 : Int) (n3 : Int) {ρ : Type} (A : List Int × Int × Int → Option ρ) (X : List Int × Int → Option ρ) (R : Unit → Option ρ) : Option ρ :=
  cond (decide (n3 < (((l0.length : Nat) : Int))))
    (cond (decide (0 ≤ n3)) (cond (decide (n3 < (((l0.length : Nat) : Int)))) (Option.bind (impl_nextPlaces_1 (List.getD l0 (n3.toNat) 0) l1) fun r2 =>
    cond (!r2)
      (cond (decide (0 ≤ n2)) (cond (decide (n2 < (((l0.length : Nat) : Int)))) (A (List.set l0 (n2.toNat) (List.getD l0 (n3.toNat) 0), w64 (n2 + 1), w64 (n3 + 1))) none) none)
      (A (l0, n2, w64 (n3 + 1)))) none) none)
    (X (l0, n2))
noncomputable def slices_DeleteFunc_227_L0_step (l1 : List GIns) (s : List Int × Int × Int) : Option (Rnd (List Int × Int × Int) (List Int × Int) (Unit)) := slices_DeleteFunc_227_L0_K l1 (s.1) (s.2.1) (s.2.2) (fun s => some (.again s)) (fun t => some (.exit t)) (fun k => some (.ret k))
theorem slices_DeleteFunc_227_L0_bind (l1 : List GIns) (s : List Int × Int × Int) {ρ : Type} (A : List Int × Int × Int → Option ρ) (X : List Int × Int → Option ρ) (R : Unit → Option ρ) : slices_DeleteFunc_227_L0_K l1 (s.1) (s.2.1) (s.2.2) A X R = (slices_DeleteFunc_227_L0_step l1 s).bind (rndE A X R) := by
  simp only [slices_DeleteFunc_227_L0_step, slices_DeleteFunc_227_L0_K, Option.bind_assoc, Option.bind_some, Option.bind_none, cond_bind, sumK_bind, rndE_again, rndE_exit, rndE_ret]
def slices_DeleteFunc_227_L0_st (p : List GIns) (s : List Int × Int × Int) : List V × Heap Row := ([.c (.sl 0 0), .c (.fn 227 [1]), .c (.int .i64 (s.2.1)), .c (.int .i64 (s.2.2))], [⟨.row ⟨.int, s.1⟩, 0, 2⟩, ⟨.box [.sl 2 0], 0, 1⟩, ⟨.row ⟨.ins, p⟩, 0, 1⟩])
def slices_DeleteFunc_227_L0_so (p : List GIns) (t : List Int × Int) : List V × Heap Row := ([.c (.sl 0 0), .c (.int .i64 (t).2)], [⟨.row ⟨.int, (t).1⟩, 0, 2⟩, ⟨.box [.sl 2 0], 0, 1⟩, ⟨.row ⟨.ins, p⟩, 0, 1⟩])
def slices_DeleteFunc_227_L0_D : List V → Heap Row → Option ((List GIns) × (List Int × Int × Int))
  | [.c (.sl 0 0), .c (.fn 227 [1]), .c (.int .i64 v1), .c (.int .i64 v2)], [⟨.row ⟨.int, v3⟩, 0, 2⟩, ⟨.box [.sl 2 0], 0, 1⟩, ⟨.row ⟨.ins, v4⟩, 0, 1⟩] => some ((v4), (v3, v1, v2))
  | _, _ => none
theorem slices_DeleteFunc_227_L0_D_ok (vs : List V) (L : Heap Row) (p : List GIns) (s : List Int × Int × Int) (h : slices_DeleteFunc_227_L0_D vs L = some (p, s)) : slices_DeleteFunc_227_L0_st p s = (vs, L) := by
  unfold slices_DeleteFunc_227_L0_D at h
  split at h
  · simp at h; obtain ⟨rfl, rfl⟩ := h; rfl
  · simp at h
noncomputable def slices_DeleteFunc_227_L0_H : LoopH Row := loopX [0, 1, 5, 6] [0, 5] slices_DeleteFunc_227_L0_D (fun p => slices_DeleteFunc_227_L0_step p) slices_DeleteFunc_227_L0_so
theorem slices_DeleteFunc_227_L0_nf (p : List GIns) (s : List Int × Int × Int) (ρ : Type) (again Kx Kr : List V → Heap Row → Option ρ) : evRound rowU (envOf 226 3 [(227, impl_nextPlaces_1_C), (279, slices_IndexFunc_227_C)] [(0, slices_DeleteFunc_227_L0_H)]) 0 slices_DeleteFunc_227_L0_H (loopC 226 0) again (slices_DeleteFunc_227_L0_st p s).1 (slices_DeleteFunc_227_L0_st p s).2 Kx Kr = slices_DeleteFunc_227_L0_K p (s.1) (s.2.1) (s.2.2) (fun s => again (slices_DeleteFunc_227_L0_st p s).1 (slices_DeleteFunc_227_L0_st p s).2) (fun t => Kx (slices_DeleteFunc_227_L0_so p t).1 (slices_DeleteFunc_227_L0_so p t).2) (fun _ => none) := by kernel_rfl
theorem slices_DeleteFunc_227_L0_ok (hb : LoopsOk Try.prog rowU (envOf 226 3 [(227, impl_nextPlaces_1_C), (279, slices_IndexFunc_227_C)] [(0, slices_DeleteFunc_227_L0_H)]) (loopAt (codeP 226) 0)) : LoopOk Try.prog rowU (envOf 226 3 [(227, impl_nextPlaces_1_C), (279, slices_IndexFunc_227_C)] [(0, slices_DeleteFunc_227_L0_H)]) 0 (loopAt (codeP 226) 0) slices_DeleteFunc_227_L0_H :=
  loopX_ok tagOk mixed envNl (envT (TabOk.cons impl_nextPlaces_1_ok (TabOk.cons slices_IndexFunc_227_ok TabOk.nil))) hb slices_DeleteFunc_227_L0_st slices_DeleteFunc_227_L0_D_ok fun p s ρ A Kx Kr => (slices_DeleteFunc_227_L0_nf p s ρ A Kx Kr).trans (slices_DeleteFunc_227_L0_bind p s _ _ _)
noncomputable def slices_DeleteFunc_227_K (x0 : List Int) (c1_0_0 : List GIns) {ρ : Type} (K : List Int × List Int × Bool → Option ρ) : Option ρ :=
  Option.bind (slices_IndexFunc_227 x0 c1_0_0) fun r1 =>
  cond (r1 == (-1))
    (K (x0, x0, true))
    (Option.bind (runX (slices_DeleteFunc_227_L0_step c1_0_0) (x0, r1, w64 (r1 + 1))) fun t3 =>
    cond (decide (0 ≤ t3.2)) (cond (decide (t3.2 ≤ (((t3.1.length : Nat) : Int)))) (cond (decide ((((t3.1.length : Nat) : Int)) ≤ (((t3.1.length : Nat) : Int)))) (cond (decide (((t3.2.toNat) + (((((t3.1.length : Nat) : Int)) - t3.2).toNat)) ≤ (t3.1.length))) (cond (decide (0 ≤ t3.2)) (cond (decide (t3.2 ≤ ((((ovwL t3.1 (t3.2.toNat) (List.replicate (((((t3.1.length : Nat) : Int)) - t3.2).toNat) 0)).length : Nat) : Int)))) (K (cutL (ovwL t3.1 (t3.2.toNat) (List.replicate (((((t3.1.length : Nat) : Int)) - t3.2).toNat) 0)) 0 ((t3.2 - 0).toNat), cutL (ovwL t3.1 (t3.2.toNat) (List.replicate (((((t3.1.length : Nat) : Int)) - t3.2).toNat) 0)) 0 ((t3.2 - 0).toNat), false)) none) none) none) none) none) none)
noncomputable def slices_DeleteFunc_227 (x0 : List Int) (c1_0_0 : List GIns) : Option (List Int × List Int × Bool) := slices_DeleteFunc_227_K x0 c1_0_0 some
theorem slices_DeleteFunc_227_bind (x0 : List Int) (c1_0_0 : List GIns) {ρ : Type} (K : List Int × List Int × Bool → Option ρ) : slices_DeleteFunc_227_K x0 c1_0_0 K = (slices_DeleteFunc_227 x0 c1_0_0).bind K := by
  simp only [slices_DeleteFunc_227, slices_DeleteFunc_227_K, Option.bind_assoc, Option.bind_some, Option.bind_none, cond_bind, sumK_bind]
noncomputable def slices_DeleteFunc_227_E : Env Row := envN false 226 3 [(227, impl_nextPlaces_1_C), (279, slices_IndexFunc_227_C)] [(0, slices_DeleteFunc_227_L0_H)]
theorem slices_DeleteFunc_227_nf (x0 : List Int) (c1_0_0 : List GIns) (ρ : Type) (K : V → Heap Row → Option ρ) : evBody rowU slices_DeleteFunc_227_E (bodyC 226) [.c (.sl 0 0), .c (.fn 227 [1])] [⟨.row ⟨.int, x0⟩, 0, 2⟩, ⟨.box [.sl 2 0], 0, 1⟩, ⟨.row ⟨.ins, c1_0_0⟩, 0, 1⟩] K = slices_DeleteFunc_227_K x0 c1_0_0 (fun r => cond r.2.2 (K (.c (.sl 0 0)) [⟨.row ⟨.int, r.2.1⟩, 0, 2⟩, ⟨.box [.sl 2 0], 0, 1⟩, ⟨.row ⟨.ins, c1_0_0⟩, 0, 1⟩]) (K (.c (.sl 0 1)) [⟨.row ⟨.int, r.2.1⟩, 1, 2⟩, ⟨.box [.sl 2 0], 0, 1⟩, ⟨.row ⟨.ins, c1_0_0⟩, 0, 1⟩])) := by kernel_rfl
def slices_DeleteFunc_227_D : List V → Heap Row → Option (List Int × List GIns)
  | [.c (.sl 0 0), .c (.fn 227 [1])], [⟨.row ⟨.int, v1⟩, 0, 2⟩, ⟨.box [.sl 2 0], 0, 1⟩, ⟨.row ⟨.ins, v2⟩, 0, 1⟩] => some (v1, v2)
  | _, _ => none
theorem slices_DeleteFunc_227_D_ok {vs : List V} {W : Heap Row} {a : List Int × List GIns} (h : slices_DeleteFunc_227_D vs W = some a) : vs = [.c (.sl 0 0), .c (.fn 227 [1])] ∧ W = [⟨.row ⟨.int, a.1⟩, 0, 2⟩, ⟨.box [.sl 2 0], 0, 1⟩, ⟨.row ⟨.ins, a.2⟩, 0, 1⟩] := by
  unfold slices_DeleteFunc_227_D at h
  split at h
  · simp at h; subst h; exact ⟨rfl, rfl⟩
  · simp at h
noncomputable def slices_DeleteFunc_227_C : Callee Row := ⟨[(true, 0), (false, 1), (false, 0)], fun _ vs W K => (slices_DeleteFunc_227_D vs W).bind fun a => (slices_DeleteFunc_227 a.1 a.2).bind fun r => cond r.2.2 (K (.c (.sl 0 0)) [⟨.row ⟨.int, r.2.1⟩, 0, 2⟩, ⟨.box [.sl 2 0], 0, 1⟩, ⟨.row ⟨.ins, a.2⟩, 0, 1⟩]) (K (.c (.sl 0 1)) [⟨.row ⟨.int, r.2.1⟩, 1, 2⟩, ⟨.box [.sl 2 0], 0, 1⟩, ⟨.row ⟨.ins, a.2⟩, 0, 1⟩])⟩
theorem slices_DeleteFunc_227_ok : CalleeOk Try.prog rowU 226 slices_DeleteFunc_227_C := by
  refine calleeP (nl := false) (m0 := 3) (T := [(227, impl_nextPlaces_1_C), (279, slices_IndexFunc_227_C)]) (H := [(0, slices_DeleteFunc_227_L0_H)]) (TabOk.cons impl_nextPlaces_1_ok (TabOk.cons slices_IndexFunc_227_ok TabOk.nil)) (by kernel_rfl) (by kernel_rfl) (fun p hp hb => by
    simp only [List.mem_cons, List.not_mem_nil, or_false] at hp
    subst hp
    exact slices_DeleteFunc_227_L0_ok hb) fun ρ vs W K r h => ?_
  obtain ⟨a, ha, h1⟩ := Option.bind_eq_some_iff.1 h
  clear h
  obtain ⟨rfl, rfl⟩ := slices_DeleteFunc_227_D_ok ha
  obtain ⟨q, hq, h2⟩ := Option.bind_eq_some_iff.1 h1
  have key : evBody rowU slices_DeleteFunc_227_E (bodyC 226) _ _ (fun v H => some (v, H)) = (cond (q).2.2 (some (.c (.sl 0 0), [⟨.row ⟨.int, q.2.1⟩, 0, 2⟩, ⟨.box [.sl 2 0], 0, 1⟩, ⟨.row ⟨.ins, a.2⟩, 0, 1⟩])) (some (.c (.sl 0 1), [⟨.row ⟨.int, q.2.1⟩, 1, 2⟩, ⟨.box [.sl 2 0], 0, 1⟩, ⟨.row ⟨.ins, a.2⟩, 0, 1⟩])) : Option (V × Heap Row)) := (slices_DeleteFunc_227_nf (a.1) (a.2) _ _).trans ((slices_DeleteFunc_227_bind (a.1) (a.2) _).trans (by rw [hq]; rfl))
  cases hb : (q).2.2
  · rw [hb] at h2 key; exact ⟨_, _, h2, key⟩
  · rw [hb] at h2 key; exact ⟨_, _, h2, key⟩
/-! loop.example/g00249/impl.nextPlaces -/
noncomputable def impl_nextPlaces_L1_K (l0 : List GIns) (n2 : Int) (l1 : List Int) (n3 : Int) {ρ : Type} (A : List Int × Int → Option ρ) (X : List Int → Option ρ) (R : Unit → Option ρ) : Option ρ :=
  cond (decide (n3 < n2))
    (cond (decide ((((l1.length) + 1) * 8) ≤ 140737488355328)) (A (l1 ++ [n3], w64 (n3 + 1))) none)
    (X l1)
noncomputable def impl_nextPlaces_L1_step (l0 : List GIns) (n2 : Int) (s : List Int × Int) : Option (Rnd (List Int × Int) (List Int) (Unit)) := impl_nextPlaces_L1_K l0 n2 (s.1) (s.2) (fun s => some (.again s)) (fun t => some (.exit t)) (fun k => some (.ret k))
theorem impl_nextPlaces_L1_bind (l0 : List GIns) (n2 : Int) (s : List Int × Int) {ρ : Type} (A : List Int × Int → Option ρ) (X : List Int → Option ρ) (R : Unit → Option ρ) : impl_nextPlaces_L1_K l0 n2 (s.1) (s.2) A X R = (impl_nextPlaces_L1_step l0 n2 s).bind (rndE A X R) := by
  simp only [impl_nextPlaces_L1_step, impl_nextPlaces_L1_K, Option.bind_assoc, Option.bind_some, Option.bind_none, cond_bind, sumK_bind, rndE_again, rndE_exit, rndE_ret]
def impl_nextPlaces_L1_st (p : List GIns × Int) (s : List Int × Int) : List V × Heap Row := ([.c (.sl 1 0), .c (.int .i64 (p.2)), .c (.int .i64 (s.2))], [⟨.row ⟨.ins, p.1⟩, 0, 1⟩, ⟨.row ⟨.int, s.1⟩, 0, 2⟩])
def impl_nextPlaces_L1_so (p : List GIns × Int) (t : List Int) : List V × Heap Row := ([.c (.sl 1 0)], [⟨.row ⟨.ins, p.1⟩, 0, 1⟩, ⟨.row ⟨.int, t⟩, 0, 2⟩])
def impl_nextPlaces_L1_D : List V → Heap Row → Option ((List GIns × Int) × (List Int × Int))
  | [.c (.sl 1 0), .c (.int .i64 v1), .c (.int .i64 v2)], [⟨.row ⟨.ins, v3⟩, 0, 1⟩, ⟨.row ⟨.int, v4⟩, 0, 2⟩] => some ((v3, v1), (v4, v2))
  | _, _ => none
theorem impl_nextPlaces_L1_D_ok (vs : List V) (L : Heap Row) (p : List GIns × Int) (s : List Int × Int) (h : impl_nextPlaces_L1_D vs L = some (p, s)) : impl_nextPlaces_L1_st p s = (vs, L) := by
  unfold impl_nextPlaces_L1_D at h
  split at h
  · simp at h; obtain ⟨rfl, rfl⟩ := h; rfl
  · simp at h
noncomputable def impl_nextPlaces_L1_H : LoopH Row := loopX [5, 21, 22] [5] impl_nextPlaces_L1_D (fun p => impl_nextPlaces_L1_step (p.1) (p.2)) impl_nextPlaces_L1_so
theorem impl_nextPlaces_L1_nf (p : List GIns × Int) (s : List Int × Int) (ρ : Type) (again Kx Kr : List V → Heap Row → Option ρ) : evRound rowU (envOf 162 1 [(143, slices_Sort_C), (144, slices_Compact_C), (226, slices_DeleteFunc_227_C)] [(1, impl_nextPlaces_L1_H)]) 1 impl_nextPlaces_L1_H (loopC 162 1) again (impl_nextPlaces_L1_st p s).1 (impl_nextPlaces_L1_st p s).2 Kx Kr = impl_nextPlaces_L1_K (p.1) (p.2) (s.1) (s.2) (fun s => again (impl_nextPlaces_L1_st p s).1 (impl_nextPlaces_L1_st p s).2) (fun t => Kx (impl_nextPlaces_L1_so p t).1 (impl_nextPlaces_L1_so p t).2) (fun _ => none) := by kernel_rfl
theorem impl_nextPlaces_L1_ok (hb : LoopsOk Try.prog rowU (envOf 162 1 [(143, slices_Sort_C), (144, slices_Compact_C), (226, slices_DeleteFunc_227_C)] [(1, impl_nextPlaces_L1_H)]) (loopAt (codeP 162) 1)) : LoopOk Try.prog rowU (envOf 162 1 [(143, slices_Sort_C), (144, slices_Compact_C), (226, slices_DeleteFunc_227_C)] [(1, impl_nextPlaces_L1_H)]) 1 (loopAt (codeP 162) 1) impl_nextPlaces_L1_H :=
  loopX_ok tagOk mixed envNl (envT (TabOk.cons slices_Sort_ok (TabOk.cons slices_Compact_ok (TabOk.cons slices_DeleteFunc_227_ok TabOk.nil)))) hb impl_nextPlaces_L1_st impl_nextPlaces_L1_D_ok fun p s ρ A Kx Kr => (impl_nextPlaces_L1_nf p s ρ A Kx Kr).trans (impl_nextPlaces_L1_bind (p.1) (p.2) s _ _ _)
noncomputable def impl_nextPlaces_K (x0 : List GIns) (x1 : Int) {ρ : Type} (K : List Int → Option ρ) : Option ρ :=
  cond (decide (0 ≤ x1)) (cond (decide (x1 < (((x0.length : Nat) : Int)))) (cond ((List.getD x0 (x1.toNat) (default)).op == 15)
    (K [])
    (cond ((List.getD x0 (x1.toNat) (default)).op == 12)
      (Option.bind (runX (impl_nextPlaces_L1_step x0 (((x0.length : Nat) : Int))) ([], 0)) fun t1 =>
      K t1)
      (cond ((List.getD x0 (x1.toNat) (default)).op == 13)
        (cond (decide ((1 * 8) ≤ 140737488355328)) (cond (decide ((((([] ++ [w64 (x1 + (List.getD x0 (x1.toNat) (default)).n)]).length) + 1) * 8) ≤ 140737488355328)) (Option.bind (slices_Sort (([] ++ [w64 (x1 + (List.getD x0 (x1.toNat) (default)).n)]) ++ [w64 (x1 + 1)])) fun r2 =>
        Option.bind (slices_Compact r2) fun r3 =>
        cond r3.2.2
          (Option.bind (slices_DeleteFunc_227 r3.2.1 x0) fun r4 =>
          cond r4.2.2
            (K r4.2.1)
            (K r4.2.1))
          (Option.bind (slices_DeleteFunc_227 r3.2.1 x0) fun r5 =>
          cond r5.2.2
            (K r5.2.1)
            (K r5.2.1))) none) none)
        (cond (decide ((1 * 8) ≤ 140737488355328)) (Option.bind (slices_Sort ([] ++ [w64 (x1 + 1)])) fun r6 =>
        Option.bind (slices_Compact r6) fun r7 =>
        cond r7.2.2
          (Option.bind (slices_DeleteFunc_227 r7.2.1 x0) fun r8 =>
          cond r8.2.2
            (K r8.2.1)
            (K r8.2.1))
          (Option.bind (slices_DeleteFunc_227 r7.2.1 x0) fun r9 =>
          cond r9.2.2
            (K r9.2.1)
            (K r9.2.1))) none)))) none) none
noncomputable def impl_nextPlaces (x0 : List GIns) (x1 : Int) : Option (List Int) := impl_nextPlaces_K x0 x1 some
theorem impl_nextPlaces_bind (x0 : List GIns) (x1 : Int) {ρ : Type} (K : List Int → Option ρ) : impl_nextPlaces_K x0 x1 K = (impl_nextPlaces x0 x1).bind K := by
  simp only [impl_nextPlaces, impl_nextPlaces_K, Option.bind_assoc, Option.bind_some, Option.bind_none, cond_bind, sumK_bind]
noncomputable def impl_nextPlaces_E : Env Row := envN false 162 1 [(143, slices_Sort_C), (144, slices_Compact_C), (226, slices_DeleteFunc_227_C)] [(1, impl_nextPlaces_L1_H)]
theorem impl_nextPlaces_nf (x0 : List GIns) (x1 : Int) (ρ : Type) (K : V → Heap Row → Option ρ) : evBody rowU impl_nextPlaces_E (bodyC 162) [.c (.sl 0 0), .c (.int .i64 x1)] [⟨.row ⟨.ins, x0⟩, 0, 1⟩] K = impl_nextPlaces_K x0 x1 (fun r => K (.c (.sl 1 0)) [⟨.row ⟨.ins, x0⟩, 0, 1⟩, ⟨.row ⟨.int, r⟩, 0, 2⟩]) := by kernel_rfl
def impl_nextPlaces_D : List V → Heap Row → Option (List GIns × Int)
  | [.c (.sl 0 0), .c (.int .i64 v1)], [⟨.row ⟨.ins, v2⟩, 0, 1⟩] => some (v2, v1)
  | _, _ => none
theorem impl_nextPlaces_D_ok {vs : List V} {W : Heap Row} {a : List GIns × Int} (h : impl_nextPlaces_D vs W = some a) : vs = [.c (.sl 0 0), .c (.int .i64 (a.2))] ∧ W = [⟨.row ⟨.ins, a.1⟩, 0, 1⟩] := by
  unfold impl_nextPlaces_D at h
  split at h
  · simp at h; subst h; exact ⟨rfl, rfl⟩
  · simp at h
noncomputable def impl_nextPlaces_C : Callee Row := ⟨[(false, 0)], fun _ vs W K => (impl_nextPlaces_D vs W).bind fun a => (impl_nextPlaces a.1 a.2).bind fun r => K (.c (.sl 1 0)) [⟨.row ⟨.ins, a.1⟩, 0, 1⟩, ⟨.row ⟨.int, r⟩, 0, 2⟩]⟩
theorem impl_nextPlaces_ok : CalleeOk Try.prog rowU 162 impl_nextPlaces_C := by
  refine calleeP (nl := false) (m0 := 1) (T := [(143, slices_Sort_C), (144, slices_Compact_C), (226, slices_DeleteFunc_227_C)]) (H := [(1, impl_nextPlaces_L1_H)]) (TabOk.cons slices_Sort_ok (TabOk.cons slices_Compact_ok (TabOk.cons slices_DeleteFunc_227_ok TabOk.nil))) (by kernel_rfl) (by kernel_rfl) (fun p hp hb => by
    simp only [List.mem_cons, List.not_mem_nil, or_false] at hp
    subst hp
    exact impl_nextPlaces_L1_ok hb) fun ρ vs W K r h => ?_
  obtain ⟨a, ha, h1⟩ := Option.bind_eq_some_iff.1 h
  clear h
  obtain ⟨rfl, rfl⟩ := impl_nextPlaces_D_ok ha
  obtain ⟨q, hq, h2⟩ := Option.bind_eq_some_iff.1 h1
  exact ⟨_, _, h2, (impl_nextPlaces_nf (a.1) (a.2) _ _).trans ((impl_nextPlaces_bind (a.1) (a.2) _).trans (by rw [hq]; rfl))⟩
/-! loop.example/g00249/impl.NextPlaces -/
noncomputable def impl_NextPlaces_K (x0 : List GIns) (x1 : Int) {ρ : Type} (K : List Int → Option ρ) : Option ρ :=
  Option.bind (impl_CodeOk x0) fun r1 =>
  cond ((!r1) == false)
    (Option.bind (impl_in x1 0 (w64 ((((x0.length : Nat) : Int)) - 1))) fun r2 =>
    cond (!r2)
      (K [])
      (Option.bind (impl_nextPlaces x0 x1) fun r3 =>
      K r3))
    (K [])
noncomputable def impl_NextPlaces (x0 : List GIns) (x1 : Int) : Option (List Int) := impl_NextPlaces_K x0 x1 some
theorem impl_NextPlaces_bind (x0 : List GIns) (x1 : Int) {ρ : Type} (K : List Int → Option ρ) : impl_NextPlaces_K x0 x1 K = (impl_NextPlaces x0 x1).bind K := by
  simp only [impl_NextPlaces, impl_NextPlaces_K, Option.bind_assoc, Option.bind_some, Option.bind_none, cond_bind, sumK_bind]
noncomputable def impl_NextPlaces_E : Env Row := envN false 71 1 [(125, impl_in_C), (56, impl_CodeOk_C), (162, impl_nextPlaces_C)] []
theorem impl_NextPlaces_nf (x0 : List GIns) (x1 : Int) (ρ : Type) (K : V → Heap Row → Option ρ) : evBody rowU impl_NextPlaces_E (bodyC 71) [.c (.sl 0 0), .c (.int .i64 x1)] [⟨.row ⟨.ins, x0⟩, 0, 1⟩] K = impl_NextPlaces_K x0 x1 (fun r => K (.c (.sl 1 0)) [⟨.row ⟨.ins, x0⟩, 0, 1⟩, ⟨.row ⟨.int, r⟩, 0, 2⟩]) := by kernel_rfl
def impl_NextPlaces_D : List V → Heap Row → Option (List GIns × Int)
  | [.c (.sl 0 0), .c (.int .i64 v1)], [⟨.row ⟨.ins, v2⟩, 0, 1⟩] => some (v2, v1)
  | _, _ => none
theorem impl_NextPlaces_D_ok {vs : List V} {W : Heap Row} {a : List GIns × Int} (h : impl_NextPlaces_D vs W = some a) : vs = [.c (.sl 0 0), .c (.int .i64 (a.2))] ∧ W = [⟨.row ⟨.ins, a.1⟩, 0, 1⟩] := by
  unfold impl_NextPlaces_D at h
  split at h
  · simp at h; subst h; exact ⟨rfl, rfl⟩
  · simp at h
noncomputable def impl_NextPlaces_C : Callee Row := ⟨[(false, 0)], fun _ vs W K => (impl_NextPlaces_D vs W).bind fun a => (impl_NextPlaces a.1 a.2).bind fun r => K (.c (.sl 1 0)) [⟨.row ⟨.ins, a.1⟩, 0, 1⟩, ⟨.row ⟨.int, r⟩, 0, 2⟩]⟩
theorem impl_NextPlaces_ok : CalleeOk Try.prog rowU 71 impl_NextPlaces_C := by
  refine calleeP (nl := false) (m0 := 1) (T := [(125, impl_in_C), (56, impl_CodeOk_C), (162, impl_nextPlaces_C)]) (H := []) (TabOk.cons impl_in_ok (TabOk.cons impl_CodeOk_ok (TabOk.cons impl_nextPlaces_ok TabOk.nil))) (by kernel_rfl) (by kernel_rfl) (fun p hp => nomatch hp) fun ρ vs W K r h => ?_
  obtain ⟨a, ha, h1⟩ := Option.bind_eq_some_iff.1 h
  clear h
  obtain ⟨rfl, rfl⟩ := impl_NextPlaces_D_ok ha
  obtain ⟨q, hq, h2⟩ := Option.bind_eq_some_iff.1 h1
  exact ⟨_, _, h2, (impl_NextPlaces_nf (a.1) (a.2) _ _).trans ((impl_NextPlaces_bind (a.1) (a.2) _).trans (by rw [hq]; rfl))⟩
/-! loop.example/g00249/laws.eqIntS -/
noncomputable def laws_eqIntS_L0_K (l0 : List Int) (l1 : List Int) (n2 : Int) {ρ : Type} (A : Int → Option ρ) (X : Unit → Option ρ) (R : Unit → Option ρ) : Option ρ :=
  cond (decide (n2 < (((l0.length : Nat) : Int))))
    (cond (decide (0 ≤ n2)) (cond (decide (n2 < (((l0.length : Nat) : Int)))) (cond (decide (0 ≤ n2)) (cond (decide (n2 < (((l1.length : Nat) : Int)))) (cond ((List.getD l0 (n2.toNat) 0) != (List.getD l1 (n2.toNat) 0))
      (R ())
      (A (w64 (n2 + 1)))) none) none) none) none)
    (X ())
noncomputable def laws_eqIntS_L0_step (l0 : List Int) (l1 : List Int) (s : Int) : Option (Rnd (Int) (Unit) (Unit)) := laws_eqIntS_L0_K l0 l1 s (fun s => some (.again s)) (fun t => some (.exit t)) (fun k => some (.ret k))
theorem laws_eqIntS_L0_bind (l0 : List Int) (l1 : List Int) (s : Int) {ρ : Type} (A : Int → Option ρ) (X : Unit → Option ρ) (R : Unit → Option ρ) : laws_eqIntS_L0_K l0 l1 s A X R = (laws_eqIntS_L0_step l0 l1 s).bind (rndE A X R) := by
  simp only [laws_eqIntS_L0_step, laws_eqIntS_L0_K, Option.bind_assoc, Option.bind_some, Option.bind_none, cond_bind, sumK_bind, rndE_again, rndE_exit, rndE_ret]
def laws_eqIntS_L0_st (p : List Int × List Int) (s : Int) : List V × Heap Row := ([.c (.sl 0 0), .c (.sl 1 0), .c (.int .i64 (s))], [⟨.row ⟨.int, p.1⟩, 0, 1⟩, ⟨.row ⟨.int, p.2⟩, 0, 1⟩])
def laws_eqIntS_L0_so (p : List Int × List Int) (t : Unit) : List V × Heap Row := ([], [⟨.row ⟨.int, p.1⟩, 0, 1⟩, ⟨.row ⟨.int, p.2⟩, 0, 1⟩])
def laws_eqIntS_L0_sr (p : List Int × List Int) (k : Unit) : List V × Heap Row := ([.c (.bool false)], [⟨.row ⟨.int, p.1⟩, 0, 1⟩, ⟨.row ⟨.int, p.2⟩, 0, 1⟩])
def laws_eqIntS_L0_D : List V → Heap Row → Option ((List Int × List Int) × (Int))
  | [.c (.sl 0 0), .c (.sl 1 0), .c (.int .i64 v1)], [⟨.row ⟨.int, v2⟩, 0, 1⟩, ⟨.row ⟨.int, v3⟩, 0, 1⟩] => some ((v2, v3), (v1))
  | _, _ => none
theorem laws_eqIntS_L0_D_ok (vs : List V) (L : Heap Row) (p : List Int × List Int) (s : Int) (h : laws_eqIntS_L0_D vs L = some (p, s)) : laws_eqIntS_L0_st p s = (vs, L) := by
  unfold laws_eqIntS_L0_D at h
  split at h
  · simp at h; obtain ⟨rfl, rfl⟩ := h; rfl
  · simp at h
noncomputable def laws_eqIntS_L0_H : LoopH Row := loopR [0, 1, 5] [] laws_eqIntS_L0_D (fun p => laws_eqIntS_L0_step (p.1) (p.2)) laws_eqIntS_L0_so laws_eqIntS_L0_sr
theorem laws_eqIntS_L0_nf (p : List Int × List Int) (s : Int) (ρ : Type) (again Kx Kr : List V → Heap Row → Option ρ) : evRound rowU (envOf 47 2 [] [(0, laws_eqIntS_L0_H)]) 0 laws_eqIntS_L0_H (loopC 47 0) again (laws_eqIntS_L0_st p s).1 (laws_eqIntS_L0_st p s).2 Kx Kr = laws_eqIntS_L0_K (p.1) (p.2) s (fun s => again (laws_eqIntS_L0_st p s).1 (laws_eqIntS_L0_st p s).2) (fun t => Kx (laws_eqIntS_L0_so p t).1 (laws_eqIntS_L0_so p t).2) (fun k => Kr (laws_eqIntS_L0_sr p k).1 (laws_eqIntS_L0_sr p k).2) := by kernel_rfl
theorem laws_eqIntS_L0_ok (hb : LoopsOk Try.prog rowU (envOf 47 2 [] [(0, laws_eqIntS_L0_H)]) (loopAt (codeP 47) 0)) : LoopOk Try.prog rowU (envOf 47 2 [] [(0, laws_eqIntS_L0_H)]) 0 (loopAt (codeP 47) 0) laws_eqIntS_L0_H :=
  loopR_ok tagOk mixed envNl (envT TabOk.nil) hb laws_eqIntS_L0_st laws_eqIntS_L0_D_ok fun p s ρ A Kx Kr => (laws_eqIntS_L0_nf p s ρ A Kx Kr).trans (laws_eqIntS_L0_bind (p.1) (p.2) s _ _ _)
noncomputable def laws_eqIntS_K (x0 : List Int) (x1 : List Int) {ρ : Type} (K : Bool → Option ρ) : Option ρ :=
  cond ((((x0.length : Nat) : Int)) != (((x1.length : Nat) : Int)))
    (K false)
    (Option.bind (runL (laws_eqIntS_L0_step x0 x1) 0) fun ot1 => sumK ot1
      (fun t1 => K true)
      (fun k2 => K false))
noncomputable def laws_eqIntS (x0 : List Int) (x1 : List Int) : Option (Bool) := laws_eqIntS_K x0 x1 some
theorem laws_eqIntS_bind (x0 : List Int) (x1 : List Int) {ρ : Type} (K : Bool → Option ρ) : laws_eqIntS_K x0 x1 K = (laws_eqIntS x0 x1).bind K := by
  simp only [laws_eqIntS, laws_eqIntS_K, Option.bind_assoc, Option.bind_some, Option.bind_none, cond_bind, sumK_bind]
noncomputable def laws_eqIntS_E : Env Row := envN false 47 2 [] [(0, laws_eqIntS_L0_H)]
theorem laws_eqIntS_nf (x0 : List Int) (x1 : List Int) (ρ : Type) (K : V → Heap Row → Option ρ) : evBody rowU laws_eqIntS_E (bodyC 47) [.c (.sl 0 0), .c (.sl 1 0)] [⟨.row ⟨.int, x0⟩, 0, 1⟩, ⟨.row ⟨.int, x1⟩, 0, 1⟩] K = laws_eqIntS_K x0 x1 (fun r => K (.c (.bool r)) [⟨.row ⟨.int, x0⟩, 0, 1⟩, ⟨.row ⟨.int, x1⟩, 0, 1⟩]) := by kernel_rfl
def laws_eqIntS_D : List V → Heap Row → Option (List Int × List Int)
  | [.c (.sl 0 0), .c (.sl 1 0)], [⟨.row ⟨.int, v1⟩, 0, 1⟩, ⟨.row ⟨.int, v2⟩, 0, 1⟩] => some (v1, v2)
  | _, _ => none
theorem laws_eqIntS_D_ok {vs : List V} {W : Heap Row} {a : List Int × List Int} (h : laws_eqIntS_D vs W = some a) : vs = [.c (.sl 0 0), .c (.sl 1 0)] ∧ W = [⟨.row ⟨.int, a.1⟩, 0, 1⟩, ⟨.row ⟨.int, a.2⟩, 0, 1⟩] := by
  unfold laws_eqIntS_D at h
  split at h
  · simp at h; subst h; exact ⟨rfl, rfl⟩
  · simp at h
noncomputable def laws_eqIntS_C : Callee Row := ⟨[(false, 0), (false, 0)], fun _ vs W K => (laws_eqIntS_D vs W).bind fun a => (laws_eqIntS a.1 a.2).bind fun r => K (.c (.bool r)) [⟨.row ⟨.int, a.1⟩, 0, 1⟩, ⟨.row ⟨.int, a.2⟩, 0, 1⟩]⟩
theorem laws_eqIntS_ok : CalleeOk Try.prog rowU 47 laws_eqIntS_C := by
  refine calleeP (nl := false) (m0 := 2) (T := []) (H := [(0, laws_eqIntS_L0_H)]) TabOk.nil (by kernel_rfl) (by kernel_rfl) (fun p hp hb => by
    simp only [List.mem_cons, List.not_mem_nil, or_false] at hp
    subst hp
    exact laws_eqIntS_L0_ok hb) fun ρ vs W K r h => ?_
  obtain ⟨a, ha, h1⟩ := Option.bind_eq_some_iff.1 h
  clear h
  obtain ⟨rfl, rfl⟩ := laws_eqIntS_D_ok ha
  obtain ⟨q, hq, h2⟩ := Option.bind_eq_some_iff.1 h1
  exact ⟨_, _, h2, (laws_eqIntS_nf (a.1) (a.2) _ _).trans ((laws_eqIntS_bind (a.1) (a.2) _).trans (by rw [hq]; rfl))⟩
/-! loop.example/g00249/laws.eqIns -/
def laws_eqIns_K (x0 : GIns) (x1 : GIns) {ρ : Type} (K : Bool → Option ρ) : Option ρ :=
  cond (x0.op != x1.op)
    (K false)
    (cond (x0.r != x1.r)
      (K false)
      (cond (x0.a != x1.a)
        (K false)
        (cond (x0.b != x1.b)
          (K false)
          (cond (x0.n != x1.n)
            (K false)
            (K true)))))
def laws_eqIns (x0 : GIns) (x1 : GIns) : Option (Bool) := laws_eqIns_K x0 x1 some
theorem laws_eqIns_bind (x0 : GIns) (x1 : GIns) {ρ : Type} (K : Bool → Option ρ) : laws_eqIns_K x0 x1 K = (laws_eqIns x0 x1).bind K := by
  simp only [laws_eqIns, laws_eqIns_K, Option.bind_assoc, Option.bind_some, Option.bind_none, cond_bind, sumK_bind]
noncomputable def laws_eqIns_E : Env Row := envN false 163 0 [] []
theorem laws_eqIns_nf (x0 : GIns) (x1 : GIns) (ρ : Type) (K : V → Heap Row → Option ρ) : evBody rowU laws_eqIns_E (bodyC 163) [.a [.int .i64 x0.op, .int .i64 x0.r, .int .i64 x0.a, .int .i64 x0.b, .int .i64 x0.n], .a [.int .i64 x1.op, .int .i64 x1.r, .int .i64 x1.a, .int .i64 x1.b, .int .i64 x1.n]] [] K = laws_eqIns_K x0 x1 (fun r => K (.c (.bool r)) []) := by kernel_rfl
def laws_eqIns_D : List V → Heap Row → Option (GIns × GIns)
  | [.a (.int .i64 v1 :: .int .i64 v2 :: .int .i64 v3 :: .int .i64 v4 :: .int .i64 v5 :: []), .a (.int .i64 v6 :: .int .i64 v7 :: .int .i64 v8 :: .int .i64 v9 :: .int .i64 v10 :: [])], [] => some (⟨v1, v2, v3, v4, v5⟩, ⟨v6, v7, v8, v9, v10⟩)
  | _, _ => none
theorem laws_eqIns_D_ok {vs : List V} {W : Heap Row} {a : GIns × GIns} (h : laws_eqIns_D vs W = some a) : vs = [.a [.int .i64 (a.1).op, .int .i64 (a.1).r, .int .i64 (a.1).a, .int .i64 (a.1).b, .int .i64 (a.1).n], .a [.int .i64 (a.2).op, .int .i64 (a.2).r, .int .i64 (a.2).a, .int .i64 (a.2).b, .int .i64 (a.2).n]] ∧ W = [] := by
  unfold laws_eqIns_D at h
  split at h
  · simp at h; subst h; exact ⟨rfl, rfl⟩
  · simp at h
def laws_eqIns_C : Callee Row := ⟨[], fun _ vs W K => (laws_eqIns_D vs W).bind fun a => (laws_eqIns a.1 a.2).bind fun r => K (.c (.bool r)) []⟩
theorem laws_eqIns_ok : CalleeOk Try.prog rowU 163 laws_eqIns_C := by
  refine calleeP (nl := false) (m0 := 0) (T := []) (H := []) TabOk.nil (by kernel_rfl) (by kernel_rfl) (fun p hp => nomatch hp) fun ρ vs W K r h => ?_
  obtain ⟨a, ha, h1⟩ := Option.bind_eq_some_iff.1 h
  clear h
  obtain ⟨rfl, rfl⟩ := laws_eqIns_D_ok ha
  obtain ⟨q, hq, h2⟩ := Option.bind_eq_some_iff.1 h1
  exact ⟨_, _, h2, (laws_eqIns_nf (a.1) (a.2) _ _).trans ((laws_eqIns_bind (a.1) (a.2) _).trans (by rw [hq]; rfl))⟩
/-! loop.example/g00249/laws.eqInsS -/
noncomputable def laws_eqInsS_L0_K (l0 : List GIns) (l1 : List GIns) (n2 : Int) {ρ : Type} (A : Int → Option ρ) (X : Unit → Option ρ) (R : Unit → Option ρ) : Option ρ :=
  cond (decide (n2 < (((l0.length : Nat) : Int))))
    (cond (decide (0 ≤ n2)) (cond (decide (n2 < (((l0.length : Nat) : Int)))) (cond (decide (0 ≤ n2)) (cond (decide (n2 < (((l1.length : Nat) : Int)))) (Option.bind (laws_eqIns (List.getD l0 (n2.toNat) (default)) (List.getD l1 (n2.toNat) (default))) fun r1 =>
    cond (!r1)
      (R ())
      (A (w64 (n2 + 1)))) none) none) none) none)
    (X ())
noncomputable def laws_eqInsS_L0_step (l0 : List GIns) (l1 : List GIns) (s : Int) : Option (Rnd (Int) (Unit) (Unit)) := laws_eqInsS_L0_K l0 l1 s (fun s => some (.again s)) (fun t => some (.exit t)) (fun k => some (.ret k))
theorem laws_eqInsS_L0_bind (l0 : List GIns) (l1 : List GIns) (s : Int) {ρ : Type} (A : Int → Option ρ) (X : Unit → Option ρ) (R : Unit → Option ρ) : laws_eqInsS_L0_K l0 l1 s A X R = (laws_eqInsS_L0_step l0 l1 s).bind (rndE A X R) := by
  simp only [laws_eqInsS_L0_step, laws_eqInsS_L0_K, Option.bind_assoc, Option.bind_some, Option.bind_none, cond_bind, sumK_bind, rndE_again, rndE_exit, rndE_ret]
def laws_eqInsS_L0_st (p : List GIns × List GIns) (s : Int) : List V × Heap Row := ([.c (.sl 0 0), .c (.sl 1 0), .c (.int .i64 (s))], [⟨.row ⟨.ins, p.1⟩, 0, 1⟩, ⟨.row ⟨.ins, p.2⟩, 0, 1⟩])
def laws_eqInsS_L0_so (p : List GIns × List GIns) (t : Unit) : List V × Heap Row := ([], [⟨.row ⟨.ins, p.1⟩, 0, 1⟩, ⟨.row ⟨.ins, p.2⟩, 0, 1⟩])
def laws_eqInsS_L0_sr (p : List GIns × List GIns) (k : Unit) : List V × Heap Row := ([.c (.bool false)], [⟨.row ⟨.ins, p.1⟩, 0, 1⟩, ⟨.row ⟨.ins, p.2⟩, 0, 1⟩])
def laws_eqInsS_L0_D : List V → Heap Row → Option ((List GIns × List GIns) × (Int))
  | [.c (.sl 0 0), .c (.sl 1 0), .c (.int .i64 v1)], [⟨.row ⟨.ins, v2⟩, 0, 1⟩, ⟨.row ⟨.ins, v3⟩, 0, 1⟩] => some ((v2, v3), (v1))
  | _, _ => none
theorem laws_eqInsS_L0_D_ok (vs : List V) (L : Heap Row) (p : List GIns × List GIns) (s : Int) (h : laws_eqInsS_L0_D vs L = some (p, s)) : laws_eqInsS_L0_st p s = (vs, L) := by
  unfold laws_eqInsS_L0_D at h
  split at h
  · simp at h; obtain ⟨rfl, rfl⟩ := h; rfl
  · simp at h
noncomputable def laws_eqInsS_L0_H : LoopH Row := loopR [0, 1, 5] [] laws_eqInsS_L0_D (fun p => laws_eqInsS_L0_step (p.1) (p.2)) laws_eqInsS_L0_so laws_eqInsS_L0_sr
theorem laws_eqInsS_L0_nf (p : List GIns × List GIns) (s : Int) (ρ : Type) (again Kx Kr : List V → Heap Row → Option ρ) : evRound rowU (envOf 72 2 [(163, laws_eqIns_C)] [(0, laws_eqInsS_L0_H)]) 0 laws_eqInsS_L0_H (loopC 72 0) again (laws_eqInsS_L0_st p s).1 (laws_eqInsS_L0_st p s).2 Kx Kr = laws_eqInsS_L0_K (p.1) (p.2) s (fun s => again (laws_eqInsS_L0_st p s).1 (laws_eqInsS_L0_st p s).2) (fun t => Kx (laws_eqInsS_L0_so p t).1 (laws_eqInsS_L0_so p t).2) (fun k => Kr (laws_eqInsS_L0_sr p k).1 (laws_eqInsS_L0_sr p k).2) := by kernel_rfl
theorem laws_eqInsS_L0_ok (hb : LoopsOk Try.prog rowU (envOf 72 2 [(163, laws_eqIns_C)] [(0, laws_eqInsS_L0_H)]) (loopAt (codeP 72) 0)) : LoopOk Try.prog rowU (envOf 72 2 [(163, laws_eqIns_C)] [(0, laws_eqInsS_L0_H)]) 0 (loopAt (codeP 72) 0) laws_eqInsS_L0_H :=
  loopR_ok tagOk mixed envNl (envT (TabOk.cons laws_eqIns_ok TabOk.nil)) hb laws_eqInsS_L0_st laws_eqInsS_L0_D_ok fun p s ρ A Kx Kr => (laws_eqInsS_L0_nf p s ρ A Kx Kr).trans (laws_eqInsS_L0_bind (p.1) (p.2) s _ _ _)
noncomputable def laws_eqInsS_K (x0 : List GIns) (x1 : List GIns) {ρ : Type} (K : Bool → Option ρ) : Option ρ :=
  cond ((((x0.length : Nat) : Int)) != (((x1.length : Nat) : Int)))
    (K false)
    (Option.bind (runL (laws_eqInsS_L0_step x0 x1) 0) fun ot2 => sumK ot2
      (fun t2 => K true)
      (fun k3 => K false))
noncomputable def laws_eqInsS (x0 : List GIns) (x1 : List GIns) : Option (Bool) := laws_eqInsS_K x0 x1 some
theorem laws_eqInsS_bind (x0 : List GIns) (x1 : List GIns) {ρ : Type} (K : Bool → Option ρ) : laws_eqInsS_K x0 x1 K = (laws_eqInsS x0 x1).bind K := by
  simp only [laws_eqInsS, laws_eqInsS_K, Option.bind_assoc, Option.bind_some, Option.bind_none, cond_bind, sumK_bind]
noncomputable def laws_eqInsS_E : Env Row := envN false 72 2 [(163, laws_eqIns_C)] [(0, laws_eqInsS_L0_H)]
theorem laws_eqInsS_nf (x0 : List GIns) (x1 : List GIns) (ρ : Type) (K : V → Heap Row → Option ρ) : evBody rowU laws_eqInsS_E (bodyC 72) [.c (.sl 0 0), .c (.sl 1 0)] [⟨.row ⟨.ins, x0⟩, 0, 1⟩, ⟨.row ⟨.ins, x1⟩, 0, 1⟩] K = laws_eqInsS_K x0 x1 (fun r => K (.c (.bool r)) [⟨.row ⟨.ins, x0⟩, 0, 1⟩, ⟨.row ⟨.ins, x1⟩, 0, 1⟩]) := by kernel_rfl
def laws_eqInsS_D : List V → Heap Row → Option (List GIns × List GIns)
  | [.c (.sl 0 0), .c (.sl 1 0)], [⟨.row ⟨.ins, v1⟩, 0, 1⟩, ⟨.row ⟨.ins, v2⟩, 0, 1⟩] => some (v1, v2)
  | _, _ => none
theorem laws_eqInsS_D_ok {vs : List V} {W : Heap Row} {a : List GIns × List GIns} (h : laws_eqInsS_D vs W = some a) : vs = [.c (.sl 0 0), .c (.sl 1 0)] ∧ W = [⟨.row ⟨.ins, a.1⟩, 0, 1⟩, ⟨.row ⟨.ins, a.2⟩, 0, 1⟩] := by
  unfold laws_eqInsS_D at h
  split at h
  · simp at h; subst h; exact ⟨rfl, rfl⟩
  · simp at h
noncomputable def laws_eqInsS_C : Callee Row := ⟨[(false, 0), (false, 0)], fun _ vs W K => (laws_eqInsS_D vs W).bind fun a => (laws_eqInsS a.1 a.2).bind fun r => K (.c (.bool r)) [⟨.row ⟨.ins, a.1⟩, 0, 1⟩, ⟨.row ⟨.ins, a.2⟩, 0, 1⟩]⟩
theorem laws_eqInsS_ok : CalleeOk Try.prog rowU 72 laws_eqInsS_C := by
  refine calleeP (nl := false) (m0 := 2) (T := [(163, laws_eqIns_C)]) (H := [(0, laws_eqInsS_L0_H)]) (TabOk.cons laws_eqIns_ok TabOk.nil) (by kernel_rfl) (by kernel_rfl) (fun p hp hb => by
    simp only [List.mem_cons, List.not_mem_nil, or_false] at hp
    subst hp
    exact laws_eqInsS_L0_ok hb) fun ρ vs W K r h => ?_
  obtain ⟨a, ha, h1⟩ := Option.bind_eq_some_iff.1 h
  clear h
  obtain ⟨rfl, rfl⟩ := laws_eqInsS_D_ok ha
  obtain ⟨q, hq, h2⟩ := Option.bind_eq_some_iff.1 h1
  exact ⟨_, _, h2, (laws_eqInsS_nf (a.1) (a.2) _ _).trans ((laws_eqInsS_bind (a.1) (a.2) _).trans (by rw [hq]; rfl))⟩
/-! loop.example/g00249/laws.markInsS -/
noncomputable def laws_markInsS_L0_K  (l0 : List GIns) (n1 : Int) (n2 : Int) {ρ : Type} (A : List GIns × Int × Int → Option ρ) (X : List GIns × Int → Option ρ) (R : Unit → Option ρ) : Option ρ :=
  cond (decide (n2 < (((l0.length : Nat) : Int))))
    (cond (decide (0 ≤ n2)) (cond (decide (n2 < (((l0.length : Nat) : Int)))) (cond (decide (0 ≤ n2)) (cond (decide (n2 < ((((modL l0 (n2.toNat) (fun (w : GIns) => (⟨n1, w.r, w.a, w.b, w.n⟩ : GIns)) (default)).length : Nat) : Int)))) (cond (decide (0 ≤ n2)) (cond (decide (n2 < ((((modL (modL l0 (n2.toNat) (fun (w : GIns) => (⟨n1, w.r, w.a, w.b, w.n⟩ : GIns)) (default)) (n2.toNat) (fun (w : GIns) => (⟨w.op, w64 (n1 + 1), w.a, w.b, w.n⟩ : GIns)) (default)).length : Nat) : Int)))) (cond (decide (0 ≤ n2)) (cond (decide (n2 < ((((modL (modL (modL l0 (n2.toNat) (fun (w : GIns) => (⟨n1, w.r, w.a, w.b, w.n⟩ : GIns)) (default)) (n2.toNat) (fun (w : GIns) => (⟨w.op, w64 (n1 + 1), w.a, w.b, w.n⟩ : GIns)) (default)) (n2.toNat) (fun (w : GIns) => (⟨w.op, w.r, w64 ((w64 (n1 + 1)) + 1), w.b, w.n⟩ : GIns)) (default)).length : Nat) : Int)))) (cond (decide (0 ≤ n2)) (cond (decide (n2 < ((((modL (modL (modL (modL l0 (n2.toNat) (fun (w : GIns) => (⟨n1, w.r, w.a, w.b, w.n⟩ : GIns)) (default)) (n2.toNat) (fun (w : GIns) => (⟨w.op, w64 (n1 + 1), w.a, w.b, w.n⟩ : GIns)) (default)) (n2.toNat) (fun (w : GIns) => (⟨w.op, w.r, w64 ((w64 (n1 + 1)) + 1), w.b, w.n⟩ : GIns)) (default)) (n2.toNat) (fun (w : GIns) => (⟨w.op, w.r, w.a, w64 ((w64 ((w64 (n1 + 1)) + 1)) + 1), w.n⟩ : GIns)) (default)).length : Nat) : Int)))) (A (modL (modL (modL (modL (modL l0 (n2.toNat) (fun (w : GIns) => (⟨n1, w.r, w.a, w.b, w.n⟩ : GIns)) (default)) (n2.toNat) (fun (w : GIns) => (⟨w.op, w64 (n1 + 1), w.a, w.b, w.n⟩ : GIns)) (default)) (n2.toNat) (fun (w : GIns) => (⟨w.op, w.r, w64 ((w64 (n1 + 1)) + 1), w.b, w.n⟩ : GIns)) (default)) (n2.toNat) (fun (w : GIns) => (⟨w.op, w.r, w.a, w64 ((w64 ((w64 (n1 + 1)) + 1)) + 1), w.n⟩ : GIns)) (default)) (n2.toNat) (fun (w : GIns) => (⟨w.op, w.r, w.a, w.b, w64 ((w64 ((w64 ((w64 (n1 + 1)) + 1)) + 1)) + 1)⟩ : GIns)) (default), w64 ((w64 ((w64 ((w64 ((w64 (n1 + 1)) + 1)) + 1)) + 1)) + 1), w64 (n2 + 1))) none) none) none) none) none) none) none) none) none) none)
    (X (l0, n1))
noncomputable def laws_markInsS_L0_step  (s : List GIns × Int × Int) : Option (Rnd (List GIns × Int × Int) (List GIns × Int) (Unit)) := laws_markInsS_L0_K  (s.1) (s.2.1) (s.2.2) (fun s => some (.again s)) (fun t => some (.exit t)) (fun k => some (.ret k))
theorem laws_markInsS_L0_bind  (s : List GIns × Int × Int) {ρ : Type} (A : List GIns × Int × Int → Option ρ) (X : List GIns × Int → Option ρ) (R : Unit → Option ρ) : laws_markInsS_L0_K  (s.1) (s.2.1) (s.2.2) A X R = (laws_markInsS_L0_step  s).bind (rndE A X R) := by
  simp only [laws_markInsS_L0_step, laws_markInsS_L0_K, Option.bind_assoc, Option.bind_some, Option.bind_none, cond_bind, sumK_bind, rndE_again, rndE_exit, rndE_ret]
def laws_markInsS_L0_st (p : Unit) (s : List GIns × Int × Int) : List V × Heap Row := ([.c (.sl 0 0), .c (.int .i64 (s.2.1)), .c (.int .i64 (s.2.2))], [⟨.row ⟨.ins, s.1⟩, 0, 2⟩])
def laws_markInsS_L0_so (p : Unit) (t : List GIns × Int) : List V × Heap Row := ([.c (.int .i64 (t).2)], [⟨.row ⟨.ins, (t).1⟩, 0, 2⟩])
def laws_markInsS_L0_D : List V → Heap Row → Option ((Unit) × (List GIns × Int × Int))
  | [.c (.sl 0 0), .c (.int .i64 v1), .c (.int .i64 v2)], [⟨.row ⟨.ins, v3⟩, 0, 2⟩] => some ((), (v3, v1, v2))
  | _, _ => none
theorem laws_markInsS_L0_D_ok (vs : List V) (L : Heap Row) (p : Unit) (s : List GIns × Int × Int) (h : laws_markInsS_L0_D vs L = some (p, s)) : laws_markInsS_L0_st p s = (vs, L) := by
  unfold laws_markInsS_L0_D at h
  split at h
  · simp at h; obtain ⟨rfl, rfl⟩ := h; rfl
  · simp at h
noncomputable def laws_markInsS_L0_H : LoopH Row := loopX [0, 1, 5] [1] laws_markInsS_L0_D (fun p => laws_markInsS_L0_step ) laws_markInsS_L0_so
theorem laws_markInsS_L0_nf (p : Unit) (s : List GIns × Int × Int) (ρ : Type) (again Kx Kr : List V → Heap Row → Option ρ) : evRound rowU (envOf 73 1 [] [(0, laws_markInsS_L0_H)]) 0 laws_markInsS_L0_H (loopC 73 0) again (laws_markInsS_L0_st p s).1 (laws_markInsS_L0_st p s).2 Kx Kr = laws_markInsS_L0_K  (s.1) (s.2.1) (s.2.2) (fun s => again (laws_markInsS_L0_st p s).1 (laws_markInsS_L0_st p s).2) (fun t => Kx (laws_markInsS_L0_so p t).1 (laws_markInsS_L0_so p t).2) (fun _ => none) := by kernel_rfl
theorem laws_markInsS_L0_ok (hb : LoopsOk Try.prog rowU (envOf 73 1 [] [(0, laws_markInsS_L0_H)]) (loopAt (codeP 73) 0)) : LoopOk Try.prog rowU (envOf 73 1 [] [(0, laws_markInsS_L0_H)]) 0 (loopAt (codeP 73) 0) laws_markInsS_L0_H :=
  loopX_ok tagOk mixed envNl (envT TabOk.nil) hb laws_markInsS_L0_st laws_markInsS_L0_D_ok fun p s ρ A Kx Kr => (laws_markInsS_L0_nf p s ρ A Kx Kr).trans (laws_markInsS_L0_bind  s _ _ _)
noncomputable def laws_markInsS_K (x0 : List GIns) (x1 : Int) {ρ : Type} (K : Int × List GIns → Option ρ) : Option ρ :=
  Option.bind (runX (laws_markInsS_L0_step) (x0, x1, 0)) fun t1 =>
  K (t1.2, t1.1)
noncomputable def laws_markInsS (x0 : List GIns) (x1 : Int) : Option (Int × List GIns) := laws_markInsS_K x0 x1 some
theorem laws_markInsS_bind (x0 : List GIns) (x1 : Int) {ρ : Type} (K : Int × List GIns → Option ρ) : laws_markInsS_K x0 x1 K = (laws_markInsS x0 x1).bind K := by
  simp only [laws_markInsS, laws_markInsS_K, Option.bind_assoc, Option.bind_some, Option.bind_none, cond_bind, sumK_bind]
noncomputable def laws_markInsS_E : Env Row := envN false 73 1 [] [(0, laws_markInsS_L0_H)]
theorem laws_markInsS_nf (x0 : List GIns) (x1 : Int) (ρ : Type) (K : V → Heap Row → Option ρ) : evBody rowU laws_markInsS_E (bodyC 73) [.c (.sl 0 0), .c (.int .i64 x1)] [⟨.row ⟨.ins, x0⟩, 0, 2⟩] K = laws_markInsS_K x0 x1 (fun r => K (.c (.int .i64 r.1)) [⟨.row ⟨.ins, r.2⟩, 0, 2⟩]) := by kernel_rfl
def laws_markInsS_D : List V → Heap Row → Option (List GIns × Int)
  | [.c (.sl 0 0), .c (.int .i64 v1)], [⟨.row ⟨.ins, v2⟩, 0, 2⟩] => some (v2, v1)
  | _, _ => none
theorem laws_markInsS_D_ok {vs : List V} {W : Heap Row} {a : List GIns × Int} (h : laws_markInsS_D vs W = some a) : vs = [.c (.sl 0 0), .c (.int .i64 (a.2))] ∧ W = [⟨.row ⟨.ins, a.1⟩, 0, 2⟩] := by
  unfold laws_markInsS_D at h
  split at h
  · simp at h; subst h; exact ⟨rfl, rfl⟩
  · simp at h
noncomputable def laws_markInsS_C : Callee Row := ⟨[(true, 0)], fun _ vs W K => (laws_markInsS_D vs W).bind fun a => (laws_markInsS a.1 a.2).bind fun r => K (.c (.int .i64 r.1)) [⟨.row ⟨.ins, r.2⟩, 0, 2⟩]⟩
theorem laws_markInsS_ok : CalleeOk Try.prog rowU 73 laws_markInsS_C := by
  refine calleeP (nl := false) (m0 := 1) (T := []) (H := [(0, laws_markInsS_L0_H)]) TabOk.nil (by kernel_rfl) (by kernel_rfl) (fun p hp hb => by
    simp only [List.mem_cons, List.not_mem_nil, or_false] at hp
    subst hp
    exact laws_markInsS_L0_ok hb) fun ρ vs W K r h => ?_
  obtain ⟨a, ha, h1⟩ := Option.bind_eq_some_iff.1 h
  clear h
  obtain ⟨rfl, rfl⟩ := laws_markInsS_D_ok ha
  obtain ⟨q, hq, h2⟩ := Option.bind_eq_some_iff.1 h1
  exact ⟨_, _, h2, (laws_markInsS_nf (a.1) (a.2) _ _).trans ((laws_markInsS_bind (a.1) (a.2) _).trans (by rw [hq]; rfl))⟩
end Go.Eng
